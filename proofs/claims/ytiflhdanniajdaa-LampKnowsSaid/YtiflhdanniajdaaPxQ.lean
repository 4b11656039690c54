import Derived.Test.YtiflhdanniajdaaPxP
import Derived.Test.YtiflhdanniajdaaPxO
set_option linter.all false
set_option maxRecDepth 10000
namespace Go.PX
open Go.Proofs

/- Lamp: the reference: Agree; it has the program's truths. -/

def litsD (l : List (List Bool)) : D := .vs (l.map fun r => [boolsD r])

def agR (c : LCase) (l : List LTruth) : List (LTruth × List Bool) := (l.map fun t => (t, courseL c.lamp c.windings t)).filter fun p => decide (wrongF p.2 c.sights 0 = [])

def agreeRD (l : List (LTruth × List Bool)) : D := .tup [truthsD (l.map (·.1)), litsD (l.map (·.2))]

theorem agR_cons (c : LCase) (t : LTruth) (r : List LTruth) : agR c (t :: r) = if wrongF (courseL c.lamp c.windings t) c.sights 0 = [] then (t, courseL c.lamp c.windings t) :: agR c r else agR c r := by
  unfold agR
  rw [List.map_cons, List.filter_cons]
  by_cases h : wrongF (courseL c.lamp c.windings t) c.sights 0 = []
  · simp [h]
  · simp [h]

set_option maxHeartbeats 1000000 in
theorem la78 (c : LCase) (hR : CaseL c) : FnV Try.prog 78 [c.d] (agreeRD (agR c (allT c.lamp c.windings))) := by
  refine fnV_of mixed tysOk Try.func78 rfl (ft := ft78) 1 (by decide +kernel) (by rfl) fun {σ} Y st => ?_
  conv => whnf
  refine CallA_v (la86 c hR) rfl rfl ?_
  conv => whnf
  have hlen := allT_len hR
  have hT : ∀ t ∈ allT c.lamp c.windings, TruthR c t := fun t ht => mem_allT.1 ht
  generalize allT c.lamp c.windings = L at hlen hT
  have hn := hR.lamp.night
  have hs8 := hR.sights
  refine LoopA_i (T := tys) tysOk (by exact drawsB_spec mixed tysOk (by decide +kernel)) L (fun i (acc : List (LTruth × List Bool)) => ⟨[(1, .ptr 1 0), (4, .d (truthsD L)), (5, .sl 38 2 0 acc.length), (6, .sl 42 1 0 acc.length), (7, .d (i64 i))], [(1, .box (.dd c.cells)), (38, .arr 2 (.dd (acc.map fun p => p.1.cells))), (42, .arr 1 (.dd (acc.map fun p => [boolsD p.2])))], st⟩)
    (fun i r acc => agR c L = acc ++ agR c r ∧ acc.length ≤ i ∧ ∀ t ∈ r, TruthR c t) [] ((Wk.born 5 38 2 rfl rfl rfl).trans ((Wk.born 6 42 1 rfl rfl rfl).trans (Wk.sub ⟨(by first | rfl | (simp only [List.length_map]; rfl) | simp [PX.get]), (by first | rfl | (simp only [List.length_map]; rfl) | simp [PX.get]), (by first | rfl | (simp only [List.length_map]; rfl) | simp [PX.get]), (by first | rfl | (simp only [List.length_map]; rfl) | simp [PX.get]), (by first | rfl | (simp only [List.length_map]; rfl) | simp [PX.get]), trivial⟩ ⟨(by first | rfl | (simp only [List.length_map]; rfl) | simp [PX.get]), (by first | rfl | (simp only [List.length_map]; rfl) | simp [PX.get]), (by first | rfl | (simp only [List.length_map]; rfl) | simp [PX.get]), trivial⟩))) ⟨rfl, by simp, hT⟩ ?_ ?_
  · intro i t r acc hx hi hr ⟨he, hal, hTr⟩
    rw [agR_cons] at he
    have ht := hTr t (by simp)
    have hrest : ∀ t ∈ r, TruthR c t := fun t ht => hTr t (by simp [ht])
    obtain ⟨k1, k2, k3⟩ := courseL_len (w := c.windings) (t := t) hR.lamp
    conv => whnf
    refine brk_i (fun _ => ?_) (fun h => absurd hi (by simpa using h))
    conv => whnf
    refine elemK_nat hx ?_
    conv => whnf
    refine DrawCall_v (la50 c.lamp c.windings t (CrsR.of hR ht)) rfl rfl ?_
    conv => whnf
    refine CallA_v (la87 c.sights (courseL c.lamp c.windings t) (by omega) (fun s hs => by have := hR.sight s hs; omega)) rfl rfl ?_
    conv => whnf
    generalize courseL c.lamp c.windings t = lit at he k1 k2 k3
    by_cases hw : wrongF lit c.sights 0 = []
    · rw [if_pos hw] at he
      refine brk_i (fun _ => ?_) (fun h => absurd h (by simp [hw]))
      conv => whnf
      refine elemK_nat hx ?_
      conv => whnf
      refine ownK_whole rfl ?_
      conv => whnf
      refine ownK_whole (by simp [Els.len]) ?_
      conv => whnf
      refine chk_i (decide_eq_true (by
        show ((acc.map fun p => p.1.cells).length + 1) * 32 ≤ 140737488355328
        rw [List.length_map]; omega)) ?_
      conv => whnf
      refine ownK_whole rfl ?_
      conv => whnf
      refine ownK_whole (by simp [Els.len]) ?_
      conv => whnf
      refine chk_i (decide_eq_true (by
        show ((acc.map fun p => [boolsD p.2]).length + 1) * 24 ≤ 140737488355328
        rw [List.length_map]; omega)) ?_
      conv => whnf
      refine arith_in (wrap_i64 (by (try dsimp only); omega)) ?_
      conv => whnf
      refine ⟨acc ++ [(t, lit)], ⟨by rw [he]; simp, by simp; omega, hrest⟩, Wk.sub ⟨rfl, rfl, ?_, ?_, rfl, trivial⟩ ⟨rfl, ?_, ?_, trivial⟩⟩
      · show some (V.sl 38 2 0 ((acc.map fun p => p.1.cells).length + 1)) = _
        simp
      · show some (V.sl 42 1 0 ((acc.map fun p => [boolsD p.2]).length + 1)) = _
        simp
      · show some (Obj.arr 2 (Els.dd ((acc.map fun p => p.1.cells) ++ [t.cells]))) = _
        simp
      · show some (Obj.arr 1 (Els.dd ((acc.map fun p => [boolsD p.2]) ++ [[boolsD lit]]))) = _
        simp
    · rw [if_neg hw] at he
      refine brk_i (fun h => absurd h (by simp [hw])) (fun _ => ?_)
      conv => whnf
      refine arith_in (wrap_i64 (by (try dsimp only); omega)) ?_
      conv => whnf
      exact ⟨acc, ⟨he, by omega, hrest⟩, (Wk.sub ⟨(by first | rfl | (simp only [List.length_map]; rfl) | simp [PX.get]), (by first | rfl | (simp only [List.length_map]; rfl) | simp [PX.get]), (by first | rfl | (simp only [List.length_map]; rfl) | simp [PX.get]), (by first | rfl | (simp only [List.length_map]; rfl) | simp [PX.get]), (by first | rfl | (simp only [List.length_map]; rfl) | simp [PX.get]), trivial⟩ ⟨(by first | rfl | (simp only [List.length_map]; rfl) | simp [PX.get]), (by first | rfl | (simp only [List.length_map]; rfl) | simp [PX.get]), (by first | rfl | (simp only [List.length_map]; rfl) | simp [PX.get]), trivial⟩)⟩
  · intro acc ⟨he, hal, _⟩
    rw [show agR c [] = [] from rfl, List.append_nil] at he
    rw [he]
    conv => whnf
    refine brk_i (fun h => absurd h (by simp)) (fun _ => ?_)
    conv => whnf
    refine RetA_view 1 (ds := [truthsD (acc.map (·.1)), litsD (acc.map (·.2))]) ?_ ⟨⟨rfl, rfl⟩, rfl⟩
    exact viewL_cons (viewV_sl' rfl (by simp [Function.comp_def]) (by simp)) (viewL_cons (viewV_sl' rfl (by simp [Function.comp_def]) (by simp)) rfl)
end Go.PX

namespace Go.PX
open Go.Proofs

/- Lamp: the reference's truths that agree are the program's. -/

theorem lookM_upd {k v j : Int} : ∀ {m : List (Int × Int)}, lookM (updM m k v) j = if j = k then v else lookM m j
  | [] => by simp [updM, lookM]
  | (a, b) :: r => by
    rw [updM]
    by_cases h : k = a
    · rw [if_pos h, lookM, lookM]
      by_cases h2 : j = k
      · simp [h2]
      · rw [if_neg h2, if_neg h2, if_neg (by rw [← h]; exact h2)]
    · rw [if_neg h, lookM, lookM, lookM_upd]
      by_cases h2 : j = a
      · rw [if_pos h2, if_pos h2, if_neg (by rw [h2]; exact fun e => h e.symm)]
      · rw [if_neg h2, if_neg h2]

def codeW (a b : Bool) : Int := (if a then 1 else 0) + (if b then 2 else 0)

theorem codeW_or (a b l : Bool) : bitsI .or .i64 (codeW a b) (wantBit l) = codeW (a || !l) (b || l) := by
  cases a <;> cases b <;> cases l <;> decide +kernel

theorem codeW_and (a b l : Bool) : decide (bitsI .and .i64 (codeW a b) (if l then 1 else 2) = 0) = !(if l then a else b) := by
  cases a <;> cases b <;> cases l <;> decide +kernel

theorem look_want {s : Int} : ∀ {l : List LSight} {m : List (Int × Int)} {a b : Bool}, lookM m s = codeW a b → lookM (l.foldl wantStep m) s = codeW (a || l.any fun x => decide (x.second = s) && !x.lit) (b || l.any fun x => decide (x.second = s) && x.lit)
  | [], m, a, b, h => by simpa using h
  | x :: r, m, a, b, h => by
    rw [List.foldl_cons]
    have h1 : lookM (wantStep m x) s = codeW (a || (decide (x.second = s) && !x.lit)) (b || (decide (x.second = s) && x.lit)) := by
      unfold wantStep
      rw [lookM_upd]
      by_cases hs : s = x.second
      · rw [if_pos hs, ← hs, h, codeW_or]
        simp [hs]
      · rw [if_neg hs, h]
        have : decide (x.second = s) = false := decide_eq_false fun e => hs e.symm
        simp [this]
    rw [look_want h1]
    simp only [List.any_cons, Bool.or_assoc]

theorem wantF_eq (l : List LSight) (s : Int) (b : Bool) : wantF (wantM l) s b = !(l.any fun x => decide (x.second = s) && (x.lit != b)) := by
  unfold wantF wantM
  rw [look_want (a := false) (b := false) (by rfl), codeW_and]
  cases b with
  | true =>
    simp
  | false =>
    simp

theorem okW_iff {wf : Int → Bool → Bool} : ∀ {L : List Bool} {s : Int}, okW wf s L = true ↔ ∀ k b, L[k]? = some b → wf (s + (k : Nat)) b = true
  | [], s => by simp [okW]
  | b :: r, s => by
    rw [okW, Bool.and_eq_true, okW_iff]
    constructor
    · rintro ⟨h1, h2⟩ k c hk
      cases k with
      | zero =>
        have : b = c := by simpa using hk
        subst this
        simpa using h1
      | succ k =>
        have := h2 k c (by simpa using hk)
        rw [show s + ((k + 1 : Nat) : Int) = s + 1 + (k : Nat) by omega]
        exact this
    · intro h
      refine ⟨by simpa using h 0 b rfl, fun k c hk => ?_⟩
      have := h (k + 1) c (by simpa using hk)
      rw [show s + ((k + 1 : Nat) : Int) = s + 1 + (k : Nat) by omega] at this
      exact this

theorem wrongF_nil {lit : List Bool} : ∀ {l : List LSight} {i : Int}, wrongF lit l i = [] ↔ ∀ x ∈ l, lit.getD x.second.toNat false = x.lit
  | [], i => by simp [wrongF]
  | x :: r, i => by
    rw [wrongF]
    by_cases h : lit.getD x.second.toNat false = x.lit
    · rw [if_pos h, wrongF_nil, List.forall_mem_cons]
      exact ⟨fun h2 => ⟨h, h2⟩, fun h2 => h2.2⟩
    · rw [if_neg h]
      constructor
      · intro h2; cases h2
      · intro h2; exact absurd (h2 x (by simp)) h

theorem agree_same {l : List LSight} {L : List Bool} (hl : ∀ s ∈ l, 0 ≤ s.second ∧ s.second < L.length) : okW (wantF (wantM l)) 0 L = decide (wrongF L l 0 = []) := by
  rw [Bool.eq_iff_iff, decide_eq_true_eq, okW_iff, wrongF_nil]
  constructor
  · intro h x hx
    obtain ⟨h1, h2⟩ := hl x hx
    have hk : x.second.toNat < L.length := by omega
    have := h x.second.toNat L[x.second.toNat] (List.getElem?_eq_getElem hk)
    rw [wantF_eq, Bool.not_eq_true'] at this
    have hq := List.any_eq_false.1 this x hx
    have e : decide (x.second = 0 + (x.second.toNat : Int)) = true := decide_eq_true (by omega)
    rw [e, Bool.true_and] at hq
    have hq : x.lit = L[x.second.toNat] := by simpa using hq
    simp [List.getD_eq_getElem?_getD, hk, hq]
  · intro h k b hk
    rw [wantF_eq, Bool.not_eq_true']
    refine List.any_eq_false.2 fun x hx => ?_
    by_cases hs : x.second = 0 + (k : Int)
    · have := h x hx
      rw [show x.second.toNat = k by omega, List.getD_eq_getElem?_getD, hk] at this
      have : b = x.lit := by simpa using this
      simp [this]
    · rw [decide_eq_false hs]; simp

/-- The reference's truths that agree, and what they show, are the program's. -/
theorem agR_agL {c : LCase} (h0 : (checkL c).2.2 = 0) : agR c (allT c.lamp c.windings) = agL c := by
  have hR := checkL_ok h0
  unfold agR agL
  rw [truL_all (CaseL.up h0).1, List.filter_map]
  congr 1
  refine List.filter_congr fun t ht => ?_
  show decide (wrongF (courseL c.lamp c.windings t) c.sights 0 = []) = okW (wantF (wantM c.sights)) 0 (courseL c.lamp c.windings t)
  refine (agree_same fun s hs => ?_).symm
  have h1 := hR.sight s hs
  have h2 := (courseL_len (w := c.windings) (t := t) hR.lamp).2.2
  omega

theorem la78' (c : LCase) (h0 : (checkL c).2.2 = 0) : FnV Try.prog 78 [c.d] (agreeRD (agL c)) := FnV.cast (la78 c (checkL_ok h0)) (by rw [agR_agL h0])
end Go.PX

namespace Go.PX
open Go.Proofs

/- Lamp: Kept (the program). -/

theorem failsF_rng {l : List LPhase} : ∀ {r : List Bool} {b : Bool} {A : List LState} {s : Int}, failsF l r b A s = -1 ∨ (s ≤ failsF l r b A s ∧ failsF l r b A s < s + r.length)
  | [], _, _, _ => .inl rfl
  | x :: r, b, A, s => by
    rw [failsF]
    split
    · right; simp only [List.length_cons]; omega
    · rcases failsF_rng (r := r) (b := x) (A := A.filterMap (stepS l (x != b))) (s := s + 1) with h | h
      · exact .inl h
      · right; simp only [List.length_cons]; omega

theorem failsL_rng {l : List LPhase} {lit : List Bool} (h : lit.length ≤ 200) : -1 ≤ failsL lit l ∧ failsL lit l ≤ 200 := by
  unfold failsL
  cases lit with
  | nil => simp
  | cons b r =>
    simp only [List.length_cons] at h
    have := failsF_rng (l := l) (r := r) (b := b) (A := initA b l.length) (s := 1)
    simp only
    omega

set_option maxHeartbeats 1000000 in
theorem yields119 (c : LCase) (l : LLight) (h0 : (checkL c).2.2 = 0) (hl : LightR l) : YieldsT Try.prog 119 (failC c l) (tellH 0) (tellH (agL c).length) ((failuresL l.phases (agL c)).map fun x => ([.d (failedD x)], [])) := by
  intro γ Y g0 Q hit
  have hR := checkL_ok h0
  have hn := hR.lamp.night
  refine fnC_of mixed tysOk Try.func119 rfl (ft := ft119) (args := .yld :: failC c l) (show fnB ft119 Try.f119 4 = true from by decide +kernel) ?_
  conv => whnf
  refine CallA_v (la76 c hR) rfl rfl ?_
  conv => whnf
  refine RangeA_list tysOk (by exact drawsB_spec mixed tysOk (by decide +kernel)) (by exact drawsB_spec mixed tysOk (by decide +kernel)) rfl 1500000 1600000 [4] (by exact yields_agree h0)
    (fun (p : Nat × γ) => ([(1000000, .box (.vv [.clo 94 [.ptr 1000001 0]])), (1000001, .box (.dd [i64 p.1])), (1500000, .box (.vv [.yld]))], p.2))
    (fun (rest : List (LTruth × List Bool)) (p : Nat × γ) => iterT Y ((failuresL l.phases rest).map fun x => ([.d (failedD x)], [])) p.2 Q ∧ (∀ q ∈ rest, q.2.length = c.lamp.night.toNat) ∧ p.1 + rest.length = (agL c).length) (0, g0) rfl rfl rfl ⟨hit, fun p hp => (agL_ok h0 hp).2.2, by simp⟩ ?_ ?_
  · clear hit
    rintro ⟨t, lit⟩ rest ⟨n, g⟩ ⟨hit, hll, hcn⟩ Q' hQ1 hQ2
    refine ⟨⟨rfl, rfl⟩, ?_⟩
    simp only at hit hcn
    have hlen := hll (t, lit) (by simp)
    simp only at hlen
    have hrest : ∀ q ∈ rest, q.2.length = c.lamp.night.toNat := fun q hq => hll q (by simp [hq])
    have hne : lit ≠ [] := by rintro rfl; simp at hlen; omega
    have hag := agL_len h0
    simp only [List.length_cons] at hcn
    conv => whnf
    refine CallA_fn (la94 n (by omega)) [1000001] rfl ⟨_, _, rfl, rfl, rfl⟩ rfl ?_
    conv => whnf
    refine CallA_v (la90 lit l.phases hne (by omega) hl.len) rfl rfl ?_
    conv => whnf
    have hfr := failsL_rng (l := l.phases) (lit := lit) (by omega)
    refine brk_i (fun h1 => ?_) (fun h1 => ?_)
    · have h1 : failsL lit l.phases < 0 := by simpa using h1
      have he : failuresL l.phases ((t, lit) :: rest) = failuresL l.phases rest := by
        unfold failuresL
        rw [List.filterMap_cons]
        simp only [if_pos h1]
      rw [he] at hit
      conv => whnf
      exact ⟨(n + 1, g), (Wk.sub trivial ⟨(by first | rfl | (simp only [List.length_map]; rfl) | simp [PX.get]), (by first | rfl | (simp only [List.length_map]; rfl) | simp [PX.get]), (by first | rfl | (simp only [List.length_map]; rfl) | simp [PX.get]), trivial⟩), rfl, hQ1 _ ⟨hit, hrest, by simp only; omega⟩⟩
    · have h1 : ¬ failsL lit l.phases < 0 := by simpa using h1
      have he : failuresL l.phases ((t, lit) :: rest) = (t, failsL lit l.phases) :: failuresL l.phases rest := by
        unfold failuresL
        rw [List.filterMap_cons]
        simp only [if_neg h1]
      rw [he, List.map_cons] at hit
      conv => whnf
      refine YldA_vT (ds := [failedD (t, failsL lit l.phases)]) hit rfl rfl (fun g1 hi => ?_)
      conv => whnf
      exact ⟨(n + 1, g1), (Wk.sub trivial ⟨(by first | rfl | (simp only [List.length_map]; rfl) | simp [PX.get]), (by first | rfl | (simp only [List.length_map]; rfl) | simp [PX.get]), (by first | rfl | (simp only [List.length_map]; rfl) | simp [PX.get]), trivial⟩), rfl, hQ1 _ ⟨hi, hrest, by simp only; omega⟩⟩
  · rintro ⟨n, g⟩ ⟨hit, _, hcn⟩
    simp only [List.length_nil] at hcn
    conv => whnf
    rw [show n = (agL c).length by omega]
    exact RetA_hand [] [] (tellH (agL c).length) rfl ⟨rfl, rfl, trivial⟩ rfl ⟨rfl, hit⟩

def leastS (acc : Option (LTruth × Int)) (y : LTruth × Int) : Option (LTruth × Int) := match acc with
  | none => some y
  | some x => if y.2 - x.2 < 0 then some y else some x
def leastX (l : List (LTruth × Int)) : Option (LTruth × Int) := l.foldl leastS none

def leastXD (o : Option (LTruth × Int)) : D := match o with
  | none => .tup [.agg [i64 0, .nils, i64 0], .bool false]
  | some x => .tup [failedD x, .bool true]

theorem failuresL_rng {c : LCase} (h0 : (checkL c).2.2 = 0) {l : LLight} {x : LTruth × Int} (hx : x ∈ failuresL l.phases (agL c)) : -1 ≤ x.2 ∧ x.2 ≤ 200 := by
  unfold failuresL at hx
  obtain ⟨p, hp, hpx⟩ := List.mem_filterMap.1 hx
  have hn := (checkL_ok h0).lamp.night
  have hl := (agL_ok h0 hp).2.2
  split at hpx
  · cases hpx
  · cases hpx
    exact failsL_rng (by omega)

set_option maxHeartbeats 1000000 in
theorem la92 (c : LCase) (l : LLight) (h0 : (checkL c).2.2 = 0) (hl : LightR l) : FnU Try.prog 92 [.clo 119 (failC c l), .d (.clo 95 [])] (tellH 0) fun v h' =>
    v = .d (leastXD (leastX (failuresL l.phases (agL c)))) ∧ h' = tellH (agL c).length := by
  intro σ Y st
  refine fnC_of mixed tysOk Try.func92 rfl (ft := ft92) (args := [.clo 119 (failC c l), .d (.clo 95 [])]) (show fnB ft92 Try.f92 2 = true from by decide +kernel) ?_
  have hrng := fun x hx => failuresL_rng h0 (l := l) (x := x) hx
  have hys := fun {γ : Type} => yields119 c l h0 hl (γ := γ)
  generalize (agL c).length = n at hys
  generalize failuresL l.phases (agL c) = items at hrng hys
  conv => whnf
  refine RangeA_listT tysOk (by exact drawsB_spec mixed tysOk (by decide +kernel)) (by exact drawsB_spec mixed tysOk (by decide +kernel)) rfl [1000000, 1000001] 1500000 1600000 [3, 4, 5] (by exact hys) rfl
    (fun (o : Option (LTruth × Int)) => (match o with
      | none => [(1500000, .box (.dd [.clo 95 []])), (1500001, .box (.dd [i64 0, .nils, i64 0])), (1500002, .box (.dd [.bool false]))]
      | some x => [(1500000, .box (.dd [.clo 95 []])), (1500001, .box (.dd [i64 x.1.start, intsD x.1.speeds, i64 x.2])), (1500002, .box (.dd [.bool true]))], st))
    (fun (rest : List (LTruth × Int)) (o : Option (LTruth × Int)) => leastX items = rest.foldl leastS o ∧ (∀ x, o = some x → -1 ≤ x.2 ∧ x.2 ≤ 200) ∧ ∀ x ∈ rest, -1 ≤ x.2 ∧ x.2 ≤ 200) none rfl rfl rfl rfl ⟨rfl, ⟨fun x (h : none = some x) => (by cases h), hrng⟩⟩ ?_ ?_
  · rintro y rest o ⟨hk, ho, hr⟩ Q hQ1
    refine ⟨⟨rfl, rfl⟩, ?_⟩
    rw [List.foldl_cons] at hk
    have hy := hr y (by simp)
    have hrest : ∀ x ∈ rest, -1 ≤ x.2 ∧ x.2 ≤ 200 := fun l h => hr l (by simp [h])
    cases o with
    | none =>
      conv => whnf
      exact ⟨some y, (Wk.sub trivial ⟨(by first | rfl | (simp only [List.length_map]; rfl) | simp [PX.get]), (by first | rfl | (simp only [List.length_map]; rfl) | simp [PX.get]), (by first | rfl | (simp only [List.length_map]; rfl) | simp [PX.get]), trivial⟩), rfl, hQ1 _ ⟨hk, ⟨fun x h => (by cases h; exact hy), hrest⟩⟩⟩
    | some x =>
      have hx := ho x rfl
      conv => whnf
      refine CallA_v (la95 y x hy hx) rfl rfl ?_
      conv => whnf
      rw [leastS] at hk
      refine brk_i (fun h1 => ?_) (fun h1 => ?_)
      · have h1 : y.2 - x.2 < 0 := by simpa using h1
        rw [if_pos h1] at hk
        conv => whnf
        exact ⟨some y, (Wk.sub trivial ⟨(by first | rfl | (simp only [List.length_map]; rfl) | simp [PX.get]), (by first | rfl | (simp only [List.length_map]; rfl) | simp [PX.get]), (by first | rfl | (simp only [List.length_map]; rfl) | simp [PX.get]), trivial⟩), rfl, hQ1 _ ⟨hk, ⟨fun x h => (by cases h; exact hy), hrest⟩⟩⟩
      · have h1 : ¬ y.2 - x.2 < 0 := by simpa using h1
        rw [if_neg h1] at hk
        conv => whnf
        exact ⟨some x, (Wk.sub trivial ⟨(by first | rfl | (simp only [List.length_map]; rfl) | simp [PX.get]), (by first | rfl | (simp only [List.length_map]; rfl) | simp [PX.get]), (by first | rfl | (simp only [List.length_map]; rfl) | simp [PX.get]), trivial⟩), rfl, hQ1 _ ⟨hk, ⟨ho, hrest⟩⟩⟩
  · rintro o ⟨hk, ho, _⟩
    simp only [List.foldl_nil] at hk
    rw [hk]
    cases o with
    | none =>
      conv => whnf
      exact RetA_hand [] [.d (.agg [i64 0, .nils, i64 0]), .d (.bool false)] (tellH n) rfl ⟨rfl, rfl, trivial⟩ rfl ⟨⟨rfl, rfl⟩, rfl⟩
    | some x =>
      conv => whnf
      exact RetA_hand [] [.d (failedD x), .d (.bool true)] (tellH n) rfl ⟨rfl, rfl, trivial⟩ rfl ⟨⟨rfl, rfl⟩, rfl⟩

/-- What Kept returns: no truth agrees, the light is kept, or the first failure. -/
def keptE (c : LCase) (l : LLight) : Int := if entrE c [l] = 0 then (if agL c = [] then 9 else if leastX (failuresL l.phases (agL c)) = none then 4 else 0) else entrE c [l]
def keptX (c : LCase) (l : LLight) : LTruth × Int := if entrE c [l] = 0 then (leastX (failuresL l.phases (agL c))).getD (⟨0, []⟩, 0) else (⟨0, []⟩, 0)
def keptD (c : LCase) (l : LLight) : D := .tup [(keptX c l).1.d, i64 (keptX c l).2, i64 (keptE c l)]

set_option maxHeartbeats 1000000 in
theorem la32 (c : LCase) (l : LLight) : FnV Try.prog 32 [c.d, l.d] (keptD c l) := by
  refine fnV_of mixed tysOk Try.func32 rfl (ft := ft32) 2 (by decide +kernel) (by rfl) fun {σ} Y st => ?_
  conv => whnf
  refine CallA_view (la89 c [l]) rfl 1 rfl ?_
  conv => whnf
  by_cases h0 : entrE c [l] = 0
  case neg =>
    have he : keptE c l = entrE c [l] := by unfold keptE; rw [if_neg h0]
    have hv : keptX c l = (⟨0, []⟩, 0) := by unfold keptX; rw [if_neg h0]
    rw [keptD, he, hv]
    refine brk_i (fun _ => ?_) (fun h1 => absurd h1 (by simp [h0]))
    conv => whnf
    exact RetA_viewR 0 rfl rfl ⟨⟨rfl, rfl⟩, rfl⟩
  obtain ⟨h00, hl⟩ := entr_ok h0
  have hl := hl l (by simp)
  have he : keptE c l = (if agL c = [] then 9 else if leastX (failuresL l.phases (agL c)) = none then 4 else 0) := by unfold keptE; rw [if_pos h0]
  have hv : keptX c l = (leastX (failuresL l.phases (agL c))).getD (⟨0, []⟩, 0) := by unfold keptX; rw [if_pos h0]
  rw [keptD, he, hv]
  refine brk_i (fun h1 => absurd h1 (by simp [h0])) (fun _ => ?_)
  conv => whnf
  refine CallA_fn (la93 c l 0) [7] rfl ⟨_, _, rfl, rfl, rfl⟩ rfl ?_
  conv => whnf
  refine CallA_fn (la92 c l h00 hl) [101408, 7] ?_ ?_ ?_ ?_
  · exact sameVL_eq _ _ ⟨⟨rfl, rfl, ⟨rfl, rfl⟩, rfl, trivial⟩, rfl, trivial⟩
  · exact ⟨_, _, rfl, box_same rfl ⟨⟨rfl, ⟨rfl, rfl⟩, trivial⟩, trivial⟩, _, _, rfl, rfl, rfl⟩
  · rfl
  have hlen := agL_len h00
  cases hX : leastX (failuresL l.phases (agL c)) with
  | none =>
    conv => whnf
    refine brk_i (fun h1 => ?_) (fun h1 => ?_)
    · have h1 : agL c = [] := by simpa using h1
      conv => whnf
      rw [if_pos h1]
      exact RetA_viewR 0 rfl rfl ⟨⟨rfl, rfl⟩, rfl⟩
    · have h1 : ¬ agL c = [] := by simpa using h1
      conv => whnf
      rw [if_neg h1]
      exact RetA_viewR 0 rfl rfl ⟨⟨rfl, rfl⟩, rfl⟩
  | some x =>
    conv => whnf
    refine brk_i (fun h1 => ?_) (fun h1 => ?_)
    · have h1 : agL c = [] := by simpa using h1
      rw [h1] at hX
      cases hX
    · have h1 : ¬ agL c = [] := by simpa using h1
      conv => whnf
      rw [if_neg h1]
      exact RetA_view 0 rfl ⟨⟨rfl, rfl⟩, rfl⟩
end Go.PX

namespace Go.PX
open Go.Proofs

/- Lamp: Which (the program). -/

def keepsB (ps : List LPhase) (p : LTruth × List Bool) : Bool := decide (failsL p.2 ps < 0)

def whichF (A : List (LTruth × List Bool)) : List LLight → Int → List Int
  | [], _ => []
  | x :: r, i => if A.any (keepsB x.phases) then i :: whichF A r (i + 1) else whichF A r (i + 1)

def whichE (c : LCase) (l : List LLight) : Int := entrE c l
def whichV (c : LCase) (l : List LLight) : List Int := if entrE c l = 0 then whichF (agL c) l 0 else []

set_option maxHeartbeats 1000000 in
theorem la35 (c : LCase) (l : List LLight) : FnV Try.prog 35 [c.d, lightsD l] (.tup [intsD (whichV c l), i64 (entrE c l)]) := by
  refine fnV_of mixed tysOk Try.func35 rfl (ft := ft35) 2 (by decide +kernel) (by rfl) fun {σ} Y st => ?_
  conv => whnf
  refine CallA_v (la89 c l) rfl rfl ?_
  conv => whnf
  by_cases h0 : entrE c l = 0
  case neg =>
    have hv : whichV c l = [] := by unfold whichV; rw [if_neg h0]
    rw [hv]
    refine brk_i (fun _ => ?_) (fun h1 => absurd h1 (by simp [h0]))
    conv => whnf
    exact RetA_viewR 0 rfl rfl ⟨⟨rfl, rfl⟩, rfl⟩
  obtain ⟨h00, hl⟩ := entr_ok h0
  have hlen : l.length ≤ 6 := by
    have : (lightsF l).2 = 0 := by unfold entrE at h0; rwa [if_pos h00] at h0
    exact (lightsF_ok this).1.2
  have hR := checkL_ok h00
  have hn := hR.lamp.night
  have hv : whichV c l = whichF (agL c) l 0 := by unfold whichV; rw [if_pos h0]
  rw [hv]
  refine brk_i (fun h1 => absurd h1 (by simp [h0])) (fun _ => ?_)
  conv => whnf
  refine LoopA_i (T := tys) tysOk (by exact drawsB_spec mixed tysOk (by decide +kernel)) l (fun i (acc : List Int) => ⟨[(2, .ptr 2 0), (4, .ptr 4 0), (15, .d (lightsD l)), (16, .d (i64 l.length)), (17, .d (i64 i))], [(2, .box (.dd c.cells)), (4, .box (.vv [.sl 34 1 0 acc.length])), (34, .arr 1 (.dd (acc.map fun n => [i64 n])))], st⟩)
    (fun i r acc => whichF (agL c) l 0 = acc ++ whichF (agL c) r i ∧ acc.length ≤ i ∧ ∀ x ∈ r, LightR x) [] ((Wk.bornBox 4 34 1 rfl rfl rfl rfl).trans (Wk.sub ⟨(by first | rfl | (simp only [List.length_map]; rfl) | simp [PX.get]), (by first | rfl | (simp only [List.length_map]; rfl) | simp [PX.get]), (by first | rfl | (simp only [List.length_map]; rfl) | simp [PX.get]), (by first | rfl | (simp only [List.length_map]; rfl) | simp [PX.get]), (by first | rfl | (simp only [List.length_map]; rfl) | simp [PX.get]), trivial⟩ ⟨(by first | rfl | (simp only [List.length_map]; rfl) | simp [PX.get]), (by first | rfl | (simp only [List.length_map]; rfl) | simp [PX.get]), (by first | rfl | (simp only [List.length_map]; rfl) | simp [PX.get]), trivial⟩)) ⟨rfl, by simp, hl⟩ ?_ ?_
  · intro i x r acc hx hi hr ⟨he, hal, hlr⟩
    rw [whichF] at he
    have hxR := hlr x (by simp)
    have hlr : ∀ y ∈ r, LightR y := fun y hy => hlr y (by simp [hy])
    conv => whnf
    refine brk_i (fun _ => ?_) (fun h => absurd hi (by simpa using h))
    conv => whnf
    refine elemK_nat hx ?_
    conv => whnf
    refine CallA_v (la76 c hR) rfl rfl ?_
    conv => whnf
    refine RangeA_list tysOk (by exact drawsB_spec mixed tysOk (by decide +kernel)) (by exact drawsB_spec mixed tysOk (by decide +kernel)) rfl 1500000 1600000 [2, 4, 6, 7] (by exact yields_agree h00)
      (fun (_ : Unit) => ([(1500000, .box (.dd c.cells)), (1500001, .box (.vv [.sl 34 1 0 acc.length])), (34, .arr 1 (.dd (acc.map fun n => [i64 n]))), (1500002, .box (.dd [i64 i])), (1500003, .box (.dd x.cells))], st))
      (fun rest _ => (agL c).any (keepsB x.phases) = rest.any (keepsB x.phases) ∧ ∀ p ∈ rest, p.2.length = c.lamp.night.toNat) () rfl rfl rfl ⟨rfl, fun p hp => (agL_ok h00 hp).2.2⟩ ?_ ?_
    · rintro ⟨t, lit⟩ rest _ ⟨hk, hll⟩ Q hQ1 hQ2
      refine ⟨⟨rfl, rfl⟩, ?_⟩
      have hlen := hll (t, lit) (by simp)
      simp only at hlen
      have hrest : ∀ q ∈ rest, q.2.length = c.lamp.night.toNat := fun q hq => hll q (by simp [hq])
      have hne : lit ≠ [] := by rintro rfl; simp at hlen; omega
      rw [List.any_cons] at hk
      conv => whnf
      refine CallA_v (la90 lit x.phases hne (by omega) hxR.len) rfl rfl ?_
      conv => whnf
      refine brk_i (fun h1 => ?_) (fun h1 => ?_)
      · have h1 : keepsB x.phases (t, lit) = true := h1
        rw [h1, Bool.true_or] at hk
        rw [hk, if_pos rfl] at he
        conv => whnf
        refine ownK_whole rfl ?_
        conv => whnf
        refine ownK_whole (by simp [Els.len]) ?_
        conv => whnf
        refine chk_i (decide_eq_true (by
          show ((acc.map fun n => [i64 n]).length + 1) * 8 ≤ 140737488355328
          rw [List.length_map]; omega)) ?_
        conv => whnf
        refine ⟨[(1500000, .box (.dd c.cells)), (1500001, .box (.vv [.sl 34 1 0 (acc ++ [(i : Int)]).length])), (34, .arr 1 (.dd ((acc ++ [(i : Int)]).map fun n => [i64 n])))], st, Wk.sub trivial ⟨rfl, ?_, ?_, trivial⟩, rfl, hQ2 _ _ _ ?_⟩
        · simp [PX.get, Els.len]
        · simp [PX.get]
        · conv => whnf
          refine arith_in (wrap_i64 (by (try dsimp only); omega)) ?_
          conv => whnf
          exact ⟨acc ++ [(i : Int)], ⟨by rw [he]; simp, by simp; omega, hlr⟩, (Wk.sub ⟨(by first | rfl | (simp only [List.length_map]; rfl) | simp [PX.get]), (by first | rfl | (simp only [List.length_map]; rfl) | simp [PX.get]), (by first | rfl | (simp only [List.length_map]; rfl) | simp [PX.get]), (by first | rfl | (simp only [List.length_map]; rfl) | simp [PX.get]), (by first | rfl | (simp only [List.length_map]; rfl) | simp [PX.get]), trivial⟩ ⟨(by first | rfl | (simp only [List.length_map]; rfl) | simp [PX.get]), (by first | rfl | (simp only [List.length_map]; rfl) | simp [PX.get]), (by first | rfl | (simp only [List.length_map]; rfl) | simp [PX.get]), trivial⟩)⟩
      · have h1 : keepsB x.phases (t, lit) = false := h1
        rw [h1, Bool.false_or] at hk
        conv => whnf
        exact ⟨(), (Wk.sub trivial ⟨(by first | rfl | (simp only [List.length_map]; rfl) | simp [PX.get]), (by first | rfl | (simp only [List.length_map]; rfl) | simp [PX.get]), (by first | rfl | (simp only [List.length_map]; rfl) | simp [PX.get]), (by first | rfl | (simp only [List.length_map]; rfl) | simp [PX.get]), (by first | rfl | (simp only [List.length_map]; rfl) | simp [PX.get]), trivial⟩), rfl, hQ1 _ ⟨hk, hrest⟩⟩
    · rintro _ ⟨hk, _⟩
      rw [List.any_nil] at hk
      rw [hk, if_neg (by simp)] at he
      conv => whnf
      refine arith_in (wrap_i64 (by (try dsimp only); omega)) ?_
      conv => whnf
      exact ⟨acc, ⟨he, by omega, hlr⟩, (Wk.sub ⟨(by first | rfl | (simp only [List.length_map]; rfl) | simp [PX.get]), (by first | rfl | (simp only [List.length_map]; rfl) | simp [PX.get]), (by first | rfl | (simp only [List.length_map]; rfl) | simp [PX.get]), (by first | rfl | (simp only [List.length_map]; rfl) | simp [PX.get]), (by first | rfl | (simp only [List.length_map]; rfl) | simp [PX.get]), trivial⟩ ⟨(by first | rfl | (simp only [List.length_map]; rfl) | simp [PX.get]), (by first | rfl | (simp only [List.length_map]; rfl) | simp [PX.get]), (by first | rfl | (simp only [List.length_map]; rfl) | simp [PX.get]), trivial⟩)⟩
  · intro acc ⟨he, hal, _⟩
    rw [whichF, List.append_nil] at he
    rw [he]
    conv => whnf
    refine brk_i (fun h => absurd h (by simp)) (fun _ => ?_)
    conv => whnf
    rw [h0]
    exact RetA_view 1 (ds := [intsD acc, i64 0]) (viewL_cons (viewV_sl rfl (by simp)) rfl) ⟨⟨rfl, rfl⟩, rfl⟩
end Go.PX

namespace Go.PX
open Go.Proofs

/- Lamp: Longest and Wind (the program). -/

theorem relaxE_spans : ∀ l : List Span, relaxE (l.map Span.cells) = l.map Span.cells
  | [] => rfl
  | s :: r => by
    rw [List.map_cons, relaxE, relaxE_spans r]; rfl

/-- The case of a lamp alone. -/
def aloneC (x : LLamp) : LCase := ⟨x, [], []⟩

def anyStart (x : LLamp) : LLamp := { x with start := ⟨0, x.drum - 1⟩ }

theorem la96 (s : Int) (b : Bool) : FnV Try.prog 96 [i64 s, .bool b] (.bool true) := by
  refine fnV_of mixed tysOk Try.func96 rfl (ft := ft96) 2 (by decide +kernel) (by rfl) fun {σ} Y st => ?_
  conv => whnf
  exact RetA_view 0 rfl ⟨⟨rfl, rfl⟩, rfl⟩

def anyC (x : LLamp) : List (LTruth × List Bool) := truL (anyStart x) [] trueF

def longStep (ps : List LPhase) (n : Int) (p : LTruth × List Bool) : Int := if failsL p.2 ps ≥ 0 then min n (failsL p.2 ps) else n
def longF (x : LLamp) (ps : List LPhase) : Int := (anyC x).foldl (longStep ps) x.night
def longE (x : LLamp) (l : LLight) : Int := entrE (aloneC x) [l]
def longV (x : LLamp) (l : LLight) : Int := if longE x l = 0 then longF x l.phases else 0

theorem LampR.any {x : LLamp} (h : LampR x) : LampR (anyStart x) := ⟨h.drum, h.slow, h.night, h.lits, h.lit, by
  have := h.drum
  show 0 ≤ (0 : Int) ∧ (0 : Int) ≤ x.drum - 1 ∧ x.drum - 1 ≤ x.drum - 1
  omega, h.speed⟩

theorem failsF_lo {l : List LPhase} {lit : List Bool} (h : 0 ≤ failsL lit l) : 1 ≤ failsL lit l := by
  unfold failsL at h ⊢
  cases lit with
  | nil => simp at h
  | cons b r =>
    have := failsF_rng (l := l) (r := r) (b := b) (A := initA b l.length) (s := 1)
    simp only at h ⊢
    omega

theorem upW_nil (x : LLamp) : upW x [] := trivial
theorem upF_nil {x : LLamp} (h : LampR x) : upF x 0 [] := by
  have := h.night
  show 0 ≤ x.night
  omega

theorem anyC_len {x : LLamp} (h : LampR x) {p : LTruth × List Bool} (hp : p ∈ anyC x) : p.2.length = x.night.toNat := by
  unfold anyC at hp
  rw [truL_all (upF_nil h.any)] at hp
  obtain ⟨t, _, rfl⟩ := List.mem_map.1 hp
  simp only [courseL, courseF_len]; rfl

set_option maxHeartbeats 1000000 in
theorem la37 (x : LLamp) (l : LLight) : FnV Try.prog 37 [x.d, l.d] (.tup [i64 (longV x l), i64 (longE x l)]) := by
  refine fnV_of mixed tysOk Try.func37 rfl (ft := ft37) 2 (by decide +kernel) (by rfl) fun {σ} Y st => ?_
  conv => whnf
  refine CallA_rep (args' := [.d (aloneC x).d, .sl 13 2 0 1]) (fun yv L F w vs => ?_) ?_
  · rintro ⟨a, r, rfl, ha, hr⟩
    refine ⟨a, r, rfl, ?_, hr⟩
    have e : relax (.agg (x.cells ++ [.nils, .nils])) = (aloneC x).d := by
      show D.agg (relaxL (x.cells ++ [.nils, .nils])) = _
      simp only [LLamp.cells, List.cons_append, List.nil_append, relaxL, relax, spansD, relaxE_spans]
      rfl
    exact e ▸ RepD.relax _ _ (show RepD F w (.agg (x.cells ++ [.nils, .nils])) a from ha)
  refine CallA_view (la89 (aloneC x) [l]) rfl 1 rfl ?_
  conv => whnf
  by_cases h0 : longE x l = 0
  case neg =>
    have hv : longV x l = 0 := by unfold longV; rw [if_neg h0]
    rw [hv]
    unfold longE at h0 ⊢
    refine brk_i (fun _ => ?_) (fun h1 => absurd h1 (by simp [h0]))
    conv => whnf
    exact RetA_view 0 rfl ⟨⟨rfl, rfl⟩, rfl⟩
  have hv : longV x l = longF x l.phases := by unfold longV; rw [if_pos h0]
  rw [hv]
  unfold longE at h0 ⊢
  obtain ⟨h00, hl⟩ := entr_ok h0
  have hlR := hl l (by simp)
  have hR0 := (checkL_ok h00).lamp
  have hR0 : LampR x := hR0
  have hR := hR0.any
  have hn := hR0.night
  have hd := hR0.drum
  refine brk_i (fun h1 => absurd h1 (by simp [h0])) (fun _ => ?_)
  conv => whnf
  refine arith_in (wrap_i64 (by (try dsimp only); omega)) ?_
  conv => whnf
  refine CallA_v (la80 (anyStart x) hR) rfl rfl ?_
  conv => whnf
  refine CallA_nil1 (CallA_v (la81 (anyStart x) [] 96 []) rfl rfl ?_)
  conv => whnf
  refine RangeA_list tysOk (by exact drawsB_spec mixed tysOk (by decide +kernel)) (by exact drawsB_spec mixed tysOk (by decide +kernel)) rfl 1500000 1600000 [2, 3, 7] (by exact fun {γ} => yields112 hR (w := []) (by simp) (by simp) (upW_nil _) (fun s b _ => la96 s b))
    (fun (n : Int) => ([(1500000, .box (.dd (anyStart x).cells)), (1500001, .box (.dd l.cells)), (13, .arr 2 (.dd [l.cells])), (1500002, .box (.dd [i64 n]))], st))
    (fun rest n => longF x l.phases = rest.foldl (longStep l.phases) n ∧ ∀ p ∈ rest, p.2.length = x.night.toNat) x.night rfl rfl rfl ⟨rfl, fun p hp => anyC_len hR0 hp⟩ ?_ ?_
  · rintro ⟨t, lit⟩ rest n ⟨hk, hll⟩ Q hQ1 -
    refine ⟨⟨rfl, rfl⟩, ?_⟩
    rw [List.foldl_cons] at hk
    have hlen := hll (t, lit) (by simp)
    simp only at hlen
    have hrest : ∀ q ∈ rest, q.2.length = x.night.toNat := fun q hq => hll q (by simp [hq])
    have hne : lit ≠ [] := by rintro rfl; simp at hlen; omega
    conv => whnf
    refine CallA_v (la90 lit l.phases hne (by omega) hlR.len) rfl rfl ?_
    conv => whnf
    rw [longStep] at hk
    refine brk_i (fun h1 => ?_) (fun h1 => ?_)
    · have h1 : failsL lit l.phases ≥ 0 := by simpa using h1
      rw [if_pos h1] at hk
      conv => whnf
      exact ⟨min n (failsL lit l.phases), (Wk.sub trivial ⟨(by first | rfl | (simp only [List.length_map]; rfl) | simp [PX.get]), (by first | rfl | (simp only [List.length_map]; rfl) | simp [PX.get]), (by first | rfl | (simp only [List.length_map]; rfl) | simp [PX.get]), (by first | rfl | (simp only [List.length_map]; rfl) | simp [PX.get]), trivial⟩), rfl, hQ1 _ ⟨hk, hrest⟩⟩
    · have h1 : ¬ failsL lit l.phases ≥ 0 := by simpa using h1
      rw [if_neg h1] at hk
      conv => whnf
      exact ⟨n, (Wk.sub trivial ⟨(by first | rfl | (simp only [List.length_map]; rfl) | simp [PX.get]), (by first | rfl | (simp only [List.length_map]; rfl) | simp [PX.get]), (by first | rfl | (simp only [List.length_map]; rfl) | simp [PX.get]), (by first | rfl | (simp only [List.length_map]; rfl) | simp [PX.get]), trivial⟩), rfl, hQ1 _ ⟨hk, hrest⟩⟩
  · rintro n ⟨hk, _⟩
    rw [List.foldl_nil] at hk
    rw [hk]
    conv => whnf
    rw [h0]
    exact RetA_view 0 rfl ⟨⟨rfl, rfl⟩, rfl⟩
end Go.PX

namespace Go.PX
open Go.Proofs

/- Lamp: Wind (the program). -/

def windL (k : Nat) (n : Int) : List Int := (List.range k).map fun (i : Nat) => ((i : Int) + 1) * n
def windV (x : LLamp) (l : LLight) : List Int := if longE x l = 0 then windL ((x.night - 1).tdiv (longV x l)).toNat (longV x l) else []

theorem windL_succ (k : Nat) (n : Int) : windL (k + 1) n = windL k n ++ [((k : Int) + 1) * n] := by
  unfold windL
  rw [List.range_succ, List.map_append]; rfl

theorem windL_len (k : Nat) (n : Int) : (windL k n).length = k := by simp [windL]

theorem longF_rng {x : LLamp} {ps : List LPhase} (h : LampR x) : 1 ≤ longF x ps ∧ longF x ps ≤ x.night := by
  have hn := h.night
  unfold longF
  have key : ∀ (l : List (LTruth × List Bool)) (n : Int), 1 ≤ n ∧ n ≤ x.night → 1 ≤ l.foldl (longStep ps) n ∧ l.foldl (longStep ps) n ≤ x.night := by
    intro l
    induction l with
    | nil => exact fun n h => h
    | cons p r ih =>
      intro n hn
      rw [List.foldl_cons]
      refine ih _ ?_
      unfold longStep
      split
      · rename_i h1
        have := failsF_lo h1
        omega
      · exact hn
  exact key _ _ ⟨hn.1, Int.le_refl _⟩

theorem long_ok {x : LLamp} {l : LLight} (h : longE x l = 0) : LampR x ∧ LightR l := by
  obtain ⟨h1, h2⟩ := entr_ok h
  exact ⟨(checkL_ok h1).lamp, h2 l (by simp)⟩

set_option maxHeartbeats 1000000 in
theorem la39 (x : LLamp) (l : LLight) : FnV Try.prog 39 [x.d, l.d] (.tup [intsD (windV x l), i64 (longE x l)]) := by
  refine fnV_of mixed tysOk Try.func39 rfl (ft := ft39) 2 (by decide +kernel) (by rfl) fun {σ} Y st => ?_
  conv => whnf
  refine CallA_v (la37 x l) rfl rfl ?_
  conv => whnf
  by_cases h0 : longE x l = 0
  case neg =>
    have hv : windV x l = [] := by unfold windV; rw [if_neg h0]
    rw [hv]
    refine brk_i (fun _ => ?_) (fun h1 => absurd h1 (by simp [h0]))
    conv => whnf
    exact RetA_viewR 0 rfl rfl ⟨⟨rfl, rfl⟩, rfl⟩
  have hv : windV x l = windL ((x.night - 1).tdiv (longV x l)).toNat (longV x l) := by unfold windV; rw [if_pos h0]
  have hR := (long_ok h0).1
  have hl := longF_rng (ps := l.phases) hR
  have hlv : longV x l = longF x l.phases := by unfold longV; rw [if_pos h0]
  rw [← hlv] at hl
  rw [hv]
  have hn := hR.night
  refine brk_i (fun h1 => absurd h1 (by simp [h0])) (fun _ => ?_)
  conv => whnf
  refine arith_in (wrap_i64 (by (try dsimp only); omega)) ?_
  conv => whnf
  refine chk_i (decide_eq_true (by omega)) ?_
  conv => whnf
  have hq : 0 ≤ (x.night - 1).tdiv (longV x l) ∧ (x.night - 1).tdiv (longV x l) * longV x l ≤ x.night - 1 := by
    rw [Int.tdiv_eq_ediv_of_nonneg (by omega)]
    exact ⟨Int.ediv_nonneg (by omega) (by omega), Int.ediv_mul_le _ (by omega)⟩
  have hq2 : (x.night - 1).tdiv (longV x l) ≤ 200 := by
    rw [Int.tdiv_eq_ediv_of_nonneg (by omega)]
    have := Int.ediv_le_self (a := x.night - 1) (longV x l) (by omega)
    omega
  generalize (x.night - 1).tdiv (longV x l) = k at hq hq2
  generalize longV x l = n at hl hq
  obtain ⟨K, rfl⟩ := Int.eq_ofNat_of_zero_le hq.1
  refine arith_in (wrap_i64 (by (try dsimp only); omega)) ?_
  conv => whnf
  refine LoopA_p (T := tys) tysOk (by exact drawsB_spec mixed tysOk (by decide +kernel)) (α := Nat)
    (fun i => ⟨[(4, .sl 31 1 0 i), (5, .d (i64 (longE x l))), (6, .d (i64 n)), (21, .d (i64 K)), (22, .d (i64 i))], [(31, .arr 1 (.dd ((windL i n).map fun n => [i64 n])))], st⟩) (fun i => i ≤ K) (fun i => K - i) 0 ((Wk.born 4 31 1 rfl rfl rfl).trans (Wk.sub ⟨(by first | rfl | (simp only [List.length_map]; rfl) | simp [PX.get]), (by first | rfl | (simp only [List.length_map]; rfl) | simp [PX.get]), (by first | rfl | (simp only [List.length_map]; rfl) | simp [PX.get]), (by first | rfl | (simp only [List.length_map]; rfl) | simp [PX.get]), (by first | rfl | (simp only [List.length_map]; rfl) | simp [PX.get]), trivial⟩ ⟨(by first | rfl | (simp only [List.length_map]; rfl) | simp [PX.get]), trivial⟩)) (Nat.zero_le _) ?_
  intro i hi
  have hil : (windL i n).length = i := windL_len i n
  conv => whnf
  refine brk_i (fun h1 => ?_) (fun h1 => ?_)
  · have h1 : i < K := by have := of_decide_eq_true h1; omega
    have hm0 : 0 ≤ ((i : Int) + 1) * n := Int.mul_nonneg (by omega) (by omega)
    have hm : ((i : Int) + 1) * n ≤ x.night - 1 := Int.le_trans (Int.mul_le_mul_of_nonneg_right (by omega) (by omega)) hq.2
    conv => whnf
    refine arith_in (wrap_i64 (by (try dsimp only); omega)) ?_
    conv => whnf
    refine arith_in (wrap_i64 (by omega)) ?_
    conv => whnf
    refine ownK_whole rfl ?_
    conv => whnf
    refine ownK_whole (by simp [Els.len, hil]) ?_
    conv => whnf
    refine chk_i (decide_eq_true (by
      show (((windL i n).map fun n => [i64 n]).length + 1) * 8 ≤ 140737488355328
      rw [List.length_map]; omega)) ?_
    conv => whnf
    refine arith_in (wrap_i64 (by (try dsimp only); omega)) ?_
    conv => whnf
    refine ⟨i + 1, (by show K - (i + 1) < K - i; omega), (by show i + 1 ≤ K; omega), Wk.sub ⟨?_, rfl, rfl, rfl, rfl, trivial⟩ ⟨?_, trivial⟩⟩
    · simp [PX.get, Els.len, hil]
    · rw [windL_succ]; simp [PX.get]
  · have h1 : i = K := by have := of_decide_eq_false h1; omega
    subst h1
    conv => whnf
    rw [h0]
    exact RetA_view 1 (ds := [intsD (windL i n), i64 0]) (viewL_cons (viewV_sl rfl (by simp [hil])) rfl) ⟨⟨rfl, rfl⟩, rfl⟩
end Go.PX

namespace Go.PX
open Go.Proofs

/- Lamp: the reference: lighted, Fails, Kept. -/

theorem la91 (l : LLight) (e : Int) : FnV Try.prog 91 [l.d, i64 e] (i64 (if e = 0 then (lightsF [l]).2 else e)) := by
  refine fnV_of mixed tysOk Try.func91 rfl (ft := ft91) 2 (by decide +kernel) (by rfl) fun {σ} Y st => ?_
  conv => whnf
  refine brk_i (fun h0 => ?_) (fun h0 => ?_)
  · have h0 : e = 0 := by simpa using h0
    rw [if_pos h0]
    conv => whnf
    refine CallA_view (la18 [l]) rfl 1 rfl ?_
    conv => whnf
    exact RetA_view 0 rfl ⟨⟨rfl, rfl⟩, rfl⟩
  · have h0 : ¬ e = 0 := by simpa using h0
    rw [if_neg h0]
    conv => whnf
    exact RetA_view 0 rfl ⟨⟨rfl, rfl⟩, rfl⟩

theorem entr_lighted (c : LCase) (l : LLight) : (if (checkL c).2.2 = 0 then (lightsF [l]).2 else (checkL c).2.2) = entrE c [l] := rfl

set_option maxHeartbeats 1000000 in
theorem la31 (c : LCase) (l : LLight) (t : LTruth) : FnV Try.prog 31 [c.d, l.d, t.d] (.tup [i64 (failV c l t), i64 (failE c l t)]) := by
  refine fnV_of mixed tysOk Try.func31 rfl (ft := ft31) 3 (by decide +kernel) (by rfl) fun {σ} Y st => ?_
  conv => whnf
  refine CallA_v (la16 c) rfl rfl ?_
  conv => whnf
  refine DrawCall_v (la91 l (checkL c).2.2) rfl rfl ?_
  rw [entr_lighted]
  conv => whnf
  refine DrawCall_v (la74 c t (entrE c [l]) (fun h => by have := (checkL_ok (entr_ok h).1).winds; omega)) rfl rfl ?_
  rw [show askE c t (entrE c [l]) = failE c l t from rfl]
  conv => whnf
  by_cases h1 : failE c l t = 0
  case neg =>
    have hv : failV c l t = 0 := by unfold failV; rw [if_neg h1]
    rw [hv]
    refine brk_i (fun _ => ?_) (fun h2 => absurd h2 (by simp [h1]))
    conv => whnf
    exact RetA_view 0 rfl ⟨⟨rfl, rfl⟩, rfl⟩
  have h0 : entrE c [l] = 0 := by
    by_cases h : entrE c [l] = 0
    · exact h
    · unfold failE at h1; rw [if_neg h] at h1; exact absurd h1 h
  obtain ⟨h00, hl⟩ := entr_ok h0
  have hR := checkL_ok h00
  have hT : TruthR c t := truth_ok (by unfold failE at h1; rwa [if_pos h0] at h1)
  have hv : failV c l t = failsL (courseL c.lamp c.windings t) l.phases := by unfold failV; rw [if_pos h1]
  rw [hv]
  refine brk_i (fun h2 => absurd h2 (by simp [h1])) (fun _ => ?_)
  conv => whnf
  refine DrawCall_v (la50 c.lamp c.windings t (CrsR.of hR hT)) rfl rfl ?_
  conv => whnf
  obtain ⟨k1, k2, _⟩ := courseL_len (w := c.windings) (t := t) hR.lamp
  refine DrawCall_v (la54 (courseL c.lamp c.windings t) l.phases k1 k2 (hl l (by simp)).ph) rfl rfl ?_
  conv => whnf
  rw [h1]
  exact RetA_view 0 rfl ⟨⟨rfl, rfl⟩, rfl⟩

/-- The first of the least failures: which truth, and its second. -/
def keptJ (ps : List LPhase) (L : List (LTruth × List Bool)) (night : Int) (i : Nat) (w v : Int) : Prop :=
  (w = -1 ∧ v = night ∧ leastX (failuresL ps (L.take i)) = none) ∨ ∃ j p, w = (j : Nat) ∧ j < i ∧ L[j]? = some p ∧ leastX (failuresL ps (L.take i)) = some (p.1, v) ∧ failsL p.2 ps = v ∧ 0 ≤ v ∧ v < night

theorem failures_snoc (ps : List LPhase) (A : List (LTruth × List Bool)) (p : LTruth × List Bool) : failuresL ps (A ++ [p]) = if failsL p.2 ps < 0 then failuresL ps A else failuresL ps A ++ [(p.1, failsL p.2 ps)] := by
  unfold failuresL
  rw [List.filterMap_append]
  by_cases h : failsL p.2 ps < 0
  · simp [h]
  · simp [h]

theorem leastX_snoc (A : List (LTruth × Int)) (x : LTruth × Int) : leastX (A ++ [x]) = leastS (leastX A) x := by
  unfold leastX
  rw [List.foldl_append]; rfl

theorem kept_step {ps : List LPhase} {L : List (LTruth × List Bool)} {night : Int} {i : Nat} {w v : Int} {p : LTruth × List Bool} (hx : L[i]? = some p) (hlt : failsL p.2 ps < night) (h : keptJ ps L night i w v) :
    keptJ ps L night (i + 1) (if 0 ≤ failsL p.2 ps ∧ failsL p.2 ps < v then (i : Int) else w) (if 0 ≤ failsL p.2 ps ∧ failsL p.2 ps < v then failsL p.2 ps else v) := by
  have htk : L.take (i + 1) = L.take i ++ [p] := by rw [List.take_succ, hx]; rfl
  unfold keptJ at h ⊢
  rw [htk, failures_snoc]
  by_cases h0 : failsL p.2 ps < 0
  · rw [if_pos h0, if_neg (by omega), if_neg (by omega)]
    rcases h with h | ⟨j, q, h1, h2, h3⟩
    · exact .inl h
    · exact .inr ⟨j, q, h1, by omega, h3⟩
  · rw [if_neg h0, leastX_snoc]
    rcases h with ⟨h1, h2, h3⟩ | ⟨j, q, h1, h2, h3, h4, h5, h6, h7⟩
    · rw [h3, if_pos ⟨by omega, by omega⟩, if_pos ⟨by omega, by omega⟩]
      exact .inr ⟨i, p, rfl, by omega, hx, rfl, rfl, by omega, hlt⟩
    · rw [h4, leastS]
      by_cases h8 : failsL p.2 ps < v
      · rw [if_pos ⟨by omega, h8⟩, if_pos ⟨by omega, h8⟩, if_pos (by simp only; omega)]
        exact .inr ⟨i, p, rfl, by omega, hx, rfl, rfl, by omega, hlt⟩
      · rw [if_neg (by omega), if_neg (by omega), if_neg (by simp only; omega)]
        exact .inr ⟨j, q, h1, by omega, h3, rfl, h5, h6, h7⟩

theorem failsL_lt {l : List LPhase} {lit : List Bool} (h : lit ≠ []) : failsL lit l < lit.length := by
  unfold failsL
  cases lit with
  | nil => exact absurd rfl h
  | cons b r =>
    have := failsF_rng (l := l) (r := r) (b := b) (A := initA b l.length) (s := 1)
    simp only [List.length_cons]
    omega

set_option maxHeartbeats 1000000 in
theorem la33 (c : LCase) (l : LLight) : FnV Try.prog 33 [c.d, l.d] (keptD c l) := by
  refine fnV_of mixed tysOk Try.func33 rfl (ft := ft33) 2 (by decide +kernel) (by rfl) fun {σ} Y st => ?_
  conv => whnf
  refine CallA_v (la16 c) rfl rfl ?_
  conv => whnf
  refine CallA_v (la91 l (checkL c).2.2) rfl rfl ?_
  conv => whnf
  rw [entr_lighted]
  by_cases h0 : entrE c [l] = 0
  case neg =>
    have he : keptE c l = entrE c [l] := by unfold keptE; rw [if_neg h0]
    have hv : keptX c l = (⟨0, []⟩, 0) := by unfold keptX; rw [if_neg h0]
    rw [keptD, he, hv]
    refine brk_i (fun _ => ?_) (fun h1 => absurd h1 (by simp [h0]))
    conv => whnf
    exact RetA_viewR 0 rfl rfl ⟨⟨rfl, rfl⟩, rfl⟩
  obtain ⟨h00, hl⟩ := entr_ok h0
  have hl := hl l (by simp)
  have hR := checkL_ok h00
  have hn := hR.lamp.night
  have he : keptE c l = (if agL c = [] then 9 else if leastX (failuresL l.phases (agL c)) = none then 4 else 0) := by unfold keptE; rw [if_pos h0]
  have hv : keptX c l = (leastX (failuresL l.phases (agL c))).getD (⟨0, []⟩, 0) := by unfold keptX; rw [if_pos h0]
  rw [keptD, he, hv]
  refine brk_i (fun h1 => absurd h1 (by simp [h0])) (fun _ => ?_)
  conv => whnf
  refine CallA_v (la78' c h00) rfl rfl ?_
  conv => whnf
  have hlit : ∀ p ∈ agL c, p.2.length = c.lamp.night.toNat := fun p hp => (agL_ok h00 hp).2.2
  have hlen := agL_len h00
  generalize agL c = L at hlit hlen
  refine brk_i (fun h1 => ?_) (fun h1 => ?_)
  · have h1 : L = [] := by simpa using h1
    subst h1
    conv => whnf
    exact RetA_viewR 0 rfl rfl ⟨⟨rfl, rfl⟩, rfl⟩
  have h1 : ¬ L = [] := by simpa using h1
  rw [if_neg h1]
  conv => whnf
  refine LoopA_i (T := tys) tysOk (by exact drawsB_spec mixed tysOk (by decide +kernel)) L (fun i (q : Int × Int) => ⟨[(2, .ptr 2 0), (3, .ptr 3 0), (4, .ptr 4 0), (10, .d (truthsD (L.map (·.1)))), (11, .d (litsD (L.map (·.2)))), (12, .d (i64 q.1)), (13, .d (i64 q.2)), (14, .d (i64 i))], [(2, .box (.dd c.cells)), (3, .box (.dd l.cells)), (4, .box (.dd [i64 0, .nils]))], st⟩)
    (fun i r q => keptJ l.phases L c.lamp.night i q.1 q.2) (-1, c.lamp.night) (Wk.sub ⟨(by first | rfl | (simp only [List.length_map]; rfl) | simp [PX.get]), (by first | rfl | (simp only [List.length_map]; rfl) | simp [PX.get]), (by first | rfl | (simp only [List.length_map]; rfl) | simp [PX.get]), (by first | rfl | (simp only [List.length_map]; rfl) | simp [PX.get]), (by first | rfl | (simp only [List.length_map]; rfl) | simp [PX.get]), (by first | rfl | (simp only [List.length_map]; rfl) | simp [PX.get]), (by first | rfl | (simp only [List.length_map]; rfl) | simp [PX.get]), (by first | rfl | (simp only [List.length_map]; rfl) | simp [PX.get]), trivial⟩ ⟨(by first | rfl | (simp only [List.length_map]; rfl) | simp [PX.get]), (by first | rfl | (simp only [List.length_map]; rfl) | simp [PX.get]), (by first | rfl | (simp only [List.length_map]; rfl) | simp [PX.get]), trivial⟩) (.inl ⟨rfl, rfl, rfl⟩) ?_ ?_
  · rintro i p r ⟨w, v⟩ hx hi hr hj
    simp only at hj
    have hp := hlit p (List.mem_of_getElem? hx)
    have hne : p.2 ≠ [] := by intro h; rw [h] at hp; simp at hp; omega
    have hlt := failsL_lt (l := l.phases) hne
    have hj2 := kept_step hx (by omega) hj
    have hx2 : (L.map (·.2))[i]? = some p.2 := by rw [List.getElem?_map, hx]; rfl
    conv => whnf
    refine brk_i (fun _ => ?_) (fun h => absurd hi (by simpa using h))
    conv => whnf
    refine elemK_nat hx2 ?_
    conv => whnf
    refine DrawCall_v (la54 p.2 l.phases hne (by omega) hl.ph) rfl rfl ?_
    conv => whnf
    generalize failsL p.2 l.phases = f at hj2 hlt
    by_cases h2 : 0 ≤ f
    · rw [show decide (0 ≤ f) = true from decide_eq_true h2]
      conv => whnf
      refine brk_i (fun h3 => ?_) (fun h3 => ?_)
      · have h3 : f < v := by simpa using h3
        rw [if_pos ⟨h2, h3⟩, if_pos ⟨h2, h3⟩] at hj2
        conv => whnf
        refine arith_in (wrap_i64 (by (try dsimp only); omega)) ?_
        conv => whnf
        exact ⟨((i : Int), f), hj2, (Wk.sub ⟨(by first | rfl | (simp only [List.length_map]; rfl) | simp [PX.get]), (by first | rfl | (simp only [List.length_map]; rfl) | simp [PX.get]), (by first | rfl | (simp only [List.length_map]; rfl) | simp [PX.get]), (by first | rfl | (simp only [List.length_map]; rfl) | simp [PX.get]), (by first | rfl | (simp only [List.length_map]; rfl) | simp [PX.get]), (by first | rfl | (simp only [List.length_map]; rfl) | simp [PX.get]), (by first | rfl | (simp only [List.length_map]; rfl) | simp [PX.get]), (by first | rfl | (simp only [List.length_map]; rfl) | simp [PX.get]), trivial⟩ ⟨(by first | rfl | (simp only [List.length_map]; rfl) | simp [PX.get]), (by first | rfl | (simp only [List.length_map]; rfl) | simp [PX.get]), (by first | rfl | (simp only [List.length_map]; rfl) | simp [PX.get]), trivial⟩)⟩
      · have h3 : ¬ f < v := by simpa using h3
        rw [if_neg (fun h => h3 h.2), if_neg (fun h => h3 h.2)] at hj2
        conv => whnf
        refine arith_in (wrap_i64 (by (try dsimp only); omega)) ?_
        conv => whnf
        exact ⟨(w, v), hj2, (Wk.sub ⟨(by first | rfl | (simp only [List.length_map]; rfl) | simp [PX.get]), (by first | rfl | (simp only [List.length_map]; rfl) | simp [PX.get]), (by first | rfl | (simp only [List.length_map]; rfl) | simp [PX.get]), (by first | rfl | (simp only [List.length_map]; rfl) | simp [PX.get]), (by first | rfl | (simp only [List.length_map]; rfl) | simp [PX.get]), (by first | rfl | (simp only [List.length_map]; rfl) | simp [PX.get]), (by first | rfl | (simp only [List.length_map]; rfl) | simp [PX.get]), (by first | rfl | (simp only [List.length_map]; rfl) | simp [PX.get]), trivial⟩ ⟨(by first | rfl | (simp only [List.length_map]; rfl) | simp [PX.get]), (by first | rfl | (simp only [List.length_map]; rfl) | simp [PX.get]), (by first | rfl | (simp only [List.length_map]; rfl) | simp [PX.get]), trivial⟩)⟩
    · rw [show decide (0 ≤ f) = false from decide_eq_false h2]
      rw [if_neg (fun h => h2 h.1), if_neg (fun h => h2 h.1)] at hj2
      conv => whnf
      refine arith_in (wrap_i64 (by (try dsimp only); omega)) ?_
      conv => whnf
      exact ⟨(w, v), hj2, (Wk.sub ⟨(by first | rfl | (simp only [List.length_map]; rfl) | simp [PX.get]), (by first | rfl | (simp only [List.length_map]; rfl) | simp [PX.get]), (by first | rfl | (simp only [List.length_map]; rfl) | simp [PX.get]), (by first | rfl | (simp only [List.length_map]; rfl) | simp [PX.get]), (by first | rfl | (simp only [List.length_map]; rfl) | simp [PX.get]), (by first | rfl | (simp only [List.length_map]; rfl) | simp [PX.get]), (by first | rfl | (simp only [List.length_map]; rfl) | simp [PX.get]), (by first | rfl | (simp only [List.length_map]; rfl) | simp [PX.get]), trivial⟩ ⟨(by first | rfl | (simp only [List.length_map]; rfl) | simp [PX.get]), (by first | rfl | (simp only [List.length_map]; rfl) | simp [PX.get]), (by first | rfl | (simp only [List.length_map]; rfl) | simp [PX.get]), trivial⟩)⟩
  · rintro ⟨w, v⟩ hj
    simp only at hj
    unfold keptJ at hj
    rw [List.take_length] at hj
    conv => whnf
    refine brk_i (fun h => absurd h (by simp)) (fun _ => ?_)
    conv => whnf
    rcases hj with ⟨h2, h3, h4⟩ | ⟨j, p, h2, h3, h4, h5, h6, h7, h8⟩
    · subst h2
      rw [h4]
      conv => whnf
      exact RetA_viewR 0 rfl rfl ⟨⟨rfl, rfl⟩, rfl⟩
    · subst h2
      rw [h5]
      have hx1 : (L.map (·.1))[j]? = some p.1 := by rw [List.getElem?_map, h4]; rfl
      rw [show decide (((j : Nat) : Int) < 0) = false from decide_eq_false (by omega)]
      conv => whnf
      refine elemK_nat hx1 ?_
      conv => whnf
      exact RetA_view 0 rfl ⟨⟨rfl, rfl⟩, rfl⟩
end Go.PX

namespace Go.PX
open Go.Proofs

/- Lamp: the reference: Run, Longest, Wind. -/

theorem FnV.arg {P : Program} {f : FuncId} {ds ds' : List D} {res : D} (h : FnV P f ds res) (hr : ∀ (F : Nat → Nat) (w : World) (l : List Value), RepDL F w ds' l → RepDL F w ds l) : FnV P f ds' res :=
  fun {_} Y s => ⟨(h Y s).enter, fun cx hY L F vals w hh hv => (h Y s).run cx hY L F vals w hh (RepVL.inj.2 (hr _ _ _ (RepVL.inj.1 hv)))⟩

theorem la50n (x : LLamp) (t : LTruth) (hr : CrsR x [] t) : FnV Try.prog 50 [x.d, .nils, t.d] (boolsD (courseL x [] t)) :=
  FnV.arg (fun {_} => la50 x [] t hr) (fun F w l h => by
    obtain ⟨a, l1, rfl, ha, b, l2, rfl, hb, h2⟩ := h
    exact ⟨a, _, rfl, ha, b, _, rfl, RepD.relax .nils b hb, h2⟩)

def runV (x : LLamp) (ps : List LPhase) (a v : Int) : Int := if failsL (courseL x [] ⟨a, [v]⟩) ps < 0 then x.night else failsL (courseL x [] ⟨a, [v]⟩) ps

theorem CrsR.one {x : LLamp} (h : LampR x) {a v : Int} (ha : 0 ≤ a ∧ a < x.drum) (hv : 1 ≤ v ∧ v ≤ 40) : CrsR x [] ⟨a, [v]⟩ := ⟨h, by simp, ha, rfl, fun s hs => by rw [List.mem_singleton.1 hs]; exact hv⟩

set_option maxHeartbeats 1000000 in
theorem la57 (x : LLamp) (l : LLight) (a v : Int) (h : LampR x) (hl : LightR l) (ha : 0 ≤ a ∧ a < x.drum) (hv : 1 ≤ v ∧ v ≤ 40) : FnV Try.prog 57 [x.d, l.d, i64 a, i64 v] (i64 (runV x l.phases a v)) := by
  refine fnV_of mixed tysOk Try.func57 rfl (ft := ft57) 4 (by decide +kernel) (by rfl) fun {σ} Y st => ?_
  conv => whnf
  refine DrawCall_fz (la50n x ⟨a, [v]⟩ (CrsR.one h ha hv)) 1 rfl rfl ?_
  conv => whnf
  obtain ⟨k1, k2, k3⟩ := courseL_len (w := []) (t := ⟨a, [v]⟩) h
  refine DrawCall_v (la54 (courseL x [] ⟨a, [v]⟩) l.phases k1 k2 hl.ph) rfl rfl ?_
  conv => whnf
  unfold runV
  refine brk_i (fun h1 => ?_) (fun h1 => ?_)
  · have h1 : failsL (courseL x [] ⟨a, [v]⟩) l.phases < 0 := by simpa using h1
    rw [if_pos h1]
    conv => whnf
    exact RetA_view 0 rfl ⟨⟨rfl, rfl⟩, rfl⟩
  · have h1 : ¬ failsL (courseL x [] ⟨a, [v]⟩) l.phases < 0 := by simpa using h1
    rw [if_neg h1]
    conv => whnf
    exact RetA_view 0 rfl ⟨⟨rfl, rfl⟩, rfl⟩

theorem courseF_any {x : LLamp} {w sp : List Int} : ∀ {k : Nat} {s a b : Int} {n : Nat}, courseF (anyStart x) w sp k s a b n = courseF x w sp k s a b n
  | 0, _, _, _, _ => rfl
  | k + 1, s, a, b, n => by
    rw [courseF, courseF, courseF_any, courseF_any]; rfl

theorem check_alone (x : LLamp) : (checkL (aloneC x)).2.2 = (wheelF x).2.2 := by
  unfold checkL aloneC
  by_cases h : (wheelF x).2.2 = 0
  · simp [h, windF, sightF]
  · simp [h]

def runsP (x : LLamp) : List (Int × Int) := (upto x.drum.toNat 0).flatMap fun a => (spanL x.speed).map fun v => (a, v)
def longR (x : LLamp) (ps : List LPhase) : Int := (runsP x).foldl (fun n p => min n (runV x ps p.1 p.2)) x.night

theorem anyC_eq {x : LLamp} (h : LampR x) : anyC x = (runsP x).map fun p => (⟨p.1, [p.2]⟩, courseL x [] ⟨p.1, [p.2]⟩) := by
  unfold anyC
  rw [truL_all (upF_nil h.any)]
  have h1 : (allT (anyStart x) []).filter (fun t => okW trueF 0 (courseL (anyStart x) [] t)) = allT (anyStart x) [] := by
    rw [List.filter_eq_self]
    exact fun t _ => okW_true _ _
  rw [h1]
  have h2 : allT (anyStart x) [] = (runsP x).map fun p => (⟨p.1, [p.2]⟩ : LTruth) := by
    unfold allT runsP
    have e1 : spanL (anyStart x).start = upto x.drum.toNat 0 := by
      show upto (x.drum - 1 + 1 - 0).toNat 0 = _
      congr 1
      have := h.drum
      omega
    have e2 : speedsL (anyStart x).speed (([] : List Int).length + 1) = (spanL x.speed).map fun v => [v] := by
      show (spanL x.speed).flatMap (fun v => [[]].map (v :: ·)) = _
      generalize spanL x.speed = q
      induction q with
      | nil => rfl
      | cons v r ih => rw [List.flatMap_cons, ih]; rfl
    rw [e1, e2, List.map_flatMap]
    congr 1
    funext a
    rw [List.map_map, List.map_map]
    rfl
  rw [h2, List.map_map]
  refine List.map_congr_left fun p _ => ?_
  show (_, courseF (anyStart x) _ _ _ _ _ _ _) = (_, courseF x _ _ _ _ _ _ _)
  rw [courseF_any]
  rfl

theorem longF_ref {x : LLamp} (h : LampR x) (ps : List LPhase) : longF x ps = longR x ps := by
  unfold longF longR
  rw [anyC_eq h, List.foldl_map]
  have key : ∀ (q : List (Int × Int)) (n : Int), n ≤ x.night → q.foldl (fun n p => longStep ps n (⟨p.1, [p.2]⟩, courseL x [] ⟨p.1, [p.2]⟩)) n = q.foldl (fun n p => min n (runV x ps p.1 p.2)) n := by
    intro q
    induction q with
    | nil => exact fun _ _ => rfl
    | cons p r ih =>
      intro n hn
      rw [List.foldl_cons, List.foldl_cons]
      have : longStep ps n (⟨p.1, [p.2]⟩, courseL x [] ⟨p.1, [p.2]⟩) = min n (runV x ps p.1 p.2) := by
        unfold longStep runV
        simp only
        by_cases h1 : failsL (courseL x [] ⟨p.1, [p.2]⟩) ps < 0
        · rw [if_neg (by omega), if_pos h1]; omega
        · rw [if_pos (by omega), if_neg h1]
      rw [this]
      exact ih _ (by omega)
  exact key _ _ (Int.le_refl _)

set_option maxHeartbeats 1000000 in
theorem la38 (x : LLamp) (l : LLight) : FnV Try.prog 38 [x.d, l.d] (.tup [i64 (longV x l), i64 (longE x l)]) := by
  refine fnV_of mixed tysOk Try.func38 rfl (ft := ft38) 2 (by decide +kernel) (by rfl) fun {σ} Y st => ?_
  conv => whnf
  refine CallA_v (la62 x) rfl rfl ?_
  conv => whnf
  refine CallA_v (la91 l (wheelF x).2.2) rfl rfl ?_
  conv => whnf
  have he : (if (wheelF x).2.2 = 0 then (lightsF [l]).2 else (wheelF x).2.2) = longE x l := by
    unfold longE entrE
    rw [check_alone]
  rw [he]
  by_cases h0 : longE x l = 0
  case neg =>
    have hv : longV x l = 0 := by unfold longV; rw [if_neg h0]
    rw [hv]
    refine brk_i (fun _ => ?_) (fun h1 => absurd h1 (by simp [h0]))
    conv => whnf
    exact RetA_view 0 rfl ⟨⟨rfl, rfl⟩, rfl⟩
  obtain ⟨hR, hl⟩ := long_ok h0
  have hv : longV x l = longR x l.phases := by unfold longV; rw [if_pos h0, longF_ref hR]
  rw [hv]
  unfold longR runsP
  have hd := hR.drum
  have hs := hR.speed
  refine brk_i (fun h1 => absurd h1 (by simp [h0])) (fun _ => ?_)
  conv => whnf
  refine LoopA_p (T := tys) tysOk (by exact drawsB_spec mixed tysOk (by decide +kernel)) (α := Nat × Int)
    (fun p => ⟨[(2, .ptr 2 0), (3, .ptr 3 0), (9, .d (i64 p.2)), (10, .d (i64 p.1))], [(2, .box (.dd x.cells)), (3, .box (.dd l.cells))], st⟩)
    (fun p => p.1 ≤ x.drum.toNat ∧ ((upto x.drum.toNat 0).flatMap fun a => (spanL x.speed).map fun v => (a, v)).foldl (fun n p => min n (runV x l.phases p.1 p.2)) x.night = ((upto (x.drum.toNat - p.1) p.1).flatMap fun a => (spanL x.speed).map fun v => (a, v)).foldl (fun n p => min n (runV x l.phases p.1 p.2)) p.2)
    (fun p => x.drum.toNat - p.1) (0, x.night) (Wk.sub ⟨(by first | rfl | (simp only [List.length_map]; rfl) | simp [PX.get]), (by first | rfl | (simp only [List.length_map]; rfl) | simp [PX.get]), (by first | rfl | (simp only [List.length_map]; rfl) | simp [PX.get]), (by first | rfl | (simp only [List.length_map]; rfl) | simp [PX.get]), trivial⟩ ⟨(by first | rfl | (simp only [List.length_map]; rfl) | simp [PX.get]), (by first | rfl | (simp only [List.length_map]; rfl) | simp [PX.get]), trivial⟩) ⟨Nat.zero_le _, rfl⟩ ?_
  rintro ⟨j, n0⟩ ⟨hj, hb⟩
  simp only at hj hb
  conv => whnf
  refine brk_i (fun h4 => ?_) (fun h4 => ?_)
  case refine_2 =>
    have h4 : ¬ (j : Int) < x.drum := by simpa using h4
    rw [show x.drum.toNat - j = 0 by omega, upto, List.flatMap_nil, List.foldl_nil] at hb
    rw [hb]
    conv => whnf
    rw [h0]
    exact RetA_view 0 rfl ⟨⟨rfl, rfl⟩, rfl⟩
  have h4 : (j : Int) < x.drum := by simpa using h4
  obtain ⟨m, hm⟩ : ∃ m, x.drum.toNat - j = m + 1 := ⟨x.drum.toNat - j - 1, by omega⟩
  rw [hm, upto, List.flatMap_cons, List.foldl_append, List.foldl_map] at hb
  conv => whnf
  refine LoopA_p (T := tys) tysOk (by exact drawsB_spec mixed tysOk (by decide +kernel)) (α := Nat × Int)
    (fun p => ⟨[(2, .ptr 2 0), (3, .ptr 3 0), (9, .d (i64 p.2)), (10, .d (i64 j)), (11, .d (i64 (x.speed.lo + p.1)))], [(2, .box (.dd x.cells)), (3, .box (.dd l.cells))], st⟩)
    (fun p => p.1 ≤ (x.speed.hi + 1 - x.speed.lo).toNat ∧ (spanL x.speed).foldl (fun n v => min n (runV x l.phases j v)) n0 = (upto ((x.speed.hi + 1 - x.speed.lo).toNat - p.1) (x.speed.lo + p.1)).foldl (fun n v => min n (runV x l.phases j v)) p.2)
    (fun p => (x.speed.hi + 1 - x.speed.lo).toNat - p.1) (0, n0) ?wk ?pr ?_
  case wk => exact Wk.sub ⟨rfl, rfl, rfl, rfl, by show some (V.d (i64 x.speed.lo)) = some (V.d (i64 (x.speed.lo + ((0 : Nat) : Int)))); simp, trivial⟩ ⟨rfl, rfl, trivial⟩
  case pr => exact ⟨Nat.zero_le _, by simp [spanL]⟩
  rintro ⟨i, n1⟩ ⟨hi, hc⟩
  simp only at hi hc
  conv => whnf
  refine brk_i (fun h5 => ?_) (fun h5 => ?_)
  case refine_2 =>
    have h5 : ¬ x.speed.lo + i ≤ x.speed.hi := by simpa using h5
    rw [show (x.speed.hi + 1 - x.speed.lo).toNat - i = 0 by omega, upto, List.foldl_nil] at hc
    rw [hc] at hb
    conv => whnf
    refine arith_to (((j + 1 : Nat) : Int)) (by (try dsimp only); omega) (wrap_i64 (by (try dsimp only); omega)) ?_
    conv => whnf
    refine ⟨(j + 1, n1), by simp only; omega, ⟨by simp only; omega, ?_⟩, (Wk.sub ⟨(by first | rfl | (simp only [List.length_map]; rfl) | simp [PX.get]), (by first | rfl | (simp only [List.length_map]; rfl) | simp [PX.get]), (by first | rfl | (simp only [List.length_map]; rfl) | simp [PX.get]), (by first | rfl | (simp only [List.length_map]; rfl) | simp [PX.get]), trivial⟩ ⟨(by first | rfl | (simp only [List.length_map]; rfl) | simp [PX.get]), (by first | rfl | (simp only [List.length_map]; rfl) | simp [PX.get]), trivial⟩)⟩
    simp only
    rw [hb, show x.drum.toNat - (j + 1) = m by omega]
    rfl
  have h5 : x.speed.lo + i ≤ x.speed.hi := by simpa using h5
  obtain ⟨m2, hm2⟩ : ∃ m2, (x.speed.hi + 1 - x.speed.lo).toNat - i = m2 + 1 := ⟨(x.speed.hi + 1 - x.speed.lo).toNat - i - 1, by omega⟩
  rw [hm2, upto, List.foldl_cons] at hc
  conv => whnf
  refine CallA_v (la57 x l j (x.speed.lo + i) hR hl (by omega) (by omega)) rfl rfl ?_
  conv => whnf
  refine arith_to (x.speed.lo + ((i + 1 : Nat) : Int)) (by (try dsimp only); omega) (wrap_i64 (by (try dsimp only); omega)) ?_
  conv => whnf
  refine ⟨(i + 1, min n1 (runV x l.phases j (x.speed.lo + i))), by simp only; omega, ⟨by simp only; omega, ?_⟩, Wk.sub ⟨rfl, rfl, rfl, rfl, rfl, trivial⟩ ⟨rfl, rfl, trivial⟩⟩
  simp only
  rw [hc, show (x.speed.hi + 1 - x.speed.lo).toNat - (i + 1) = m2 by omega, show x.speed.lo + ((i + 1 : Nat) : Int) = x.speed.lo + (i : Int) + 1 by omega]

set_option maxHeartbeats 1000000 in
theorem la40 (x : LLamp) (l : LLight) : FnV Try.prog 40 [x.d, l.d] (.tup [intsD (windV x l), i64 (longE x l)]) := by
  refine fnV_of mixed tysOk Try.func40 rfl (ft := ft40) 2 (by decide +kernel) (by rfl) fun {σ} Y st => ?_
  conv => whnf
  refine CallA_v (la38 x l) rfl rfl ?_
  conv => whnf
  by_cases h0 : longE x l = 0
  case neg =>
    have hv : windV x l = [] := by unfold windV; rw [if_neg h0]
    rw [hv]
    refine brk_i (fun _ => ?_) (fun h1 => absurd h1 (by simp [h0]))
    conv => whnf
    exact RetA_viewR 0 rfl rfl ⟨⟨rfl, rfl⟩, rfl⟩
  have hv : windV x l = windL ((x.night - 1).tdiv (longV x l)).toNat (longV x l) := by unfold windV; rw [if_pos h0]
  have hR := (long_ok h0).1
  have hl := longF_rng (ps := l.phases) hR
  have hlv : longV x l = longF x l.phases := by unfold longV; rw [if_pos h0]
  rw [← hlv] at hl
  rw [hv]
  have hn := hR.night
  refine brk_i (fun h1 => absurd h1 (by simp [h0])) (fun _ => ?_)
  conv => whnf
  rw [Int.tdiv_eq_ediv_of_nonneg (by omega)]
  have hiff : ∀ i : Nat, ((i : Int) + 1) * longV x l < x.night ↔ i < ((x.night - 1) / longV x l).toNat := fun i => by
    have h1 := Int.le_ediv_iff_mul_le (a := (i : Int) + 1) (b := x.night - 1) (c := longV x l) (by omega)
    have h2 : 0 ≤ (x.night - 1) / longV x l := Int.ediv_nonneg (by omega) (by omega)
    omega
  have hq2 : ((x.night - 1) / longV x l).toNat ≤ 200 := by
    have := Int.ediv_le_self (a := x.night - 1) (longV x l) (by omega)
    omega
  generalize ((x.night - 1) / longV x l).toNat = K at hiff hq2
  generalize longV x l = n at hl hiff
  refine LoopA_p (T := tys) tysOk (by exact drawsB_spec mixed tysOk (by decide +kernel)) (α := Nat)
    (fun i => ⟨[(2, .ptr 2 0), (6, .d (i64 n)), (7, .d (i64 (longE x l))), (8, .sl 30 1 0 i), (9, .d (i64 (((i : Int) + 1) * n)))], [(2, .box (.dd x.cells)), (30, .arr 1 (.dd ((windL i n).map fun n => [i64 n])))], st⟩) (fun i => i ≤ K) (fun i => K - i) 0 ((Wk.born 8 30 1 rfl rfl rfl).trans (Wk.sub ⟨rfl, rfl, rfl, rfl, by show some (V.d (i64 n)) = some (V.d (i64 ((((0 : Nat) : Int) + 1) * n))); simp, trivial⟩ ⟨rfl, rfl, trivial⟩)) (Nat.zero_le _) ?_
  intro i hi
  have hil : (windL i n).length = i := windL_len i n
  have hii := hiff i
  conv => whnf
  refine brk_i (fun h1 => ?_) (fun h1 => ?_)
  · have h1 : ((i : Int) + 1) * n < x.night := by simpa using h1
    have h2 := hii.1 h1
    have hm0 : 0 ≤ ((i : Int) + 1) * n := Int.mul_nonneg (by omega) (by omega)
    have hm1 : (((i + 1 : Nat) : Int) + 1) * n = ((i : Int) + 1) * n + n := by
      rw [show (((i + 1 : Nat) : Int) + 1) = ((i : Int) + 1) + 1 by omega, Int.add_mul, Int.one_mul]
    conv => whnf
    refine ownK_whole rfl ?_
    conv => whnf
    refine ownK_whole (by simp [Els.len, hil]) ?_
    conv => whnf
    refine chk_i (decide_eq_true (by
      show (((windL i n).map fun n => [i64 n]).length + 1) * 8 ≤ 140737488355328
      rw [List.length_map]; omega)) ?_
    conv => whnf
    refine arith_to ((((i + 1 : Nat) : Int) + 1) * n) hm1.symm (wrap_i64 (by omega)) ?_
    conv => whnf
    refine ⟨i + 1, (by show K - (i + 1) < K - i; omega), (by show i + 1 ≤ K; omega), Wk.sub ⟨rfl, rfl, rfl, ?_, rfl, trivial⟩ ⟨rfl, ?_, trivial⟩⟩
    · simp [PX.get, Els.len, hil]
    · rw [windL_succ]; simp [PX.get]
  · have h1 : ¬ ((i : Int) + 1) * n < x.night := by simpa using h1
    have h2 : i = K := by
      have : ¬ i < K := fun h => h1 (hii.2 h)
      omega
    subst h2
    conv => whnf
    rw [h0]
    exact RetA_view 1 (ds := [intsD (windL i n), i64 0]) (viewL_cons (viewV_sl rfl (by simp [hil])) rfl) ⟨⟨rfl, rfl⟩, rfl⟩
end Go.PX

namespace Go.PX
open Go.Proofs

/- Lamp: the makers of the examples. -/

theorem la59 (s : Int) (b : Bool) : FnV Try.prog 59 [i64 s, .bool b] (.agg [i64 s, .bool b]) := by
  refine fnV_of mixed tysOk Try.func59 rfl (ft := ft59) 2 (by decide +kernel) (by rfl) fun {σ} Y st => ?_
  conv => whnf
  exact RetA_view 0 rfl ⟨⟨rfl, rfl⟩, rfl⟩

def lampK : LLamp := ⟨12, [⟨0, 2⟩], ⟨0, 1⟩, ⟨1, 2⟩, 100, 24⟩

theorem la41 : FnV Try.prog 41 [] lampK.d := by
  refine fnV_of mixed tysOk Try.func41 rfl (ft := ft41) 0 (by decide +kernel) (by rfl) fun {σ} Y st => ?_
  conv => whnf
  refine CallA_v (ds := [i64 0, i64 2]) (fn28 0 2) rfl rfl ?_
  conv => whnf
  refine CallA_v (ds := [i64 0, i64 1]) (fn28 0 1) rfl rfl ?_
  conv => whnf
  refine CallA_v (ds := [i64 1, i64 2]) (fn28 1 2) rfl rfl ?_
  conv => whnf
  exact RetA_view 2 rfl ⟨⟨rfl, rfl⟩, rfl⟩

def caseK (l : List LSight) : LCase := ⟨lampK, [], [⟨3, false⟩, ⟨12, true⟩] ++ l⟩

theorem la42_0 : FnV Try.prog 42 [.nils] (caseK []).d := by
  refine fnV_of mixed tysOk Try.func42 rfl (ft := ft42) 1 (by decide +kernel) (by rfl) fun {σ} Y st => ?_
  conv => whnf
  refine CallA_v (la41) rfl rfl ?_
  conv => whnf
  refine CallA_v (ds := [i64 3, .bool false]) (la59 3 false) rfl rfl ?_
  conv => whnf
  refine CallA_v (ds := [i64 12, .bool true]) (la59 12 true) rfl rfl ?_
  conv => whnf
  refine ownK_whole rfl ?_
  conv => whnf
  exact RetA_viewR 2 rfl rfl ⟨⟨rfl, rfl⟩, rfl⟩
theorem la42_1 : FnV Try.prog 42 [.vs [[i64 13, .bool false]]] (caseK [⟨13, false⟩]).d := by
  refine fnV_of mixed tysOk Try.func42 rfl (ft := ft42) 1 (by decide +kernel) (by rfl) fun {σ} Y st => ?_
  conv => whnf
  refine CallA_v (la41) rfl rfl ?_
  conv => whnf
  refine CallA_v (ds := [i64 3, .bool false]) (la59 3 false) rfl rfl ?_
  conv => whnf
  refine CallA_v (ds := [i64 12, .bool true]) (la59 12 true) rfl rfl ?_
  conv => whnf
  refine ownK_whole rfl ?_
  conv => whnf
  exact RetA_viewR 2 rfl rfl ⟨⟨rfl, rfl⟩, rfl⟩
theorem la42_2 : FnV Try.prog 42 [.vs [[i64 13, .bool false], [i64 18, .bool false]]] (caseK [⟨13, false⟩, ⟨18, false⟩]).d := by
  refine fnV_of mixed tysOk Try.func42 rfl (ft := ft42) 1 (by decide +kernel) (by rfl) fun {σ} Y st => ?_
  conv => whnf
  refine CallA_v (la41) rfl rfl ?_
  conv => whnf
  refine CallA_v (ds := [i64 3, .bool false]) (la59 3 false) rfl rfl ?_
  conv => whnf
  refine CallA_v (ds := [i64 12, .bool true]) (la59 12 true) rfl rfl ?_
  conv => whnf
  refine ownK_whole rfl ?_
  conv => whnf
  exact RetA_viewR 2 rfl rfl ⟨⟨rfl, rfl⟩, rfl⟩

theorem la97 (n : ByteArray) (a b c d : Int) : FnV Try.prog 97 [.str n, i64 a, i64 b, i64 c, i64 d] (LLight.d ⟨n, [⟨⟨a, b⟩, ⟨c, d⟩⟩]⟩) := by
  refine fnV_of mixed tysOk Try.func97 rfl (ft := ft97) 5 (by decide +kernel) (by rfl) fun {σ} Y st => ?_
  conv => whnf
  refine CallA_v (fn28 a b) rfl rfl ?_
  conv => whnf
  refine CallA_v (fn28 c d) rfl rfl ?_
  conv => whnf
  exact RetA_view 2 rfl ⟨⟨rfl, rfl⟩, rfl⟩

def sunkB : ByteArray := ⟨#[115, 117, 110, 107]⟩
def noreB : ByteArray := ⟨#[110, 111, 114, 101]⟩
def sunkK : LLight := ⟨sunkB, [⟨⟨1, 2⟩, ⟨4, 5⟩⟩]⟩
def noreK : LLight := ⟨noreB, [⟨⟨1, 3⟩, ⟨3, 9⟩⟩]⟩

theorem la44 : FnV Try.prog 44 [] sunkK.d := by
  refine fnV_of mixed tysOk Try.func44 rfl (ft := ft44) 0 (by decide +kernel) (by rfl) fun {σ} Y st => ?_
  conv => whnf
  refine CallA_v (ds := [.str sunkB, i64 1, i64 2, i64 4, i64 5]) (la97 sunkB 1 2 4 5) rfl rfl ?_
  conv => whnf
  exact RetA_view 0 rfl ⟨⟨rfl, rfl⟩, rfl⟩
theorem la45 : FnV Try.prog 45 [] noreK.d := by
  refine fnV_of mixed tysOk Try.func45 rfl (ft := ft45) 0 (by decide +kernel) (by rfl) fun {σ} Y st => ?_
  conv => whnf
  refine CallA_v (ds := [.str noreB, i64 1, i64 3, i64 3, i64 9]) (la97 noreB 1 3 3 9) rfl rfl ?_
  conv => whnf
  exact RetA_view 0 rfl ⟨⟨rfl, rfl⟩, rfl⟩

theorem la43 (s v : Int) : FnV Try.prog 43 [i64 s, i64 v] (LTruth.d ⟨s, [v]⟩) := by
  refine fnV_of mixed tysOk Try.func43 rfl (ft := ft43) 2 (by decide +kernel) (by rfl) fun {σ} Y st => ?_
  conv => whnf
  exact RetA_view 2 rfl ⟨⟨rfl, rfl⟩, rfl⟩

theorem la34 (a b : LTruth) (ha : a.speeds.length < 1000000) : FnV Try.prog 34 [a.d, b.d] (.bool (decide (a = b))) := by
  refine fnV_of mixed tysOk Try.func34 rfl (ft := ft34) 2 (by decide +kernel) (by rfl) fun {σ} Y st => ?_
  conv => whnf
  have he : (decide (a = b)) = (decide (a.start = b.start) && decide (a.speeds = b.speeds)) := by
    rw [Bool.eq_iff_iff, Bool.and_eq_true, decide_eq_true_eq, decide_eq_true_eq, decide_eq_true_eq]
    constructor
    · rintro rfl; exact ⟨rfl, rfl⟩
    · rintro ⟨h1, h2⟩; cases a; cases b; simp_all
  rw [he]
  by_cases h1 : a.start = b.start
  · rw [decide_eq_true h1]
    conv => whnf
    refine CallA_v (fn19 a.speeds b.speeds ha) rfl rfl ?_
    conv => whnf
    exact RetA_view 0 rfl ⟨⟨rfl, rfl⟩, rfl⟩
  · rw [decide_eq_false h1]
    conv => whnf
    exact RetA_view 0 rfl ⟨⟨rfl, rfl⟩, rfl⟩
end Go.PX

namespace Go.PX
open Go.Proofs

/- Lamp: the values of the examples. -/

theorem vS : showE (caseK []) ⟨1, [2]⟩ = 0 ∧ showL (caseK []) ⟨1, [2]⟩ = [⟨0, 0⟩, ⟨6, 6⟩, ⟨12, 12⟩, ⟨18, 18⟩] := by decide +kernel
theorem vR : rangeE (caseK [⟨13, false⟩]) = 0 ∧ rangeA (caseK [⟨13, false⟩]) = ⟨1, 1⟩ ∧ rangeB' (caseK [⟨13, false⟩]) = [⟨2, 2⟩] := by decide +kernel
theorem vA1 : atE (caseK []) 2 = 0 ∧ atV (caseK []) 2 = 2 := by decide +kernel
theorem vA2 : atE (caseK [⟨13, false⟩]) 6 = 0 ∧ atV (caseK [⟨13, false⟩]) 6 = 1 := by decide +kernel
theorem vW : (checkL (caseK [⟨13, false⟩, ⟨18, false⟩])).2.2 = 0 ∧ wrongV (caseK [⟨13, false⟩, ⟨18, false⟩]) = [2] := by decide +kernel
theorem vF1 : failE (caseK []) sunkK ⟨0, [1]⟩ = 0 ∧ failV (caseK []) sunkK ⟨0, [1]⟩ = 2 := by decide +kernel
theorem vF2 : failE (caseK []) noreK ⟨0, [1]⟩ = 0 ∧ failV (caseK []) noreK ⟨0, [1]⟩ = -1 := by decide +kernel
theorem vK1 : keptE (caseK []) sunkK = 0 ∧ keptX (caseK []) sunkK = (⟨0, [1]⟩, 2) := by decide +kernel
theorem vK2 : keptE (caseK [⟨13, false⟩]) sunkK = 4 := by decide +kernel
theorem vWh : entrE (caseK []) [noreK, sunkK] = 0 ∧ whichV (caseK []) [noreK, sunkK] = [0, 1] := by decide +kernel
theorem vL : longE lampK sunkK = 0 ∧ longV lampK sunkK = 2 := by decide +kernel
theorem vWi : windV lampK sunkK = [2, 4, 6, 8, 10, 12, 14, 16, 18, 20, 22] := by decide +kernel
theorem vT : (lightsF [noreK, noreK]).2 = 5 := by decide +kernel
end Go.PX

namespace Go.PX
open Go.Proofs

/- Lamp: Awake. -/

theorem kS : FnV Try.prog 19 [(caseK []).d, LTruth.d ⟨1, [2]⟩] (.tup [spansD [⟨0, 0⟩, ⟨6, 6⟩, ⟨12, 12⟩, ⟨18, 18⟩], i64 0]) := FnV.cast (la19 _ _) (by rw [vS.1, vS.2])
theorem kR : FnV Try.prog 23 [(caseK [⟨13, false⟩]).d] (.tup [Span.d ⟨1, 1⟩, spansD [⟨2, 2⟩], i64 0]) := FnV.cast (la23 _) (by rw [vR.1, vR.2.1, vR.2.2])
theorem kA1 : FnV Try.prog 25 [(caseK []).d, i64 2] (.tup [i64 2, i64 0]) := FnV.cast (la25 _ _) (by rw [vA1.1, vA1.2])
theorem kA2 : FnV Try.prog 25 [(caseK [⟨13, false⟩]).d, i64 6] (.tup [i64 1, i64 0]) := FnV.cast (la25 _ _) (by rw [vA2.1, vA2.2])
theorem kW : FnV Try.prog 27 [(caseK [⟨13, false⟩, ⟨18, false⟩]).d] (.tup [intsD [2], i64 0]) := FnV.cast (la27 _) (by rw [vW.1, vW.2])
theorem kF1 : FnV Try.prog 30 [(caseK []).d, sunkK.d, LTruth.d ⟨0, [1]⟩] (.tup [i64 2, i64 0]) := FnV.cast (la30 _ _ _) (by rw [vF1.1, vF1.2])
theorem kF2 : FnV Try.prog 30 [(caseK []).d, noreK.d, LTruth.d ⟨0, [1]⟩] (.tup [i64 (-1), i64 0]) := FnV.cast (la30 _ _ _) (by rw [vF2.1, vF2.2])
theorem kK1 : FnV Try.prog 32 [(caseK []).d, sunkK.d] (.tup [LTruth.d ⟨0, [1]⟩, i64 2, i64 0]) := FnV.cast (la32 _ _) (by rw [keptD, vK1.1, vK1.2])
theorem kK2 : FnV Try.prog 32 [(caseK [⟨13, false⟩]).d, sunkK.d] (.tup [(keptX (caseK [⟨13, false⟩]) sunkK).1.d, i64 (keptX (caseK [⟨13, false⟩]) sunkK).2, i64 4]) := FnV.cast (la32 _ _) (by rw [keptD, vK2])
theorem kWh : FnV Try.prog 35 [(caseK []).d, lightsD [noreK, sunkK]] (.tup [intsD [0, 1], i64 0]) := FnV.cast (la35 _ _) (by rw [vWh.1, vWh.2])
theorem kL : FnV Try.prog 37 [lampK.d, sunkK.d] (.tup [i64 2, i64 0]) := FnV.cast (la37 _ _) (by rw [vL.1, vL.2])
theorem kWi : FnV Try.prog 39 [lampK.d, sunkK.d] (.tup [intsD [2, 4, 6, 8, 10, 12, 14, 16, 18, 20, 22], i64 0]) := FnV.cast (la39 _ _) (by rw [vWi, vL.1])
theorem kT : FnV Try.prog 17 [lightsD [noreK, noreK]] (.tup [i64 (lightsF [noreK, noreK]).1, i64 5]) := FnV.cast (la17 _) (by rw [vT])

set_option maxHeartbeats 4000000 in
theorem la22 : FnV Try.prog 22 [] (.bool true) := by
  refine fnV_of mixed tysOk Try.func22 rfl (ft := ft22) 0 (by decide +kernel) (by rfl) fun {σ} Y st => ?_
  conv => whnf
  refine CallA_v (ds := [i64 13, .bool false]) (la59 13 false) rfl rfl ?_
  conv => whnf
  refine CallA_fz la42_1 1 [32] rfl rfl ?_
  conv => whnf
  refine CallA_v la42_0 rfl rfl ?_
  conv => whnf
  refine CallA_v (ds := [i64 1, i64 2]) (la43 1 2) rfl rfl ?_
  conv => whnf
  refine CallA_v (kS) rfl rfl ?_
  conv => whnf
  refine CallA_v (kR) rfl rfl ?_
  conv => whnf
  refine CallA_v la42_0 rfl rfl ?_
  conv => whnf
  refine CallA_v (kA1) rfl rfl ?_
  conv => whnf
  refine CallA_v (kA2) rfl rfl ?_
  conv => whnf
  refine CallA_v (ds := [i64 13, .bool false]) (la59 13 false) rfl rfl ?_
  conv => whnf
  refine CallA_v (ds := [i64 18, .bool false]) (la59 18 false) rfl rfl ?_
  conv => whnf
  refine CallA_fz la42_2 1 [59] rfl rfl ?_
  conv => whnf
  refine CallA_v (kW) rfl rfl ?_
  conv => whnf
  refine CallA_v la42_0 rfl rfl ?_
  conv => whnf
  refine CallA_v (la44) rfl rfl ?_
  conv => whnf
  refine CallA_v (ds := [i64 0, i64 1]) (la43 0 1) rfl rfl ?_
  conv => whnf
  refine CallA_v (kF1) rfl rfl ?_
  conv => whnf
  refine CallA_v la42_0 rfl rfl ?_
  conv => whnf
  refine CallA_v (la45) rfl rfl ?_
  conv => whnf
  refine CallA_v (ds := [i64 0, i64 1]) (la43 0 1) rfl rfl ?_
  conv => whnf
  refine CallA_v (kF2) rfl rfl ?_
  conv => whnf
  refine CallA_v la42_0 rfl rfl ?_
  conv => whnf
  refine CallA_v (la44) rfl rfl ?_
  conv => whnf
  refine CallA_v (kK1) rfl rfl ?_
  conv => whnf
  refine DrawCall_v la44 rfl rfl ?_
  conv => whnf
  refine DrawCall_v kK2 rfl rfl ?_
  conv => whnf
  refine CallA_v la42_0 rfl rfl ?_
  conv => whnf
  refine CallA_v (la45) rfl rfl ?_
  conv => whnf
  refine CallA_v (la44) rfl rfl ?_
  conv => whnf
  refine CallA_fz kWh 1 [96] rfl rfl ?_
  conv => whnf
  refine CallA_v (la41) rfl rfl ?_
  conv => whnf
  refine CallA_v (la44) rfl rfl ?_
  conv => whnf
  refine CallA_v (kL) rfl rfl ?_
  conv => whnf
  refine CallA_v (la41) rfl rfl ?_
  conv => whnf
  refine CallA_v (la44) rfl rfl ?_
  conv => whnf
  refine CallA_v (kWi) rfl rfl ?_
  conv => whnf
  refine CallA_v (la45) rfl rfl ?_
  conv => whnf
  refine CallA_v (la45) rfl rfl ?_
  conv => whnf
  refine CallA_view kT rfl 1 rfl ?_
  conv => whnf
  refine DrawCall_v (ds := [i64 0, i64 0]) (fn28 0 0) rfl rfl ?_
  conv => whnf
  refine DrawCall_v (ds := [i64 6, i64 6]) (fn28 6 6) rfl rfl ?_
  conv => whnf
  refine DrawCall_v (ds := [i64 12, i64 12]) (fn28 12 12) rfl rfl ?_
  conv => whnf
  refine DrawCall_v (ds := [i64 18, i64 18]) (fn28 18 18) rfl rfl ?_
  conv => whnf
  refine DrawCall_view (fn45 [⟨0, 0⟩, ⟨6, 6⟩, ⟨12, 12⟩, ⟨18, 18⟩] [⟨0, 0⟩, ⟨6, 6⟩, ⟨12, 12⟩, ⟨18, 18⟩] (by decide)) rfl 1 rfl ?_
  conv => whnf
  refine DrawCall_v (ds := [i64 1, i64 1]) (fn28 1 1) rfl rfl ?_
  conv => whnf
  refine DrawCall_v (ds := [i64 2, i64 2]) (fn28 2 2) rfl rfl ?_
  conv => whnf
  refine DrawCall_view (fn45 [⟨2, 2⟩] [⟨2, 2⟩] (by decide)) rfl 1 rfl ?_
  conv => whnf
  refine DrawCall_view (fn19 [2] [2] (by decide)) rfl 1 rfl ?_
  conv => whnf
  refine DrawCall_v (ds := [i64 0, i64 1]) (la43 0 1) rfl rfl ?_
  conv => whnf
  refine DrawCall_v (la34 ⟨0, [1]⟩ ⟨0, [1]⟩ (by decide)) rfl rfl ?_
  conv => whnf
  refine DrawCall_view (fn19 [0, 1] [0, 1] (by decide)) rfl 1 rfl ?_
  conv => whnf
  exact RetA_view 0 rfl ⟨⟨rfl, rfl⟩, rfl⟩
end Go.PX

namespace Go.PX
open Go.Proofs

/- Lamp: LampWinds, walked. -/

theorem windV_len (x : LLamp) (l : LLight) : (windV x l).length < 1000000 := by
  unfold windV
  split
  · rename_i h0
    rw [windL_len]
    have hR := (long_ok h0).1
    have hn := hR.night
    have hl := longF_rng (ps := l.phases) hR
    have hlv : longV x l = longF x l.phases := by unfold longV; rw [if_pos h0]
    rw [hlv, Int.tdiv_eq_ediv_of_nonneg (by omega)]
    have := Int.ediv_le_self (a := x.night - 1) (longF x l.phases) (by omega)
    omega
  · simp

theorem la6 (x : LLamp) (l : LLight) : FnV Try.prog 6 [x.d, l.d] (.bool true) := by
  refine fnV_of mixed tysOk Try.func6 rfl (ft := ft6) 2 (by decide +kernel) (by rfl) fun {σ} Y st => ?_
  conv => whnf
  refine CallA_v (la37 x l) rfl rfl ?_
  conv => whnf
  refine CallA_v (la38 x l) rfl rfl ?_
  conv => whnf
  rw [show (!decide (longV x l = longV x l)) = false by simp]
  conv => whnf
  rw [show (!decide (longE x l = longE x l)) = false by simp]
  conv => whnf
  refine CallA_v (la39 x l) rfl rfl ?_
  conv => whnf
  refine CallA_v (la40 x l) rfl rfl ?_
  conv => whnf
  refine CallA_v (fn19 (windV x l) (windV x l) (windV_len x l)) rfl rfl ?_
  conv => whnf
  rw [show decide (windV x l = windV x l) = true by simp]
  conv => whnf
  rw [show decide (longE x l = longE x l) = true by simp]
  conv => whnf
  refine CallA_v (la22) rfl rfl ?_
  conv => whnf
  exact RetA_view 0 rfl ⟨⟨rfl, rfl⟩, rfl⟩
end Go.PX

namespace Go.PX
open Go.Proofs

/- Lamp: LampKnown, walked. -/

def shortK : LLamp := { lampK with night := 7 }

theorem uS : showE (caseK []) ⟨0, [1]⟩ = 0 ∧ showL (caseK []) ⟨0, [1]⟩ = [⟨0, 2⟩, ⟨12, 14⟩] := by decide +kernel
theorem uR : rangeE (caseK []) = 0 ∧ rangeA (caseK []) = ⟨0, 1⟩ ∧ rangeB' (caseK []) = [⟨1, 2⟩] := by decide +kernel
theorem uA1 : atE (caseK []) 0 = 0 ∧ atV (caseK []) 0 = 1 := by decide +kernel
theorem uA2 : atE (caseK []) 9 = 0 ∧ atV (caseK []) 9 = 0 := by decide +kernel
theorem uW : (checkL (caseK [])).2.2 = 0 ∧ wrongV (caseK []) = [] := by decide +kernel
theorem uF : failE (caseK []) sunkK ⟨1, [2]⟩ = 0 ∧ failV (caseK []) sunkK ⟨1, [2]⟩ = -1 := by decide +kernel
theorem uK : keptE (caseK []) noreK = 4 := by decide +kernel
theorem uL : longE lampK noreK = 0 ∧ longV lampK noreK = 24 := by decide +kernel
theorem uWi : longE shortK sunkK = 0 ∧ windV shortK sunkK = [2, 4, 6] := by decide +kernel

theorem qS : FnV Try.prog 19 [(caseK []).d, LTruth.d ⟨0, [1]⟩] (.tup [spansD [⟨0, 2⟩, ⟨12, 14⟩], i64 0]) := FnV.cast (la19 _ _) (by rw [uS.1, uS.2])
theorem qR : FnV Try.prog 23 [(caseK []).d] (.tup [Span.d ⟨0, 1⟩, spansD [⟨1, 2⟩], i64 0]) := FnV.cast (la23 _) (by rw [uR.1, uR.2.1, uR.2.2])
theorem qA1 : FnV Try.prog 25 [(caseK []).d, i64 0] (.tup [i64 1, i64 0]) := FnV.cast (la25 _ _) (by rw [uA1.1, uA1.2])
theorem qA2 : FnV Try.prog 25 [(caseK []).d, i64 9] (.tup [i64 0, i64 0]) := FnV.cast (la25 _ _) (by rw [uA2.1, uA2.2])
theorem qW : FnV Try.prog 27 [(caseK []).d] (.tup [intsD [], i64 0]) := FnV.cast (la27 _) (by rw [uW.1, uW.2])
theorem qF : FnV Try.prog 30 [(caseK []).d, sunkK.d, LTruth.d ⟨1, [2]⟩] (.tup [i64 (-1), i64 0]) := FnV.cast (la30 _ _ _) (by rw [uF.1, uF.2])
theorem qK : FnV Try.prog 32 [(caseK []).d, noreK.d] (.tup [(keptX (caseK []) noreK).1.d, i64 (keptX (caseK []) noreK).2, i64 4]) := FnV.cast (la32 _ _) (by rw [keptD, uK])
theorem qL : FnV Try.prog 37 [lampK.d, noreK.d] (.tup [i64 24, i64 0]) := FnV.cast (la37 _ _) (by rw [uL.1, uL.2])
theorem qWi : FnV Try.prog 39 [shortK.d, sunkK.d] (.tup [intsD [2, 4, 6], i64 0]) := FnV.cast (la39 _ _) (by rw [uWi.1, uWi.2])

set_option maxHeartbeats 4000000 in
theorem la7 : FnV Try.prog 7 [] (.bool true) := by
  refine fnV_of mixed tysOk Try.func7 rfl (ft := ft7) 0 (by decide +kernel) (by rfl) fun {σ} Y st => ?_
  conv => whnf
  refine CallA_v (la41) rfl rfl ?_
  conv => whnf
  refine CallA_v la42_0 rfl rfl ?_
  conv => whnf
  refine CallA_v (ds := [i64 0, i64 1]) (la43 0 1) rfl rfl ?_
  conv => whnf
  refine CallA_v (qS) rfl rfl ?_
  conv => whnf
  refine CallA_v la42_0 rfl rfl ?_
  conv => whnf
  refine CallA_v (qR) rfl rfl ?_
  conv => whnf
  refine CallA_v la42_0 rfl rfl ?_
  conv => whnf
  refine CallA_v (qA1) rfl rfl ?_
  conv => whnf
  refine CallA_v la42_0 rfl rfl ?_
  conv => whnf
  refine CallA_v (qA2) rfl rfl ?_
  conv => whnf
  refine CallA_v la42_0 rfl rfl ?_
  conv => whnf
  refine CallA_v (qW) rfl rfl ?_
  conv => whnf
  refine CallA_v la42_0 rfl rfl ?_
  conv => whnf
  refine CallA_v (la44) rfl rfl ?_
  conv => whnf
  refine CallA_v (ds := [i64 1, i64 2]) (la43 1 2) rfl rfl ?_
  conv => whnf
  refine CallA_v (qF) rfl rfl ?_
  conv => whnf
  refine CallA_v la42_0 rfl rfl ?_
  conv => whnf
  refine CallA_v (la45) rfl rfl ?_
  conv => whnf
  refine CallA_v (qK) rfl rfl ?_
  conv => whnf
  refine CallA_v (la41) rfl rfl ?_
  conv => whnf
  refine CallA_v (la45) rfl rfl ?_
  conv => whnf
  refine CallA_v (qL) rfl rfl ?_
  conv => whnf
  refine DrawCall_v la44 rfl rfl ?_
  conv => whnf
  refine DrawCall_v qWi rfl rfl ?_
  conv => whnf
  refine DrawCall_v (ds := [i64 0, i64 2]) (fn28 0 2) rfl rfl ?_
  conv => whnf
  refine DrawCall_v (ds := [i64 12, i64 14]) (fn28 12 14) rfl rfl ?_
  conv => whnf
  refine DrawCall_view (fn45 [⟨0, 2⟩, ⟨12, 14⟩] [⟨0, 2⟩, ⟨12, 14⟩] (by decide)) rfl 1 rfl ?_
  conv => whnf
  refine DrawCall_v (ds := [i64 0, i64 1]) (fn28 0 1) rfl rfl ?_
  conv => whnf
  refine DrawCall_v (ds := [i64 1, i64 2]) (fn28 1 2) rfl rfl ?_
  conv => whnf
  refine DrawCall_view (fn45 [⟨1, 2⟩] [⟨1, 2⟩] (by decide)) rfl 1 rfl ?_
  conv => whnf
  refine DrawCall_view (fn19 [2, 4, 6] [2, 4, 6] (by decide)) rfl 1 rfl ?_
  conv => whnf
  refine DrawCall_v la22 rfl rfl ?_
  conv => whnf
  exact RetA_view 0 rfl ⟨⟨rfl, rfl⟩, rfl⟩
end Go.PX
