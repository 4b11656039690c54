import Derived.Test.YtiflhdanniajdaaPxQ
set_option linter.all false
set_option maxRecDepth 10000
namespace Go.PX
open Go.Proofs

/- Lamp: the reference: Which. -/

set_option maxHeartbeats 1000000 in
theorem la36 (c : LCase) (l : List LLight) : FnV Try.prog 36 [c.d, lightsD l] (.tup [intsD (whichV c l), i64 (entrE c l)]) := by
  refine fnV_of mixed tysOk Try.func36 rfl (ft := ft36) 2 (by decide +kernel) (by rfl) fun {σ} Y st => ?_
  conv => whnf
  refine CallA_v (la16 c) rfl rfl ?_
  conv => whnf
  have fin1 : ∀ {e : Int}, True := fun {_} => trivial
  by_cases h00 : (checkL c).2.2 = 0
  case neg =>
    have he : entrE c l = (checkL c).2.2 := by unfold entrE; rw [if_neg h00]
    have hv : whichV c l = [] := by unfold whichV; rw [he, if_neg h00]
    rw [he, hv]
    refine brk_i (fun h1 => absurd h1 (by simp [h00])) (fun _ => ?_)
    conv => whnf
    refine brk_i (fun _ => ?_) (fun h1 => absurd h1 (by simp [h00]))
    conv => whnf
    exact RetA_viewR 0 rfl rfl ⟨⟨rfl, rfl⟩, rfl⟩
  have he : entrE c l = (lightsF l).2 := by unfold entrE; rw [if_pos h00]
  refine brk_i (fun _ => ?_) (fun h1 => absurd h1 (by simp [h00]))
  conv => whnf
  refine CallA_v (la18 l) rfl rfl ?_
  conv => whnf
  rw [← he]
  by_cases h0 : entrE c l = 0
  case neg =>
    have hv : whichV c l = [] := by unfold whichV; rw [if_neg h0]
    rw [hv]
    refine brk_i (fun _ => ?_) (fun h1 => absurd h1 (by simp [h0]))
    conv => whnf
    exact RetA_viewR 0 rfl rfl ⟨⟨rfl, rfl⟩, rfl⟩
  obtain ⟨_, hl⟩ := entr_ok h0
  have hR := checkL_ok h00
  have hn := hR.lamp.night
  have hll : l.length ≤ 6 := (lightsF_ok (by rw [← he]; exact h0)).1.2
  have hv : whichV c l = whichF (agL c) l 0 := by unfold whichV; rw [if_pos h0]
  rw [hv]
  refine brk_i (fun h1 => absurd h1 (by simp [h0])) (fun _ => ?_)
  conv => whnf
  refine CallA_v (la78' c h00) rfl rfl ?_
  conv => whnf
  have hlit : ∀ p ∈ agL c, p.2.length = c.lamp.night.toNat := fun p hp => (agL_ok h00 hp).2.2
  have hlen := agL_len h00
  generalize agL c = L at hlit hlen
  refine LoopA_i (T := tys) tysOk (by exact drawsB_spec mixed tysOk (by decide +kernel)) l (fun i (acc : List Int) => ⟨[(1, .d (lightsD l)), (10, .d (litsD (L.map (·.2)))), (11, .sl 67 1 0 acc.length), (12, .d (i64 i))], [(67, .arr 1 (.dd (acc.map fun n => [i64 n])))], st⟩)
    (fun i r acc => whichF L l 0 = acc ++ whichF L r i ∧ acc.length ≤ i ∧ ∀ x ∈ r, LightR x) [] ((Wk.born 11 67 1 rfl rfl rfl).trans (Wk.sub ⟨(by first | rfl | (simp only [List.length_map]; rfl) | simp [PX.get]), (by first | rfl | (simp only [List.length_map]; rfl) | simp [PX.get]), (by first | rfl | (simp only [List.length_map]; rfl) | simp [PX.get]), (by first | rfl | (simp only [List.length_map]; rfl) | simp [PX.get]), trivial⟩ ⟨(by first | rfl | (simp only [List.length_map]; rfl) | simp [PX.get]), trivial⟩)) ⟨rfl, by simp, hl⟩ ?_ ?_
  · intro i x r acc hx hi hr ⟨he, hal, hlr⟩
    rw [whichF] at he
    have hxR := hlr x (by simp)
    have hlr : ∀ y ∈ r, LightR y := fun y hy => hlr y (by simp [hy])
    conv => whnf
    refine brk_i (fun _ => ?_) (fun h => absurd hi (by simpa using h))
    conv => whnf
    refine LoopA_p (T := tys) tysOk (by exact drawsB_spec mixed tysOk (by decide +kernel)) (α := Nat × Bool) (fun q => ⟨[(1, .d (lightsD l)), (10, .d (litsD (L.map (·.2)))), (11, .sl 67 1 0 acc.length), (12, .d (i64 i)), (13, .d (.bool q.2)), (14, .d (i64 q.1))], [(67, .arr 1 (.dd (acc.map fun n => [i64 n])))], st⟩)
      (fun q => q.1 ≤ L.length ∧ (q.2 = true → L.any (keepsB x.phases) = true) ∧ (q.2 = false → L.any (keepsB x.phases) = (L.drop q.1).any (keepsB x.phases))) (fun q => L.length - q.1) (0, false) (Wk.sub ⟨(by first | rfl | (simp only [List.length_map]; rfl) | simp [PX.get]), (by first | rfl | (simp only [List.length_map]; rfl) | simp [PX.get]), (by first | rfl | (simp only [List.length_map]; rfl) | simp [PX.get]), (by first | rfl | (simp only [List.length_map]; rfl) | simp [PX.get]), (by first | rfl | (simp only [List.length_map]; rfl) | simp [PX.get]), (by first | rfl | (simp only [List.length_map]; rfl) | simp [PX.get]), trivial⟩ ⟨(by first | rfl | (simp only [List.length_map]; rfl) | simp [PX.get]), trivial⟩) ⟨Nat.zero_le _, by simp, by simp⟩ ?_
    rintro ⟨j, b⟩ ⟨h1, h2, h3⟩
    simp only at h1 h2 h3
    conv => whnf
    have hdl : (((L.map (·.2)).map fun r => [boolsD r]).length : Int) = (L.length : Int) := by simp
    rw [hdl]
    cases b with
    | true =>
      have hany := h2 rfl
      rw [hany, if_pos rfl] at he
      by_cases h4 : j < L.length
      · rw [show decide ((j : Int) < (L.length : Int)) = true from decide_eq_true (by omega)]
        conv => whnf
        refine ownK_whole rfl ?_
        conv => whnf
        refine ownK_whole (by simp [Els.len]) ?_
        conv => whnf
        refine chk_i (decide_eq_true (by
          show ((acc.map fun n => [i64 n]).length + 1) * 8 ≤ 140737488355328
          rw [List.length_map]; omega)) ?_
        conv => whnf
        refine arith_in (wrap_i64 (by (try dsimp only); omega)) ?_
        conv => whnf
        refine ⟨acc ++ [(i : Int)], ⟨by rw [he]; simp, by simp; omega, hlr⟩, Wk.sub ⟨rfl, rfl, ?_, rfl, trivial⟩ ⟨?_, trivial⟩⟩
        · simp [PX.get, Els.len]
        · simp [PX.get]
      · rw [show decide ((j : Int) < (L.length : Int)) = false from decide_eq_false (by omega)]
        conv => whnf
        refine ownK_whole rfl ?_
        conv => whnf
        refine ownK_whole (by simp [Els.len]) ?_
        conv => whnf
        refine chk_i (decide_eq_true (by
          show ((acc.map fun n => [i64 n]).length + 1) * 8 ≤ 140737488355328
          rw [List.length_map]; omega)) ?_
        conv => whnf
        refine arith_in (wrap_i64 (by (try dsimp only); omega)) ?_
        conv => whnf
        refine ⟨acc ++ [(i : Int)], ⟨by rw [he]; simp, by simp; omega, hlr⟩, Wk.sub ⟨rfl, rfl, ?_, rfl, trivial⟩ ⟨?_, trivial⟩⟩
        · simp [PX.get, Els.len]
        · simp [PX.get]
    | false =>
      have hany := h3 rfl
      by_cases h4 : j < L.length
      · rw [show decide ((j : Int) < (L.length : Int)) = true from decide_eq_true (by omega)]
        obtain ⟨p, hp⟩ : ∃ p, L[j]? = some p := ⟨_, List.getElem?_eq_getElem h4⟩
        have hd : L.drop j = p :: L.drop (j + 1) := by
          rw [List.drop_eq_getElem_cons h4]
          rw [List.getElem?_eq_getElem h4] at hp
          rw [Option.some.inj hp]
        rw [hd, List.any_cons] at hany
        have hpl := hlit p (List.mem_of_getElem? hp)
        have hne : p.2 ≠ [] := by intro h; rw [h] at hpl; simp at hpl; omega
        have hx2 : (L.map (·.2))[j]? = some p.2 := by rw [List.getElem?_map, hp]; rfl
        conv => whnf
        refine elemK_nat hx2 ?_
        conv => whnf
        refine elemK_nat hx ?_
        conv => whnf
        refine DrawCall_v (la54 p.2 x.phases hne (by omega) hxR.ph) rfl rfl ?_
        conv => whnf
        refine arith_to (((j + 1 : Nat) : Int)) (by (try dsimp only); omega) (wrap_i64 (by (try dsimp only); omega)) ?_
        conv => whnf
        refine ⟨(j + 1, decide (failsL p.2 x.phases < 0)), by simp only; omega, ⟨by simp only; omega, fun h => ?_, fun h => ?_⟩, (Wk.sub ⟨(by first | rfl | (simp only [List.length_map]; rfl) | simp [PX.get]), (by first | rfl | (simp only [List.length_map]; rfl) | simp [PX.get]), (by first | rfl | (simp only [List.length_map]; rfl) | simp [PX.get]), (by first | rfl | (simp only [List.length_map]; rfl) | simp [PX.get]), (by first | rfl | (simp only [List.length_map]; rfl) | simp [PX.get]), (by first | rfl | (simp only [List.length_map]; rfl) | simp [PX.get]), trivial⟩ ⟨(by first | rfl | (simp only [List.length_map]; rfl) | simp [PX.get]), trivial⟩)⟩
        · have h : keepsB x.phases p = true := h
          rw [hany, h]; rfl
        · have h : keepsB x.phases p = false := h
          rw [hany, h, Bool.false_or]
      · rw [show decide ((j : Int) < (L.length : Int)) = false from decide_eq_false (by omega)]
        rw [List.drop_eq_nil_of_le (by omega), List.any_nil] at hany
        rw [hany, if_neg (by simp)] at he
        conv => whnf
        refine arith_in (wrap_i64 (by (try dsimp only); omega)) ?_
        conv => whnf
        exact ⟨acc, ⟨he, by omega, hlr⟩, (Wk.sub ⟨(by first | rfl | (simp only [List.length_map]; rfl) | simp [PX.get]), (by first | rfl | (simp only [List.length_map]; rfl) | simp [PX.get]), (by first | rfl | (simp only [List.length_map]; rfl) | simp [PX.get]), (by first | rfl | (simp only [List.length_map]; rfl) | simp [PX.get]), trivial⟩ ⟨(by first | rfl | (simp only [List.length_map]; rfl) | simp [PX.get]), trivial⟩)⟩
  · intro acc ⟨he, hal, _⟩
    rw [whichF, List.append_nil] at he
    rw [he]
    conv => whnf
    refine brk_i (fun h => absurd h (by simp)) (fun _ => ?_)
    conv => whnf
    rw [h0]
    exact RetA_view 1 (ds := [intsD acc, i64 0]) (viewL_cons (viewV_sl rfl (by simp)) rfl) ⟨⟨rfl, rfl⟩, rfl⟩
end Go.PX

namespace Go.PX
open Go.Proofs

/- Lamp: LampKeeps, walked. -/

theorem whichF_len {A : List (LTruth × List Bool)} : ∀ {l : List LLight} {i : Int}, (whichF A l i).length ≤ l.length
  | [], _ => Nat.le_refl _
  | x :: r, i => by
    rw [whichF]
    have := whichF_len (A := A) (l := r) (i := i + 1)
    split <;> simp <;> omega

theorem whichV_len (c : LCase) (l : List LLight) : (whichV c l).length < 1000000 := by
  unfold whichV
  split
  · rename_i h0
    have h1 := (entr_ok h0).1
    have h2 : (lightsF l).2 = 0 := by unfold entrE at h0; rwa [if_pos h1] at h0
    have h3 := (lightsF_ok h2).1.2
    have := whichF_len (A := agL c) (l := l) (i := 0)
    omega
  · simp

theorem leastX_mem : ∀ {l : List (LTruth × Int)} {x : LTruth × Int}, leastX l = some x → x ∈ l := by
  intro l
  have key : ∀ (l : List (LTruth × Int)) (o : Option (LTruth × Int)) (x : LTruth × Int), l.foldl leastS o = some x → o = some x ∨ x ∈ l := by
    intro l
    induction l with
    | nil => exact fun o x h => .inl h
    | cons y r ih =>
      intro o x h
      rw [List.foldl_cons] at h
      rcases ih _ _ h with h | h
      · unfold leastS at h
        cases o with
        | none => cases h; right; simp
        | some z =>
          simp only at h
          split at h
          · cases h; right; simp
          · exact .inl h
      · right; simp [h]
  intro x h
  rcases key l none x h with h | h
  · cases h
  · exact h

theorem keptX_len (c : LCase) (l : LLight) : (keptX c l).1.speeds.length < 1000000 := by
  unfold keptX
  split
  · rename_i h0
    have h00 := (entr_ok h0).1
    have hR := checkL_ok h00
    cases hX : leastX (failuresL l.phases (agL c)) with
    | none => simp
    | some x =>
      have hx := leastX_mem hX
      unfold failuresL at hx
      obtain ⟨p, hp, hpx⟩ := List.mem_filterMap.1 hx
      have := (agL_ok h00 hp).1.len
      have := hR.winds
      split at hpx
      · cases hpx
      · cases hpx
        simp only [Option.getD_some]
        omega
  · simp

/-- The first light, or none at all. -/
def headL (l : List LLight) : LLight := match l with
  | [] => ⟨⟨#[]⟩, []⟩
  | x :: _ => x

def lightN : D := .agg [.str ⟨#[]⟩, .nils]

theorem la30n (c : LCase) (l : LLight) (t : LTruth) (hl : l = headL []) : FnV Try.prog 30 [c.d, lightN, t.d] (.tup [i64 (failV c l t), i64 (failE c l t)]) :=
  FnV.arg (fun {_} => la30 c l t) (fun F w v h => by
    subst hl
    obtain ⟨a, l1, rfl, ha, b, l2, rfl, hb, h2⟩ := h
    exact ⟨a, _, rfl, ha, b, _, rfl, RepD.relax lightN b hb, h2⟩)
theorem la31n (c : LCase) (l : LLight) (t : LTruth) (hl : l = headL []) : FnV Try.prog 31 [c.d, lightN, t.d] (.tup [i64 (failV c l t), i64 (failE c l t)]) :=
  FnV.arg (fun {_} => la31 c l t) (fun F w v h => by
    subst hl
    obtain ⟨a, l1, rfl, ha, b, l2, rfl, hb, h2⟩ := h
    exact ⟨a, _, rfl, ha, b, _, rfl, RepD.relax lightN b hb, h2⟩)
theorem la32n (c : LCase) (l : LLight) (hl : l = headL []) : FnV Try.prog 32 [c.d, lightN] (keptD c l) :=
  FnV.arg (fun {_} => la32 c l) (fun F w v h => by
    subst hl
    obtain ⟨a, l1, rfl, ha, b, l2, rfl, hb, h2⟩ := h
    exact ⟨a, _, rfl, ha, b, _, rfl, RepD.relax lightN b hb, h2⟩)
theorem la33n (c : LCase) (l : LLight) (hl : l = headL []) : FnV Try.prog 33 [c.d, lightN] (keptD c l) :=
  FnV.arg (fun {_} => la33 c l) (fun F w v h => by
    subst hl
    obtain ⟨a, l1, rfl, ha, b, l2, rfl, hb, h2⟩ := h
    exact ⟨a, _, rfl, ha, b, _, rfl, RepD.relax lightN b hb, h2⟩)

set_option maxHeartbeats 1000000 in
theorem la5 (c : LCase) (t : LTruth) (l : List LLight) : FnV Try.prog 5 [c.d, t.d, lightsD l] (.bool true) := by
  cases l with
  | nil =>
    refine fnV_of mixed tysOk Try.func5 rfl (ft := ft5) 3 (by decide +kernel) (by rfl) fun {σ} Y st => ?_
    conv => whnf
    rw [show decide ((0 : Int) < (((([] : List LLight).map LLight.cells).length : Nat) : Int)) = false from rfl]
    conv => whnf
    refine CallA_v (la30n c (headL []) t rfl) rfl rfl ?_
    conv => whnf
    refine CallA_v (la31n c (headL []) t rfl) rfl rfl ?_
    conv => whnf
    rw [show (!decide (failV c (headL []) t = failV c (headL []) t)) = false by simp]
    conv => whnf
    rw [show (!decide (failE c (headL []) t = failE c (headL []) t)) = false by simp]
    conv => whnf
    refine CallA_v (la32n c (headL []) rfl) rfl rfl ?_
    conv => whnf
    refine CallA_v (la33n c (headL []) rfl) rfl rfl ?_
    conv => whnf
    refine CallA_v (la34 (keptX c (headL [])).1 (keptX c (headL [])).1 (keptX_len c (headL []))) rfl rfl ?_
    conv => whnf
    rw [show decide ((keptX c (headL [])).1 = (keptX c (headL [])).1) = true by simp]
    conv => whnf
    rw [show (!decide ((keptX c (headL [])).2 = (keptX c (headL [])).2)) = false by simp]
    conv => whnf
    rw [show (!decide (keptE c (headL []) = keptE c (headL []))) = false by simp]
    conv => whnf
    refine CallA_v (la35 c ([] : List LLight)) rfl rfl ?_
    conv => whnf
    refine CallA_v (la36 c ([] : List LLight)) rfl rfl ?_
    conv => whnf
    refine CallA_v (fn19 (whichV c ([] : List LLight)) (whichV c ([] : List LLight)) (whichV_len c ([] : List LLight))) rfl rfl ?_
    conv => whnf
    rw [show decide (whichV c ([] : List LLight) = whichV c ([] : List LLight)) = true by simp]
    conv => whnf
    rw [show decide (entrE c ([] : List LLight) = entrE c ([] : List LLight)) = true by simp]
    conv => whnf
    refine CallA_v (la22) rfl rfl ?_
    conv => whnf
    exact RetA_view 0 rfl ⟨⟨rfl, rfl⟩, rfl⟩
  | cons x r =>
    refine fnV_of mixed tysOk Try.func5 rfl (ft := ft5) 3 (by decide +kernel) (by rfl) fun {σ} Y st => ?_
    conv => whnf
    rw [show decide ((0 : Int) < ((((x :: r).map LLight.cells).length : Nat) : Int)) = true from decide_eq_true (by simp)]
    conv => whnf
    refine CallA_v (la30 c x t) rfl rfl ?_
    conv => whnf
    refine CallA_v (la31 c x t) rfl rfl ?_
    conv => whnf
    rw [show (!decide (failV c x t = failV c x t)) = false by simp]
    conv => whnf
    rw [show (!decide (failE c x t = failE c x t)) = false by simp]
    conv => whnf
    refine CallA_v (la32 c x) rfl rfl ?_
    conv => whnf
    refine CallA_v (la33 c x) rfl rfl ?_
    conv => whnf
    refine CallA_v (la34 (keptX c x).1 (keptX c x).1 (keptX_len c x)) rfl rfl ?_
    conv => whnf
    rw [show decide ((keptX c x).1 = (keptX c x).1) = true by simp]
    conv => whnf
    rw [show (!decide ((keptX c x).2 = (keptX c x).2)) = false by simp]
    conv => whnf
    rw [show (!decide (keptE c x = keptE c x)) = false by simp]
    conv => whnf
    refine CallA_v (la35 c (x :: r)) rfl rfl ?_
    conv => whnf
    refine CallA_v (la36 c (x :: r)) rfl rfl ?_
    conv => whnf
    refine CallA_v (fn19 (whichV c (x :: r)) (whichV c (x :: r)) (whichV_len c (x :: r))) rfl rfl ?_
    conv => whnf
    rw [show decide (whichV c (x :: r) = whichV c (x :: r)) = true by simp]
    conv => whnf
    rw [show decide (entrE c (x :: r) = entrE c (x :: r)) = true by simp]
    conv => whnf
    refine CallA_v (la22) rfl rfl ?_
    conv => whnf
    exact RetA_view 0 rfl ⟨⟨rfl, rfl⟩, rfl⟩
end Go.PX
