import Derived.Test.YtiflhdanniajdaaPxL
set_option linter.all false
set_option maxRecDepth 10000
namespace Go.PX
open Go.Proofs

/- Lamp: the reference: Lights. -/

def spansOf (l : List LPhase) : List Span := l.flatMap fun p => [p.flash, p.dark]

theorem spread_eq {lo hi : Int} : ∀ {l : List Span} {e : Int}, spread lo hi l e = if l.all (fun s => inB s.lo lo hi && inB s.hi lo hi) then (if l.any (fun s => decide (s.lo > s.hi)) then (if e = e then 2 else 2) else e) else 7
  | [], e => rfl
  | s :: r, e => by
    rw [spread, List.all_cons, List.any_cons, spread_eq]
    by_cases h1 : (inB s.lo lo hi && inB s.hi lo hi) = true
    · rw [if_pos h1, h1, Bool.true_and]
      by_cases h2 : s.lo > s.hi
      · simp [h2]
      · simp [h2]
    · rw [if_neg h1]
      have h1 : (inB s.lo lo hi && inB s.hi lo hi) = false := by simpa using h1
      rw [h1]; rfl

theorem spread_phases (l : List LPhase) : spread 1 200 (spansOf l) 0 = if l.any (fun p => !phaseIn p) then 7 else if l.any phaseUp then 2 else 0 := by
  rw [spread_eq]
  have h1 : ∀ l : List LPhase, (spansOf l).all (fun s => inB s.lo 1 200 && inB s.hi 1 200) = !l.any (fun p => !phaseIn p) := by
    intro l
    induction l with
    | nil => rfl
    | cons p r ih =>
      have : spansOf (p :: r) = p.flash :: p.dark :: spansOf r := rfl
      rw [this, List.all_cons, List.all_cons, ih, List.any_cons, phaseIn]
      cases inB p.flash.lo 1 200 <;> cases inB p.flash.hi 1 200 <;> cases inB p.dark.lo 1 200 <;> cases inB p.dark.hi 1 200 <;> simp
  have h2 : ∀ l : List LPhase, (spansOf l).any (fun s => decide (s.lo > s.hi)) = l.any phaseUp := by
    intro l
    induction l with
    | nil => rfl
    | cons p r ih =>
      have : spansOf (p :: r) = p.flash :: p.dark :: spansOf r := rfl
      rw [this, List.any_cons, List.any_cons, ih, List.any_cons, phaseUp, Bool.or_assoc]
  rw [h1, h2]
  cases l.any (fun p => !phaseIn p) <;> simp

theorem spansOf_append (a : List LPhase) (p : LPhase) : spansOf (a ++ [p]) = spansOf a ++ [p.flash, p.dark] := by simp [spansOf]
theorem spansOf_len : ∀ l : List LPhase, (spansOf l).length = 2 * l.length
  | [] => rfl
  | p :: r => by
    have : spansOf (p :: r) = p.flash :: p.dark :: spansOf r := rfl
    rw [this]; simp only [List.length_cons, spansOf_len r]; omega

set_option maxHeartbeats 1000000 in
theorem la71 (l : List LPhase) : FnV Try.prog 71 [phasesD l] (i64 (phasesF l)) := by
  refine fnV_of mixed tysOk Try.func71 rfl (ft := ft71) 1 (by decide +kernel) (by rfl) fun {σ} Y st => ?_
  conv => whnf
  refine CallA_view (fn55 l.length 1 3) rfl 1 (by simp; rfl) ?_
  conv => whnf
  unfold phasesF
  by_cases h0 : inB l.length 1 3 = true
  case neg =>
    have h0 : inB l.length 1 3 = false := by simpa using h0
    rw [h0]
    conv => whnf
    exact RetA_view 0 rfl ⟨⟨rfl, rfl⟩, rfl⟩
  rw [h0]
  rw [inB_iff] at h0
  simp only [if_true]
  conv => whnf
  refine LoopA_i (T := tys) tysOk (by exact drawsB_spec mixed tysOk (by decide +kernel)) l (fun i (acc : List LPhase) => ⟨[(0, .d (phasesD l)), (3, .sl 27 2 0 (spansOf acc).length), (4, .d (i64 i))], [(27, .arr 2 (.dd ((spansOf acc).map Span.cells)))], st⟩)
    (fun i r acc => l = acc ++ r ∧ acc.length = i) [] ((Wk.born 3 27 2 rfl rfl rfl).trans (Wk.sub ⟨(by first | rfl | (simp only [List.length_map]; rfl) | simp [PX.get]), (by first | rfl | (simp only [List.length_map]; rfl) | simp [PX.get]), (by first | rfl | (simp only [List.length_map]; rfl) | simp [PX.get]), trivial⟩ ⟨(by first | rfl | (simp only [List.length_map]; rfl) | simp [PX.get]), trivial⟩)) ⟨rfl, rfl⟩ ?_ ?_
  · intro i p r acc hx hi hr ⟨he, hal⟩
    have hsl := spansOf_len acc
    conv => whnf
    refine brk_i (fun _ => ?_) (fun h => absurd hi (by simpa using h))
    conv => whnf
    refine elemK_nat hx ?_
    conv => whnf
    refine elemK_nat hx ?_
    conv => whnf
    refine ownK_whole rfl ?_
    conv => whnf
    refine ownK_whole (by simp [Els.len]) ?_
    conv => whnf
    refine chk_i (decide_eq_true (by
      show (((spansOf acc).map Span.cells).length + 2) * 16 ≤ 140737488355328
      rw [List.length_map]; omega)) ?_
    conv => whnf
    refine arith_in (wrap_i64 (by (try dsimp only); omega)) ?_
    conv => whnf
    refine ⟨acc ++ [p], ⟨by rw [he]; simp, by simp [hal]⟩, Wk.sub ⟨rfl, ?_, rfl, trivial⟩ ⟨?_, trivial⟩⟩
    · simp [PX.get, Els.len, spansOf_append]
    · simp [PX.get, spansOf_append]; exact ⟨rfl, rfl⟩
  · intro acc ⟨he, hal⟩
    rw [List.append_nil] at he
    subst he
    have hsl := spansOf_len l
    conv => whnf
    refine brk_i (fun h => absurd h (by simp)) (fun _ => ?_)
    conv => whnf
    refine CallA_view (ds := [spansD (spansOf l), i64 1, i64 200]) (fn111 (spansOf l) 1 200 (by omega)) rfl 1 (viewL_cons (viewV_sl rfl (by simp)) rfl) ?_
    conv => whnf
    rw [spread_phases]
    exact RetA_view 0 rfl ⟨⟨rfl, rfl⟩, rfl⟩

theorem lightF_eq (b : List LLight) (x : LLight) : lightF b x = if freshF x.name (b.map (·.name)) = 0 then phasesF x.phases else freshF x.name (b.map (·.name)) := by
  unfold lightF freshF
  rw [List.any_map]
  by_cases h1 : nameF x.name = true
  · rw [if_pos h1, if_pos h1]
    by_cases h2 : b.any (fun y => decide (y.name = x.name)) = true
    · have h3 : (b.any ((fun y => decide (y = x.name)) ∘ fun x => x.name)) = true := h2
      rw [if_pos h2, h3]; rfl
    · have h3 : (b.any ((fun y => decide (y = x.name)) ∘ fun x => x.name)) = false := by simpa using h2
      rw [if_neg h2, h3]; rfl
  · rw [if_neg h1, if_neg h1]; rfl

set_option maxHeartbeats 1000000 in
theorem la18 (l : List LLight) : FnV Try.prog 18 [lightsD l] (.tup [i64 (lightsF l).1, i64 (lightsF l).2]) := by
  refine fnV_of mixed tysOk Try.func18 rfl (ft := ft18) 1 (by decide +kernel) (by rfl) fun {σ} Y st => ?_
  conv => whnf
  refine CallA_view (fn55 l.length 1 6) rfl 1 (by simp; rfl) ?_
  conv => whnf
  unfold lightsF
  by_cases h0 : inB l.length 1 6 = true
  case neg =>
    have h0 : inB l.length 1 6 = false := by simpa using h0
    rw [h0]
    conv => whnf
    exact RetA_view 0 rfl ⟨⟨rfl, rfl⟩, rfl⟩
  rw [h0]
  rw [inB_iff] at h0
  simp only [if_true]
  conv => whnf
  refine LoopA_i (T := tys) tysOk (by exact drawsB_spec mixed tysOk (by decide +kernel)) l (fun i (acc : List LLight) => ⟨[(0, .d (lightsD l)), (4, .sl 31 1 0 acc.length), (5, .d (i64 i))], [(31, .arr 1 (.dd (acc.map fun x => [.str x.name])))], st⟩)
    (fun i r acc => firstE lightF [] l 0 = firstE lightF acc r i ∧ acc.length = i) [] ((Wk.born 4 31 1 rfl rfl rfl).trans (Wk.sub ⟨(by first | rfl | (simp only [List.length_map]; rfl) | simp [PX.get]), (by first | rfl | (simp only [List.length_map]; rfl) | simp [PX.get]), (by first | rfl | (simp only [List.length_map]; rfl) | simp [PX.get]), trivial⟩ ⟨(by first | rfl | (simp only [List.length_map]; rfl) | simp [PX.get]), trivial⟩)) ⟨rfl, rfl⟩ ?_ ?_
  · intro i x r acc hx hi hr ⟨he, hal⟩
    rw [firstE, lightF_eq] at he
    conv => whnf
    refine brk_i (fun _ => ?_) (fun h => absurd hi (by simpa using h))
    conv => whnf
    refine elemK_nat hx ?_
    conv => whnf
    refine CallA_view (ds := [.str x.name, strsD (acc.map (·.name))]) (fn91 x.name (acc.map (·.name)) (by simp; omega)) rfl 1 (viewL_cons rfl (viewL_cons (viewV_sl' rfl (by simp [Function.comp_def]) (by simp)) rfl)) ?_
    conv => whnf
    refine elemK_nat hx ?_
    conv => whnf
    refine ownK_whole rfl ?_
    conv => whnf
    refine ownK_whole (by simp [Els.len]) ?_
    conv => whnf
    refine chk_i (decide_eq_true (by
      show ((acc.map fun x => [D.str x.name]).length + 1) * 16 ≤ 140737488355328
      rw [List.length_map]; omega)) ?_
    conv => whnf
    have hwk : ∀ {e : Env} {h : Heap}, True := fun {_ _} => trivial
    refine brk_i (fun h1 => ?_) (fun h1 => ?_)
    · have h1 : freshF x.name (acc.map (·.name)) = 0 := by simpa using h1
      rw [if_pos h1] at he
      conv => whnf
      refine elemK_nat hx ?_
      conv => whnf
      refine CallA_v (la71 x.phases) rfl rfl ?_
      conv => whnf
      by_cases h2 : phasesF x.phases = 0
      · rw [if_pos h2] at he
        refine brk_i (fun h3 => absurd h3 (by simp [h2])) (fun _ => ?_)
        conv => whnf
        refine arith_in (wrap_i64 (by (try dsimp only); omega)) ?_
        conv => whnf
        refine ⟨acc ++ [x], ⟨he, by simp [hal]⟩, Wk.sub ⟨rfl, ?_, rfl, trivial⟩ ⟨?_, trivial⟩⟩
        · simp [PX.get, Els.len]
        · simp [PX.get]
      · rw [if_neg h2] at he
        refine brk_i (fun _ => ?_) (fun h3 => absurd h3 (by simp [h2]))
        conv => whnf
        rw [he]
        exact RetA_view 0 rfl ⟨⟨rfl, rfl⟩, rfl⟩
    · have h1 : ¬ freshF x.name (acc.map (·.name)) = 0 := by simpa using h1
      rw [if_neg h1, if_neg h1] at he
      conv => whnf
      refine brk_i (fun _ => ?_) (fun h3 => absurd h3 (by simp [h1]))
      conv => whnf
      rw [he]
      exact RetA_view 0 rfl ⟨⟨rfl, rfl⟩, rfl⟩
  · intro acc ⟨he, hal⟩
    rw [firstE] at he
    rw [he]
    conv => whnf
    refine brk_i (fun h => absurd h (by simp)) (fun _ => ?_)
    conv => whnf
    exact RetA_view 0 rfl ⟨⟨rfl, rfl⟩, rfl⟩
end Go.PX

namespace Go.PX
open Go.Proofs

/- Lamp: Shows (the program). -/

theorem RetA_viewR {σ : Type} {l : List V} {h : Heap} {s : σ} {Q : V → Heap → σ → Prop} (n : Nat) {ds : List D} (hv : viewL (objD h n) l = some ds) {d : D} (hd : relax (packD ds) = d) (hq : Q (.d d) [] s) : RetA l h s Q := by
  subst hd
  refine ⟨fun cx L F vals w hh hr => ?_⟩
  have tr := frzAll_tr hh
  exact ⟨_, [], L, frzAll L F h w, hq, frzAll_ok hh, RepD.relax _ _ (packD_t (viewL_t tr (objD_t hh n) l vals ds hv hr)), tr, fun _ _ => ⟨rfl, rfl⟩⟩

def setHi (acc : List Span) (s : Int) : List Span := acc.modify (acc.length - 1) fun x => ⟨x.lo, s⟩

def showF : List Bool → Int → Bool → List Span → List Span
  | [], _, _, acc => acc
  | b :: r, s, before, acc => showF r (s + 1) b (if b then (if before then setHi acc s else acc ++ [⟨s, s⟩]) else acc)

def showE (c : LCase) (t : LTruth) : Int := if (checkL c).2.2 = 0 then truthE c t else (checkL c).2.2
def showL (c : LCase) (t : LTruth) : List Span := if showE c t = 0 then showF (courseL c.lamp c.windings t) 0 false [] else []

structure CaseL (c : LCase) : Prop where
  lamp : LampR c.lamp
  winds : c.windings.length ≤ 2
  wind : ∀ s ∈ c.windings, 1 ≤ s ∧ s ≤ c.lamp.night - 1
  sights : c.sights.length ≤ 8
  sight : ∀ s ∈ c.sights, 0 ≤ s.second ∧ s.second ≤ c.lamp.night - 1
  far : c.lamp.start.hi ≤ c.lamp.start.lo + 12

theorem windF_ok {night : Int} : ∀ {l : List Int} {last i : Int}, (windF night last l i).2 = 0 → ∀ s ∈ l, 1 ≤ s ∧ s ≤ night - 1
  | [], _, _, _, s, hs => by cases hs
  | x :: r, last, i, h, s, hs => by
    rw [windF] at h
    split at h
    · rename_i h1
      rw [inB_iff] at h1
      split at h
      · cases h
      · rcases List.mem_cons.1 hs with rfl | hs
        · exact h1
        · exact windF_ok h s hs
    · cases h

theorem sightF_ok {night : Int} : ∀ {l : List LSight} {i : Int}, (sightF night l i).2 = 0 → ∀ s ∈ l, 0 ≤ s.second ∧ s.second ≤ night - 1
  | [], _, _, s, hs => by cases hs
  | x :: r, i, h, s, hs => by
    rw [sightF] at h
    split at h
    · rename_i h1
      rw [inB_iff] at h1
      rcases List.mem_cons.1 hs with rfl | hs
      · exact h1
      · exact sightF_ok h s hs
    · cases h

theorem checkL_ok {c : LCase} (h : (checkL c).2.2 = 0) : CaseL c := by
  unfold checkL at h
  split at h
  case isFalse => rename_i h1; exact absurd h h1
  rename_i h1
  split at h
  · cases h
  rename_i h2
  split at h
  case isFalse => rename_i h3; exact absurd h h3
  rename_i h3
  split at h
  · cases h
  rename_i h4
  split at h
  case isFalse => rename_i h5; exact absurd h h5
  rename_i h5
  exact ⟨wheel_ok h1, by omega, windF_ok h3, by omega, sightF_ok h5, wheel_far h1⟩

theorem setHi_len (acc : List Span) (s : Int) : (setHi acc s).length = acc.length := by simp [setHi]

theorem setHi_cells {acc : List Span} (h : acc ≠ []) (s : Int) : ∃ x, acc[acc.length - 1]? = some x ∧ (setHi acc s).map Span.cells = (acc.map Span.cells).set (acc.length - 1) [i64 x.lo, i64 s] := by
  have hl : acc.length - 1 < acc.length := by have := List.length_pos_iff.2 h; omega
  refine ⟨acc[acc.length - 1], List.getElem?_eq_getElem hl, ?_⟩
  apply List.ext_getElem?
  intro i
  rw [setHi, List.getElem?_set, List.getElem?_map, List.getElem?_modify]
  by_cases hi : acc.length - 1 = i
  · subst hi
    simp [hl, Span.cells]
  · simp [hi]

set_option maxHeartbeats 1000000 in
theorem la19 (c : LCase) (t : LTruth) : FnV Try.prog 19 [c.d, t.d] (.tup [spansD (showL c t), i64 (showE c t)]) := by
  refine fnV_of mixed tysOk Try.func19 rfl (ft := ft19) 2 (by decide +kernel) (by rfl) fun {σ} Y st => ?_
  conv => whnf
  refine CallA_v (la15 c) rfl rfl ?_
  conv => whnf
  by_cases h0 : (checkL c).2.2 = 0
  case neg =>
    have he : showE c t = (checkL c).2.2 := by unfold showE; rw [if_neg h0]
    have hl : showL c t = [] := by unfold showL; rw [he, if_neg h0]
    rw [he, hl]
    refine brk_i (fun h1 => absurd h1 (by simp [h0])) (fun _ => ?_)
    conv => whnf
    refine brk_i (fun _ => ?_) (fun h1 => absurd h1 (by simp [h0]))
    conv => whnf
    exact RetA_viewR 0 rfl rfl ⟨⟨rfl, rfl⟩, rfl⟩
  have he : showE c t = truthE c t := by unfold showE; rw [if_pos h0]
  have hR := checkL_ok h0
  refine brk_i (fun _ => ?_) (fun h1 => absurd h1 (by simp [h0]))
  conv => whnf
  refine CallA_v (la72 c t (by have := hR.winds; omega)) rfl rfl ?_
  conv => whnf
  rw [he]
  by_cases h1 : truthE c t = 0
  case neg =>
    have hl : showL c t = [] := by unfold showL; rw [he, if_neg h1]
    rw [hl]
    refine brk_i (fun _ => ?_) (fun h2 => absurd h2 (by simp [h1]))
    conv => whnf
    exact RetA_viewR 0 rfl rfl ⟨⟨rfl, rfl⟩, rfl⟩
  have hT := truth_ok h1
  have hl : showL c t = showF (courseL c.lamp c.windings t) 0 false [] := by unfold showL; rw [he, if_pos h1]
  rw [hl]
  refine brk_i (fun h2 => absurd h2 (by simp [h1])) (fun _ => ?_)
  conv => whnf
  refine CallA_v (la73 c t hR.lamp hR.winds hT) rfl rfl ?_
  conv => whnf
  have hlen : (courseL c.lamp c.windings t).length ≤ 200 := by
    unfold courseL; rw [courseF_len]; have := hR.lamp.night; omega
  generalize courseL c.lamp c.windings t = L at hlen
  refine LoopA_i (T := tys) tysOk (by exact drawsB_spec mixed tysOk (by decide +kernel)) L (fun i (p : Bool × List Span) => ⟨[(4, .sl 51 2 0 p.2.length), (6, .d (.bool p.1)), (25, .d (boolsD L)), (26, .d (i64 L.length)), (27, .d (i64 i))], [(51, .arr 2 (.dd (p.2.map Span.cells)))], st⟩)
    (fun i r p => showF L 0 false [] = showF r i p.1 p.2 ∧ p.2.length ≤ i ∧ (p.1 = true → p.2 ≠ [])) (false, []) ((Wk.born 4 51 2 rfl rfl rfl).trans (Wk.sub ⟨(by first | rfl | (simp only [List.length_map]; rfl) | simp [PX.get]), (by first | rfl | (simp only [List.length_map]; rfl) | simp [PX.get]), (by first | rfl | (simp only [List.length_map]; rfl) | simp [PX.get]), (by first | rfl | (simp only [List.length_map]; rfl) | simp [PX.get]), (by first | rfl | (simp only [List.length_map]; rfl) | simp [PX.get]), trivial⟩ ⟨(by first | rfl | (simp only [List.length_map]; rfl) | simp [PX.get]), trivial⟩)) ⟨rfl, by simp, by simp⟩ ?_ ?_
  · rintro i x r ⟨before, acc⟩ hx hi hr ⟨h3, h4, h5⟩
    simp only at h3 h4 h5
    rw [showF] at h3
    conv => whnf
    refine brk_i (fun _ => ?_) (fun h => absurd hi (by simpa using h))
    conv => whnf
    refine elemK_nat hx ?_
    conv => whnf
    cases x with
    | false =>
      conv => whnf
      refine arith_in (wrap_i64 (by (try dsimp only); omega)) ?_
      conv => whnf
      exact ⟨(false, acc), ⟨by simpa using h3, by simp only; omega, by simp⟩, (Wk.sub ⟨(by first | rfl | (simp only [List.length_map]; rfl) | simp [PX.get]), (by first | rfl | (simp only [List.length_map]; rfl) | simp [PX.get]), (by first | rfl | (simp only [List.length_map]; rfl) | simp [PX.get]), (by first | rfl | (simp only [List.length_map]; rfl) | simp [PX.get]), (by first | rfl | (simp only [List.length_map]; rfl) | simp [PX.get]), trivial⟩ ⟨(by first | rfl | (simp only [List.length_map]; rfl) | simp [PX.get]), trivial⟩)⟩
    | true =>
      conv => whnf
      cases before with
      | true =>
        have hne := h5 rfl
        obtain ⟨y, hy, hset⟩ := setHi_cells hne i
        have hpos := List.length_pos_iff.2 hne
        conv => whnf
        refine arith_to (((acc.length - 1 : Nat) : Int)) (by (try dsimp only); omega) (wrap_i64 (by (try dsimp only); omega)) ?_
        conv => whnf
        refine chk_i (by simp; omega) ?_
        conv => whnf
        refine cellK_i y.cells (by simp [hy]) ?_
        conv => whnf
        refine arith_in (wrap_i64 (by (try dsimp only); omega)) ?_
        conv => whnf
        refine ⟨(true, setHi acc i), ⟨by simpa using h3, by simp only [setHi_len]; omega, fun _ h => hne (List.length_eq_zero_iff.1 (by rw [← setHi_len acc i]; exact List.length_eq_zero_iff.2 h))⟩, Wk.sub ⟨?_, rfl, rfl, rfl, rfl, trivial⟩ ⟨?_, trivial⟩⟩
        · simp [PX.get, setHi_len]
        · show some (Obj.arr 2 (Els.dd ((acc.map Span.cells).set (0 + ((acc.length - 1 : Nat) : Int).toNat) [i64 y.lo, i64 i]))) = some (Obj.arr 2 (Els.dd ((setHi acc i).map Span.cells)))
          rw [hset]
          simp
      | false =>
        conv => whnf
        refine ownK_whole rfl ?_
        conv => whnf
        refine ownK_whole (by simp [Els.len]) ?_
        conv => whnf
        refine chk_i (decide_eq_true (by
          show ((acc.map Span.cells).length + 1) * 16 ≤ 140737488355328
          rw [List.length_map]; omega)) ?_
        conv => whnf
        refine arith_in (wrap_i64 (by (try dsimp only); omega)) ?_
        conv => whnf
        refine ⟨(true, acc ++ [⟨i, i⟩]), ⟨by simpa using h3, by simp; omega, by simp⟩, Wk.sub ⟨?_, rfl, rfl, rfl, rfl, trivial⟩ ⟨?_, trivial⟩⟩
        · simp [PX.get, Els.len]
        · simp [PX.get, Els.app, Span.cells]
  · rintro ⟨before, acc⟩ ⟨h3, _, _⟩
    simp only [showF] at h3
    conv => whnf
    refine brk_i (fun h => absurd h (by simp)) (fun _ => ?_)
    conv => whnf
    rw [h3]
    exact RetA_view 1 (ds := [spansD acc, i64 0]) (viewL_cons (viewV_sl rfl (by simp)) rfl) ⟨⟨by rw [h1]; rfl, rfl⟩, rfl⟩
end Go.PX

namespace Go.PX
open Go.Proofs

/- Lamp: rules for what is frozen on its way; copies of slices. -/

section
variable {P : Program} {σ : Type} {Y : Hd σ}

/-- What is handed to yield is data from then on. -/
theorem YldA_frz (n : Nat) (ids : List Nat) {e : Env} {h h' : Heap} {s : σ} {d : Option Nat} {args : List V} {ds : List D} {K : St σ → Prop} (hv : viewL (objD (keepT ids h) n) args = some ds) (hh : cutL h (keysOf (keepT ids h)) = h')
    (hk : YldA P Y ⟨e, h', s⟩ d (inj ds) K) : YldA P Y ⟨e, h, s⟩ d args K := by
  obtain ⟨hk⟩ := hk
  subst hh
  refine ⟨fun cx hY l hl r m L F a w vals hg hd hr => ?_⟩
  obtain ⟨F1, hg1, tr1, hvw⟩ := hg.frzPart (h := keepT ids h) (fun i o hi => sub_keepT ids h i o hi) n
  rw [applyWs_delL] at hg1
  obtain ⟨fn, tmps, asg, body, h1, h2⟩ := hk cx hY l hl r m L F1 a w vals hg1 hd (RepVL.inj.2 (hvw _ _ _ hv hr))
  refine ⟨fn, tmps, asg, body, h1, h2.mono ?_⟩
  rintro en w' ⟨x, rfl, st', L', F', k1, k2, k3⟩
  exact ⟨x, rfl, st', L', F', k1, k2, Tr.trans tr1 k3⟩

/-- Some of what is handed over is data from then on. -/
theorem CallA_frz2 (n : Nat) (ids : List Nat) {e : Env} {h h' : Heap} {s : σ} {d : Option Nat} {f : FuncId} {args args' : List V} {K : St σ → Prop} (hv : replL (objD (keepT ids h) n) args = args') (hh : cutL h (keysOf (keepT ids h)) = h')
    (hk : CallA P Y ⟨e, h', s⟩ d f args' K) : CallA P Y ⟨e, h, s⟩ d f args K := by
  obtain ⟨he, hk⟩ := hk
  subst hh hv
  refine ⟨he, fun cx hY r m L F a w vals hg hd hr => ?_⟩
  obtain ⟨F1, hg1, tr1, hvw⟩ := hg.frzPart2 (h := keepT ids h) (fun i o hi => sub_keepT ids h i o hi) n
  rw [applyWs_delL] at hg1
  refine (hk cx hY r m L F1 a w vals hg1 hd (hvw _ _ hr)).mono ?_
  rintro en w' ⟨x, rfl, st', L', F', k1, k2, k3⟩
  exact ⟨x, rfl, st', L', F', k1, k2, Tr.trans tr1 k3⟩
end

theorem lenAllD_one {α : Type} (f : α → D) (hf : ∀ x, (f x).scalar = true) : ∀ l : List α, lenAllD 1 (l.map fun x => [f x]) = true
  | [] => rfl
  | x :: r => by
    have h : allScalarD [f x] = true := by simp [allScalarD, hf x]
    simp only [List.map_cons, lenAllD, h]
    exact lenAllD_one f hf r

/-- A copy of a slice of bools: an own one. -/
theorem la114 (l : List Bool) (hl : l.length ≤ 100000) : FnU Try.prog 114 [.d (boolsD l)] [] fun v h' => v = .sl 2000000 1 0 l.length ∧ h' = [(2000000, .arr 1 (.dd (l.map fun (b : Bool) => [D.bool b])))] := by
  intro σ Y s
  refine fnC_of mixed tysOk Try.func114 rfl (ft := ft114) (args := [.d (boolsD l)]) (show fnB ft114 Try.f114 1 = true from by decide +kernel) ?_
  conv => whnf
  refine ⟨fun b hb => ?_⟩
  cases b with
  | true =>
    have hnil : l = [] := by
      cases l with
      | nil => rfl
      | cons x r => cases hb (by simp)
    subst hnil
    conv => whnf
    refine RetA_wk (l' := [.sl 5 1 0 0]) (h' := [(5, .arr 1 (.dd []))]) (Wk.born 0 5 1 rfl rfl rfl) rfl rfl ?_
    exact RetA_hand [5] [.sl 2000000 1 0 0] [(2000000, .arr 1 (.dd []))] rfl ⟨rfl, trivial⟩ rfl ⟨⟨rfl, rfl⟩, rfl⟩
  | false =>
    conv => whnf
    refine ownK_whole rfl ?_
    conv => whnf
    refine chk_i (by
      show (lenAllD 1 (l.map fun (b : Bool) => [D.bool b]) && true) = true
      rw [lenAllD_one D.bool (fun _ => rfl) l]; rfl) ?_
    conv => whnf
    refine chk_i (decide_eq_true (by
      show (0 + (l.map fun (b : Bool) => [D.bool b]).length) * 1 ≤ 140737488355328
      rw [List.length_map]; omega)) ?_
    conv => whnf
    refine RetA_hand [7] [.sl 2000000 1 0 l.length] [(2000000, .arr 1 (.dd (l.map fun (b : Bool) => [D.bool b])))] (by
      show [V.sl 7 1 0 l.length] = [V.sl 7 1 0 (0 + (l.map fun (b : Bool) => [D.bool b]).length)]
      rw [List.length_map, Nat.zero_add]) ⟨rfl, trivial⟩ rfl ⟨⟨rfl, rfl⟩, rfl⟩
/-- A copy of a slice of ints: an own one. -/
theorem la115 (l : List Int) (hl : l.length ≤ 100000) : FnU Try.prog 115 [.d (intsD l)] [] fun v h' => v = .sl 2000000 1 0 l.length ∧ h' = [(2000000, .arr 1 (.dd (l.map fun (b : Int) => [D.int .i64 b])))] := by
  intro σ Y s
  refine fnC_of mixed tysOk Try.func115 rfl (ft := ft115) (args := [.d (intsD l)]) (show fnB ft115 Try.f115 1 = true from by decide +kernel) ?_
  conv => whnf
  refine ⟨fun b hb => ?_⟩
  cases b with
  | true =>
    have hnil : l = [] := by
      cases l with
      | nil => rfl
      | cons x r => cases hb (by simp)
    subst hnil
    conv => whnf
    refine RetA_wk (l' := [.sl 5 1 0 0]) (h' := [(5, .arr 1 (.dd []))]) (Wk.born 0 5 1 rfl rfl rfl) rfl rfl ?_
    exact RetA_hand [5] [.sl 2000000 1 0 0] [(2000000, .arr 1 (.dd []))] rfl ⟨rfl, trivial⟩ rfl ⟨⟨rfl, rfl⟩, rfl⟩
  | false =>
    conv => whnf
    refine ownK_whole rfl ?_
    conv => whnf
    refine chk_i (by
      show (lenAllD 1 (l.map fun (b : Int) => [D.int .i64 b]) && true) = true
      rw [lenAllD_one (D.int .i64) (fun _ => rfl) l]; rfl) ?_
    conv => whnf
    refine chk_i (decide_eq_true (by
      show (0 + (l.map fun (b : Int) => [D.int .i64 b]).length) * 8 ≤ 140737488355328
      rw [List.length_map]; omega)) ?_
    conv => whnf
    refine RetA_hand [7] [.sl 2000000 1 0 l.length] [(2000000, .arr 1 (.dd (l.map fun (b : Int) => [D.int .i64 b])))] (by
      show [V.sl 7 1 0 l.length] = [V.sl 7 1 0 (0 + (l.map fun (b : Int) => [D.int .i64 b]).length)]
      rw [List.length_map, Nat.zero_add]) ⟨rfl, trivial⟩ rfl ⟨⟨rfl, rfl⟩, rfl⟩
end Go.PX

namespace Go.PX
open Go.Proofs

/- Lamp: the truths, one after another (the program). -/

def upto : Nat → Int → List Int
  | 0, _ => []
  | k + 1, v => v :: upto k (v + 1)
def spanL (s : Span) : List Int := upto (s.hi + 1 - s.lo).toNat s.lo

/-- The seconds of a run, as long as they are wanted. -/
def segF (x : LLamp) (wf : Int → Bool → Bool) (speed s0 : Int) : Nat → Int → Int → List Bool → Option (List Bool × Int)
  | 0, _, a, acc => some (acc, a)
  | k + 1, s, a, acc => if wf s (openB x a) then segF x wf speed s0 k (s + 1) (nextF x a speed (s - s0)) (acc ++ [openB x a]) else none

def runsL (x : LLamp) (wf : Int → Bool → Bool) : List Int → Int → Int → List Int → List Bool → List (List Int × List Bool)
  | [], s0, a, sp, lit => (spanL x.speed).flatMap fun v => match segF x wf v s0 (x.night - s0).toNat s0 a lit with
    | none => []
    | some (l, _) => [(sp ++ [v], l)]
  | e :: r, s0, a, sp, lit => (spanL x.speed).flatMap fun v => match segF x wf v s0 (e - s0).toNat s0 a lit with
    | none => []
    | some (l, a') => runsL x wf r e a' (sp ++ [v]) l

def truL (x : LLamp) (w : List Int) (wf : Int → Bool → Bool) : List (LTruth × List Bool) :=
  (spanL x.start).flatMap fun st => (runsL x wf w 0 st [] []).map fun p => (⟨st, p.1⟩, p.2)

def shownD (t : LTruth × List Bool) : D := .agg [i64 t.1.start, intsD t.1.speeds, boolsD t.2]
def shownV (t : LTruth × List Bool) : List V × Heap := ([.d (shownD t)], [])

/-- What is asked of what is wanted. -/
def WantL (x : LLamp) (f : FuncId) (caps : List D) (wf : Int → Bool → Bool) : Prop := ∀ (s : Int) (b : Bool), 0 ≤ s ∧ s < x.night → FnV Try.prog f (i64 s :: .bool b :: caps) (.bool (wf s b))

noncomputable def runC (x : LLamp) (w : List Int) (f : FuncId) (caps : List D) : List V := [.d (.ref [.ref (lampC x)]), .d (.ref [intsD w]), .d (.ref [.clo f caps]), .ptr 1000000 0, .ptr 1000001 0]
noncomputable def runH (x : LLamp) (w : List Int) (f : FuncId) (caps : List D) : Heap := [(1000000, .box (.vv [.yld])), (1000001, .box (.vv [.clo 113 (runC x w f caps)]))]

/-- The end of a run. -/
def endOf (x : LLamp) (rem : List Int) : Int := match rem with
  | [] => x.night
  | e :: _ => e

def GRun (x : LLamp) (w : List Int) (f : FuncId) (caps : List D) (wf : Int → Bool → Bool) (rem : List Int) : Prop :=
  ∀ (n : Nat) (st : Int) (sp : List Int) (lit : List Bool) (s0 a : Int), w.drop n = rem → n ≤ w.length → sp.length = n → (lit.length : Int) = s0 → 0 ≤ s0 ∧ s0 ≤ endOf x rem → 0 ≤ a ∧ a < x.drum → 
    ∀ {σ : Type} (Y : Hd σ) (g0 : σ) (rest : List (List V × Heap)) (Q : σ → Prop),
    iterate Y (((runsL x wf rem s0 a sp lit).map fun p => shownV (⟨st, p.1⟩, p.2)) ++ rest) g0 Q → FnC Try.prog Y 113 (.d (.agg [i64 st, intsD sp, boolsD lit]) :: .d (i64 a) :: .d (i64 s0) :: .d (i64 n) :: runC x w f caps) (runH x w f caps) g0 fun v h' s' =>
      h' = runH x w f caps ∧ ((v = .d (.bool true) ∧ iterate Y rest s' Q) ∨ (v = .d (.bool false) ∧ Q s'))

noncomputable def ft113b : FT := ft113.more 7 [103328]

def afterOf (x : LLamp) (wf : Int → Bool → Bool) (rem : List Int) (sp : List Int) (v : Int) (o : Option (List Bool × Int)) : List (List Int × List Bool) := match o with
  | none => []
  | some (l, a') => match rem with
    | [] => [(sp ++ [v], l)]
    | e :: r => runsL x wf r e a' (sp ++ [v]) l

theorem runsL_eq (x : LLamp) (wf : Int → Bool → Bool) (rem : List Int) (s0 a : Int) (sp : List Int) (lit : List Bool) : runsL x wf rem s0 a sp lit = (spanL x.speed).flatMap fun v => afterOf x wf rem sp v (segF x wf v s0 (endOf x rem - s0).toNat s0 a lit) := by
  cases rem with
  | nil =>
    rw [runsL]
    rfl
  | cons e r =>
    rw [runsL]
    rfl

theorem viewV_agg {g : Nat → Option DO} {cs : List V} {l : List D} (h : viewL g cs = some l) : viewV g (.agg cs) = some (.agg l) := by simp [viewV, h]

set_option maxHeartbeats 1000000 in
theorem grun {x : LLamp} (hR : LampR x) {w : List Int} (hw : w.length ≤ 2) (hww : ∀ s ∈ w, 1 ≤ s ∧ s ≤ x.night - 1) {f : FuncId} {caps : List D} {wf : Int → Bool → Bool} (hwant : WantL x f caps wf) (rem : List Int)
    (ih : ∀ e r, rem = e :: r → e ≤ endOf x r ∧ GRun x w f caps wf r) : GRun x w f caps wf rem := by
  intro n st sp lit s0 a hdrop hn hsp hlit hs0 ha σ Y g0 rest Q hit
  refine fnC_of mixed tysOk Try.func113 rfl (ft := ft113b) (args := .d (.agg [i64 st, intsD sp, boolsD lit]) :: .d (i64 a) :: .d (i64 s0) :: .d (i64 n) :: runC x w f caps) (show fnB ft113b Try.f113 9 = true from by decide +kernel) ?_
  have hd := hR.drum
  have hni := hR.night
  have hspd := hR.speed
  rw [runsL_eq] at hit
  have hend : endOf x rem ≤ x.night := by
    cases rem with
    | nil => exact Int.le_refl _
    | cons e r =>
      have := hww e (List.mem_of_mem_drop (by rw [hdrop]; simp))
      show e ≤ _
      omega
  have hcase : ((n : Int) < w.length ∧ ∃ e r, rem = e :: r ∧ w[n]? = some e) ∨ (¬ (n : Int) < w.length ∧ rem = [] ∧ n = w.length) := by
    cases rem with
    | nil =>
      have := List.drop_eq_nil_iff.1 hdrop
      exact .inr ⟨by omega, rfl, by omega⟩
    | cons e r =>
      have h1 : n < w.length := by
        rcases Nat.lt_or_ge n w.length with h | h
        · exact h
        · rw [List.drop_eq_nil_of_le h] at hdrop; cases hdrop
      refine .inl ⟨by omega, e, r, rfl, ?_⟩
      rw [← List.head?_drop, hdrop]; rfl
  conv => whnf
  rcases hcase with ⟨h1, e, r, hrem, hwe⟩ | ⟨h1, hrem, hnw⟩
  · rw [show decide ((n : Int) < ((List.map (fun n => [i64 n]) w).length : Int)) = true from by simpa using h1]
    conv => whnf
    refine elemK_i [i64 e] ⟨by omega, by simp [hwe]⟩ ?_
    conv => whnf
    have hE : e = endOf x rem := by rw [hrem]; rfl
    rw [hE]
    refine LoopA_p (T := tys) tysOk (by exact drawsB_spec mixed tysOk (by decide +kernel)) (α := Int × σ)
      (fun p => ⟨[(1, .d (i64 a)), (2, .d (i64 s0)), (3, .d (i64 n)), (4, .d (.ref [.ref (lampC x)])), (5, .d (.ref [intsD w])), (6, .d (.ref [.clo f caps])), (7, .ptr 1000000 0), (8, .ptr 1000001 0), (9, .ptr 9 0), (13, .d (.bool false)), (14, .d (i64 (endOf x rem))), (15, .d (i64 p.1))], runH x w f caps ++ [(9, .box (.dd [i64 st, intsD sp, boolsD lit]))], p.2⟩)
      (fun p => x.speed.lo ≤ p.1 ∧ p.1 ≤ x.speed.hi + 1 ∧ iterate Y ((((upto (x.speed.hi + 1 - p.1).toNat p.1).flatMap fun v => afterOf x wf rem sp v (segF x wf v s0 (endOf x rem - s0).toNat s0 a lit)).map fun p => shownV (⟨st, p.1⟩, p.2)) ++ rest) p.2 Q) (fun p => (x.speed.hi + 1 - p.1).toNat) (x.speed.lo, g0) ?wk ⟨Int.le_refl _, by simp only; omega, hit⟩ ?_
    case wk => exact (Wk.sub ⟨(by first | rfl | (simp only [List.length_map]; rfl) | simp [PX.get]), (by first | rfl | (simp only [List.length_map]; rfl) | simp [PX.get]), (by first | rfl | (simp only [List.length_map]; rfl) | simp [PX.get]), (by first | rfl | (simp only [List.length_map]; rfl) | simp [PX.get]), (by first | rfl | (simp only [List.length_map]; rfl) | simp [PX.get]), (by first | rfl | (simp only [List.length_map]; rfl) | simp [PX.get]), (by first | rfl | (simp only [List.length_map]; rfl) | simp [PX.get]), (by first | rfl | (simp only [List.length_map]; rfl) | simp [PX.get]), (by first | rfl | (simp only [List.length_map]; rfl) | simp [PX.get]), (by first | rfl | (simp only [List.length_map]; rfl) | simp [PX.get]), (by first | rfl | (simp only [List.length_map]; rfl) | simp [PX.get]), (by first | rfl | (simp only [List.length_map]; rfl) | simp [PX.get]), trivial⟩ ⟨(by first | rfl | (simp only [List.length_map]; rfl) | simp [PX.get]), (by first | rfl | (simp only [List.length_map]; rfl) | simp [PX.get]), (by first | rfl | (simp only [List.length_map]; rfl) | simp [PX.get]), trivial⟩)
    clear hit g0
    rintro ⟨v, g0⟩ ⟨hv1, hv2, hit⟩
    simp only at hv1 hv2 hit
    conv => whnf
    refine brk_i (fun h2 => ?_) (fun h2 => ?_)
    · have h2 : v ≤ x.speed.hi := by simpa using h2
      obtain ⟨m, hm⟩ : ∃ m, (x.speed.hi + 1 - v).toNat = m + 1 := ⟨(x.speed.hi - v).toNat, by omega⟩
      have hm2 : (x.speed.hi + 1 - (v + 1)).toNat = m := by omega
      rw [hm, upto, List.flatMap_cons, List.map_append, List.append_assoc] at hit
      conv => whnf
      refine DrawCall_fn (la114 lit (by omega)) [] rfl rfl rfl ?_
      conv => whnf
      refine CallA_fn (la115 sp (by omega)) [] rfl rfl rfl ?_
      conv => whnf
      refine ownK_whole rfl ?_
      conv => whnf
      refine ownK_whole (by simp [Els.len]) ?_
      conv => whnf
      refine chk_i (decide_eq_true (by
        show ((sp.map fun n => [D.int .i64 n]).length + 1) * 8 ≤ 140737488355328
        rw [List.length_map]; omega)) ?_
      conv => whnf
      generalize hO : segF x wf v s0 (endOf x rem - s0).toNat s0 a lit = O at hit
      refine LoopA_p (T := tys) tysOk (by exact drawsB_spec mixed tysOk (by decide +kernel)) (α := Int × (Int × List Bool))
        (fun p => ⟨[(1, .d (i64 a)), (2, .d (i64 s0)), (3, .d (i64 n)), (4, .d (.ref [.ref (lampC x)])), (5, .d (.ref [intsD w])), (6, .d (.ref [.clo f caps])), (7, .ptr 1000000 0), (8, .ptr 1000001 0), (9, .ptr 9 0), (13, .d (.bool false)), (14, .d (i64 (endOf x rem))), (15, .d (i64 v)), (16, .ptr 16 0), (17, .d (i64 p.2.1)), (18, .d (i64 p.1))], runH x w f caps ++ [(9, .box (.dd [i64 st, intsD sp, boolsD lit])), (16, .box (.vv [.d (i64 st), .sl 60 1 0 (sp.length + 1), .sl 900001 1 0 p.2.2.length])), (60, .arr 1 (.dd (sp ++ [v] |>.map fun n => [i64 n]))), (900001, .arr 1 (.dd (p.2.2.map fun b => [.bool b])))], g0⟩)
        (fun p => s0 ≤ p.1 ∧ p.1 ≤ endOf x rem ∧ (0 ≤ p.2.1 ∧ p.2.1 < x.drum) ∧ (p.2.2.length : Int) = p.1 ∧ segF x wf v s0 (endOf x rem - p.1).toNat p.1 p.2.1 p.2.2 = O) (fun p => (endOf x rem - p.1).toNat) (s0, (a, lit)) ?wk2 ⟨Int.le_refl _, by simp only; omega, ha, hlit, hO⟩ ?_
      case wk2 =>
        refine (Wk.move 103328 900001 rfl rfl).trans (Wk.sub ⟨rfl, rfl, rfl, rfl, rfl, rfl, rfl, rfl, rfl, rfl, rfl, rfl, rfl, rfl, rfl, trivial⟩ ⟨rfl, ?_, rfl, ?_, ?_, ?_, trivial⟩)
        · exact box_same rfl ⟨⟨rfl, rfl, rfl, rfl, ⟨rfl, rfl⟩, ⟨rfl, rfl⟩, trivial⟩, trivial⟩
        · show some (Obj.box (Cells.vv [V.d (i64 st), V.sl 60 1 0 ((sp.map fun n => [D.int .i64 n]).length + 1), V.sl 900001 1 0 lit.length])) = some (Obj.box (Cells.vv [V.d (i64 st), V.sl 60 1 0 (sp.length + 1), V.sl 900001 1 0 lit.length]))
          rw [List.length_map]
        · show some (Obj.arr 1 (Els.dd ((sp.map fun n => [D.int .i64 n]) ++ [[i64 v]]))) = some (Obj.arr 1 (Els.dd ((sp ++ [v]).map fun n => [i64 n])))
          rw [List.map_append]; rfl
        · rfl
      clear hO
      rintro ⟨s, a', acc⟩ ⟨k1, k2, k3, k4, hO⟩
      simp only at k1 k2 k3 k4 hO
      conv => whnf
      refine brk_i (fun h3 => ?_) (fun h3 => ?_)
      · have h3 : s < endOf x rem := by simpa using h3
        obtain ⟨m2, hm3⟩ : ∃ m2, (endOf x rem - s).toNat = m2 + 1 := ⟨(endOf x rem - s - 1).toNat, by omega⟩
        have hm4 : (endOf x rem - (s + 1)).toNat = m2 := by omega
        rw [hm3, segF] at hO
        conv => whnf
        refine chk_i (by simp; omega) ?_
        conv => whnf
        refine lampC_at x (a := a') (by omega) rfl ?_
        conv => whnf
        refine DrawCall_v (hwant s (openB x a') ⟨by omega, by omega⟩) rfl rfl ?_
        conv => whnf
        cases hwf : wf s (openB x a') with
        | false =>
          rw [hwf, if_neg (by simp)] at hO
          subst hO
          conv => whnf
          refine arith_in (wrap_i64 (by (try dsimp only); omega)) ?_
          conv => whnf
          exact ⟨(v + 1, g0), by simp only; omega, ⟨by simp only; omega, by simp only; omega, by simp only; rw [hm2]; exact hit⟩, (Wk.sub ⟨(by first | rfl | (simp only [List.length_map]; rfl) | simp [PX.get]), (by first | rfl | (simp only [List.length_map]; rfl) | simp [PX.get]), (by first | rfl | (simp only [List.length_map]; rfl) | simp [PX.get]), (by first | rfl | (simp only [List.length_map]; rfl) | simp [PX.get]), (by first | rfl | (simp only [List.length_map]; rfl) | simp [PX.get]), (by first | rfl | (simp only [List.length_map]; rfl) | simp [PX.get]), (by first | rfl | (simp only [List.length_map]; rfl) | simp [PX.get]), (by first | rfl | (simp only [List.length_map]; rfl) | simp [PX.get]), (by first | rfl | (simp only [List.length_map]; rfl) | simp [PX.get]), (by first | rfl | (simp only [List.length_map]; rfl) | simp [PX.get]), (by first | rfl | (simp only [List.length_map]; rfl) | simp [PX.get]), (by first | rfl | (simp only [List.length_map]; rfl) | simp [PX.get]), trivial⟩ ⟨(by first | rfl | (simp only [List.length_map]; rfl) | simp [PX.get]), (by first | rfl | (simp only [List.length_map]; rfl) | simp [PX.get]), (by first | rfl | (simp only [List.length_map]; rfl) | simp [PX.get]), trivial⟩)⟩
        | true =>
          rw [hwf, if_pos rfl] at hO
          conv => whnf
          refine chk_i (by simp; omega) ?_
          conv => whnf
          refine lampC_at x (a := a') (by omega) rfl ?_
          conv => whnf
          refine ownK_whole rfl ?_
          conv => whnf
          refine ownK_whole (by simp [Els.len]) ?_
          conv => whnf
          refine chk_i (decide_eq_true (by
            show ((acc.map fun b => [D.bool b]).length + 1) * 1 ≤ 140737488355328
            rw [List.length_map]; omega)) ?_
          conv => whnf
          refine arith_to (s - s0) rfl (wrap_i64 (by omega)) ?_
          conv => whnf
          refine CallA_v (la110 x hR a' v (s - s0) k3 (by omega) (by omega)) rfl rfl ?_
          conv => whnf
          refine arith_to (s + 1) rfl (wrap_i64 (by omega)) ?_
          conv => whnf
          refine ⟨(s + 1, (nextF x a' v (s - s0), acc ++ [openB x a'])), by simp only; omega, ⟨by simp only; omega, by simp only; omega, nextF_bd hR _ _ _, by simp; omega, by simp only; rw [hm4]; exact hO⟩, ?_⟩
          refine (Wk.move 89 900001 rfl rfl).trans (Wk.sub ⟨rfl, rfl, rfl, rfl, rfl, rfl, rfl, rfl, rfl, rfl, rfl, rfl, rfl, rfl, rfl, trivial⟩ ⟨rfl, ?_, rfl, ?_, rfl, ?_, trivial⟩)
          · exact box_same rfl ⟨⟨rfl, rfl, rfl, rfl, ⟨rfl, rfl⟩, ⟨rfl, rfl⟩, trivial⟩, trivial⟩
          · show some (Obj.box (Cells.vv [V.d (i64 st), V.sl 60 1 0 (sp.length + 1), V.sl 900001 1 0 ((acc.map fun b => [D.bool b]).length + 1)])) = some (Obj.box (Cells.vv [V.d (i64 st), V.sl 60 1 0 (sp.length + 1), V.sl 900001 1 0 (acc ++ [openB x a']).length]))
            rw [List.length_map, List.length_append]; rfl
          · show some (Obj.arr 1 (Els.dd ((acc.map fun b => [D.bool b]) ++ [[D.bool (openB x a')]]))) = some (Obj.arr 1 (Els.dd ((acc ++ [openB x a']).map fun b => [D.bool b])))
            rw [List.map_append]; rfl
      · have h3 : ¬ s < endOf x rem := by simpa using h3
        have hse : s = endOf x rem := by omega
        rw [show (endOf x rem - s).toNat = 0 by omega, segF] at hO
        subst hO
        conv => whnf
        rw [show decide ((n : Int) = ((List.map (fun n => [i64 n]) w).length : Int)) = false from by simp; omega]
        conv => whnf
        rw [show decide ((n : Int) < ((List.map (fun n => [i64 n]) w).length : Int)) = true from by simp; omega]
        conv => whnf
        refine arith_to (((n + 1 : Nat) : Int)) (by (try dsimp only); omega) (wrap_i64 (by (try dsimp only); omega)) ?_
        conv => whnf
        refine CallA_frz2 1 [60, 900001] (args' := .d (shownD (⟨st, sp ++ [v]⟩, acc)) :: .d (i64 a') :: .d (i64 (endOf x rem)) :: .d (i64 ((n + 1 : Nat) : Int)) :: runC x w f caps) ?_ rfl ?_
        · show mkAgg [.d (i64 st), repl _ (.sl 60 1 0 (sp.length + 1)), repl _ (.sl 900001 1 0 acc.length)] :: _ = _
          rw [repl_sl (d := intsD (sp ++ [v])) (viewV_sl rfl (by simp)), repl_sl (d := boolsD acc) (viewV_sl rfl (by simp))]
          rfl
        obtain ⟨hle, ihr⟩ := ih e r hrem
        have hdr : w.drop (n + 1) = r := by
          rw [← List.drop_drop, hdrop, hrem]; rfl
        subst hrem
        refine CallA_y (ihr (n + 1) st (sp ++ [v]) acc e a' hdr (by omega) (by simp; omega) (by rw [k4, hse]; rfl) ⟨by have := hww e (List.mem_of_getElem? hwe); omega, hle⟩ k3 Y g0 _ Q hit) [1000000, 1000001] rfl ⟨_, _, rfl, rfl, _, _, rfl, box_same rfl ⟨⟨rfl, rfl, rfl, rfl, ⟨rfl, rfl⟩, ⟨rfl, rfl⟩, trivial⟩, trivial⟩, rfl⟩ rfl rfl ?_
        rintro v1 h1' g1 ⟨rfl, hpost⟩
        rcases hpost with ⟨rfl, hi⟩ | ⟨rfl, hq⟩
        · refine ⟨rfl, ?_⟩
          conv => whnf
          refine arith_in (wrap_i64 (by (try dsimp only); omega)) ?_
          conv => whnf
          exact ⟨(v + 1, g1), by simp only; omega, ⟨by simp only; omega, by simp only; omega, by simp only; rw [hm2]; exact hi⟩, Wk.sub ⟨rfl, rfl, rfl, rfl, rfl, rfl, rfl, rfl, rfl, rfl, rfl, rfl, trivial⟩ ⟨rfl, box_same rfl ⟨⟨rfl, rfl, rfl, rfl, ⟨rfl, rfl⟩, ⟨rfl, rfl⟩, trivial⟩, trivial⟩, rfl, trivial⟩⟩
        · refine ⟨rfl, ?_⟩
          conv => whnf
          exact RetA_hand [] [.d (.bool false)] (runH x w f caps) rfl ⟨rfl, box_same rfl ⟨⟨rfl, rfl, rfl, rfl, ⟨rfl, rfl⟩, ⟨rfl, rfl⟩, trivial⟩, trivial⟩, trivial⟩ rfl ⟨rfl, .inr ⟨rfl, hq⟩⟩
    · have h2 : ¬ v ≤ x.speed.hi := by simpa using h2
      rw [show (x.speed.hi + 1 - v).toNat = 0 by omega] at hit
      conv => whnf
      exact RetA_hand [] [.d (.bool true)] (runH x w f caps) rfl ⟨rfl, box_same rfl ⟨⟨rfl, rfl, rfl, rfl, ⟨rfl, rfl⟩, ⟨rfl, rfl⟩, trivial⟩, trivial⟩, trivial⟩ rfl ⟨rfl, .inl ⟨rfl, hit⟩⟩
  · rw [show decide ((n : Int) < ((List.map (fun n => [i64 n]) w).length : Int)) = false from by simpa using h1]
    have hE : x.night = endOf x rem := by rw [hrem]; rfl
    conv => whnf
    rw [hE]
    refine LoopA_p (T := tys) tysOk (by exact drawsB_spec mixed tysOk (by decide +kernel)) (α := Int × σ)
      (fun p => ⟨[(1, .d (i64 a)), (2, .d (i64 s0)), (3, .d (i64 n)), (4, .d (.ref [.ref (lampC x)])), (5, .d (.ref [intsD w])), (6, .d (.ref [.clo f caps])), (7, .ptr 1000000 0), (8, .ptr 1000001 0), (9, .ptr 9 0), (13, .d (.bool false)), (14, .d (i64 (endOf x rem))), (15, .d (i64 p.1))], runH x w f caps ++ [(9, .box (.dd [i64 st, intsD sp, boolsD lit]))], p.2⟩)
      (fun p => x.speed.lo ≤ p.1 ∧ p.1 ≤ x.speed.hi + 1 ∧ iterate Y ((((upto (x.speed.hi + 1 - p.1).toNat p.1).flatMap fun v => afterOf x wf rem sp v (segF x wf v s0 (endOf x rem - s0).toNat s0 a lit)).map fun p => shownV (⟨st, p.1⟩, p.2)) ++ rest) p.2 Q) (fun p => (x.speed.hi + 1 - p.1).toNat) (x.speed.lo, g0) ?wk ⟨Int.le_refl _, by simp only; omega, hit⟩ ?_
    case wk => exact (Wk.sub ⟨(by first | rfl | (simp only [List.length_map]; rfl) | simp [PX.get]), (by first | rfl | (simp only [List.length_map]; rfl) | simp [PX.get]), (by first | rfl | (simp only [List.length_map]; rfl) | simp [PX.get]), (by first | rfl | (simp only [List.length_map]; rfl) | simp [PX.get]), (by first | rfl | (simp only [List.length_map]; rfl) | simp [PX.get]), (by first | rfl | (simp only [List.length_map]; rfl) | simp [PX.get]), (by first | rfl | (simp only [List.length_map]; rfl) | simp [PX.get]), (by first | rfl | (simp only [List.length_map]; rfl) | simp [PX.get]), (by first | rfl | (simp only [List.length_map]; rfl) | simp [PX.get]), (by first | rfl | (simp only [List.length_map]; rfl) | simp [PX.get]), (by first | rfl | (simp only [List.length_map]; rfl) | simp [PX.get]), (by first | rfl | (simp only [List.length_map]; rfl) | simp [PX.get]), trivial⟩ ⟨(by first | rfl | (simp only [List.length_map]; rfl) | simp [PX.get]), (by first | rfl | (simp only [List.length_map]; rfl) | simp [PX.get]), (by first | rfl | (simp only [List.length_map]; rfl) | simp [PX.get]), trivial⟩)
    clear hit g0
    rintro ⟨v, g0⟩ ⟨hv1, hv2, hit⟩
    simp only at hv1 hv2 hit
    conv => whnf
    refine brk_i (fun h2 => ?_) (fun h2 => ?_)
    · have h2 : v ≤ x.speed.hi := by simpa using h2
      obtain ⟨m, hm⟩ : ∃ m, (x.speed.hi + 1 - v).toNat = m + 1 := ⟨(x.speed.hi - v).toNat, by omega⟩
      have hm2 : (x.speed.hi + 1 - (v + 1)).toNat = m := by omega
      rw [hm, upto, List.flatMap_cons, List.map_append, List.append_assoc] at hit
      conv => whnf
      refine DrawCall_fn (la114 lit (by omega)) [] rfl rfl rfl ?_
      conv => whnf
      refine CallA_fn (la115 sp (by omega)) [] rfl rfl rfl ?_
      conv => whnf
      refine ownK_whole rfl ?_
      conv => whnf
      refine ownK_whole (by simp [Els.len]) ?_
      conv => whnf
      refine chk_i (decide_eq_true (by
        show ((sp.map fun n => [D.int .i64 n]).length + 1) * 8 ≤ 140737488355328
        rw [List.length_map]; omega)) ?_
      conv => whnf
      generalize hO : segF x wf v s0 (endOf x rem - s0).toNat s0 a lit = O at hit
      refine LoopA_p (T := tys) tysOk (by exact drawsB_spec mixed tysOk (by decide +kernel)) (α := Int × (Int × List Bool))
        (fun p => ⟨[(1, .d (i64 a)), (2, .d (i64 s0)), (3, .d (i64 n)), (4, .d (.ref [.ref (lampC x)])), (5, .d (.ref [intsD w])), (6, .d (.ref [.clo f caps])), (7, .ptr 1000000 0), (8, .ptr 1000001 0), (9, .ptr 9 0), (13, .d (.bool false)), (14, .d (i64 (endOf x rem))), (15, .d (i64 v)), (16, .ptr 16 0), (17, .d (i64 p.2.1)), (18, .d (i64 p.1))], runH x w f caps ++ [(9, .box (.dd [i64 st, intsD sp, boolsD lit])), (16, .box (.vv [.d (i64 st), .sl 60 1 0 (sp.length + 1), .sl 900001 1 0 p.2.2.length])), (60, .arr 1 (.dd (sp ++ [v] |>.map fun n => [i64 n]))), (900001, .arr 1 (.dd (p.2.2.map fun b => [.bool b])))], g0⟩)
        (fun p => s0 ≤ p.1 ∧ p.1 ≤ endOf x rem ∧ (0 ≤ p.2.1 ∧ p.2.1 < x.drum) ∧ (p.2.2.length : Int) = p.1 ∧ segF x wf v s0 (endOf x rem - p.1).toNat p.1 p.2.1 p.2.2 = O) (fun p => (endOf x rem - p.1).toNat) (s0, (a, lit)) ?wk2 ⟨Int.le_refl _, by simp only; omega, ha, hlit, hO⟩ ?_
      case wk2 =>
        refine (Wk.move 103328 900001 rfl rfl).trans (Wk.sub ⟨rfl, rfl, rfl, rfl, rfl, rfl, rfl, rfl, rfl, rfl, rfl, rfl, rfl, rfl, rfl, trivial⟩ ⟨rfl, ?_, rfl, ?_, ?_, ?_, trivial⟩)
        · exact box_same rfl ⟨⟨rfl, rfl, rfl, rfl, ⟨rfl, rfl⟩, ⟨rfl, rfl⟩, trivial⟩, trivial⟩
        · show some (Obj.box (Cells.vv [V.d (i64 st), V.sl 60 1 0 ((sp.map fun n => [D.int .i64 n]).length + 1), V.sl 900001 1 0 lit.length])) = some (Obj.box (Cells.vv [V.d (i64 st), V.sl 60 1 0 (sp.length + 1), V.sl 900001 1 0 lit.length]))
          rw [List.length_map]
        · show some (Obj.arr 1 (Els.dd ((sp.map fun n => [D.int .i64 n]) ++ [[i64 v]]))) = some (Obj.arr 1 (Els.dd ((sp ++ [v]).map fun n => [i64 n])))
          rw [List.map_append]; rfl
        · rfl
      clear hO
      rintro ⟨s, a', acc⟩ ⟨k1, k2, k3, k4, hO⟩
      simp only at k1 k2 k3 k4 hO
      conv => whnf
      refine brk_i (fun h3 => ?_) (fun h3 => ?_)
      · have h3 : s < endOf x rem := by simpa using h3
        obtain ⟨m2, hm3⟩ : ∃ m2, (endOf x rem - s).toNat = m2 + 1 := ⟨(endOf x rem - s - 1).toNat, by omega⟩
        have hm4 : (endOf x rem - (s + 1)).toNat = m2 := by omega
        rw [hm3, segF] at hO
        conv => whnf
        refine chk_i (by simp; omega) ?_
        conv => whnf
        refine lampC_at x (a := a') (by omega) rfl ?_
        conv => whnf
        refine DrawCall_v (hwant s (openB x a') ⟨by omega, by omega⟩) rfl rfl ?_
        conv => whnf
        cases hwf : wf s (openB x a') with
        | false =>
          rw [hwf, if_neg (by simp)] at hO
          subst hO
          conv => whnf
          refine arith_in (wrap_i64 (by (try dsimp only); omega)) ?_
          conv => whnf
          exact ⟨(v + 1, g0), by simp only; omega, ⟨by simp only; omega, by simp only; omega, by simp only; rw [hm2]; exact hit⟩, (Wk.sub ⟨(by first | rfl | (simp only [List.length_map]; rfl) | simp [PX.get]), (by first | rfl | (simp only [List.length_map]; rfl) | simp [PX.get]), (by first | rfl | (simp only [List.length_map]; rfl) | simp [PX.get]), (by first | rfl | (simp only [List.length_map]; rfl) | simp [PX.get]), (by first | rfl | (simp only [List.length_map]; rfl) | simp [PX.get]), (by first | rfl | (simp only [List.length_map]; rfl) | simp [PX.get]), (by first | rfl | (simp only [List.length_map]; rfl) | simp [PX.get]), (by first | rfl | (simp only [List.length_map]; rfl) | simp [PX.get]), (by first | rfl | (simp only [List.length_map]; rfl) | simp [PX.get]), (by first | rfl | (simp only [List.length_map]; rfl) | simp [PX.get]), (by first | rfl | (simp only [List.length_map]; rfl) | simp [PX.get]), (by first | rfl | (simp only [List.length_map]; rfl) | simp [PX.get]), trivial⟩ ⟨(by first | rfl | (simp only [List.length_map]; rfl) | simp [PX.get]), (by first | rfl | (simp only [List.length_map]; rfl) | simp [PX.get]), (by first | rfl | (simp only [List.length_map]; rfl) | simp [PX.get]), trivial⟩)⟩
        | true =>
          rw [hwf, if_pos rfl] at hO
          conv => whnf
          refine chk_i (by simp; omega) ?_
          conv => whnf
          refine lampC_at x (a := a') (by omega) rfl ?_
          conv => whnf
          refine ownK_whole rfl ?_
          conv => whnf
          refine ownK_whole (by simp [Els.len]) ?_
          conv => whnf
          refine chk_i (decide_eq_true (by
            show ((acc.map fun b => [D.bool b]).length + 1) * 1 ≤ 140737488355328
            rw [List.length_map]; omega)) ?_
          conv => whnf
          refine arith_to (s - s0) rfl (wrap_i64 (by omega)) ?_
          conv => whnf
          refine CallA_v (la110 x hR a' v (s - s0) k3 (by omega) (by omega)) rfl rfl ?_
          conv => whnf
          refine arith_to (s + 1) rfl (wrap_i64 (by omega)) ?_
          conv => whnf
          refine ⟨(s + 1, (nextF x a' v (s - s0), acc ++ [openB x a'])), by simp only; omega, ⟨by simp only; omega, by simp only; omega, nextF_bd hR _ _ _, by simp; omega, by simp only; rw [hm4]; exact hO⟩, ?_⟩
          refine (Wk.move 89 900001 rfl rfl).trans (Wk.sub ⟨rfl, rfl, rfl, rfl, rfl, rfl, rfl, rfl, rfl, rfl, rfl, rfl, rfl, rfl, rfl, trivial⟩ ⟨rfl, ?_, rfl, ?_, rfl, ?_, trivial⟩)
          · exact box_same rfl ⟨⟨rfl, rfl, rfl, rfl, ⟨rfl, rfl⟩, ⟨rfl, rfl⟩, trivial⟩, trivial⟩
          · show some (Obj.box (Cells.vv [V.d (i64 st), V.sl 60 1 0 (sp.length + 1), V.sl 900001 1 0 ((acc.map fun b => [D.bool b]).length + 1)])) = some (Obj.box (Cells.vv [V.d (i64 st), V.sl 60 1 0 (sp.length + 1), V.sl 900001 1 0 (acc ++ [openB x a']).length]))
            rw [List.length_map, List.length_append]; rfl
          · show some (Obj.arr 1 (Els.dd ((acc.map fun b => [D.bool b]) ++ [[D.bool (openB x a')]]))) = some (Obj.arr 1 (Els.dd ((acc ++ [openB x a']).map fun b => [D.bool b])))
            rw [List.map_append]; rfl
      · have h3 : ¬ s < endOf x rem := by simpa using h3
        have hse : s = endOf x rem := by omega
        rw [show (endOf x rem - s).toNat = 0 by omega, segF] at hO
        subst hO
        conv => whnf
        rw [show decide ((n : Int) = ((List.map (fun n => [i64 n]) w).length : Int)) = true from by simp; omega]
        subst hrem
        conv => whnf
        refine YldA_frz 1 [60, 900001] (ds := [shownD (⟨st, sp ++ [v]⟩, acc)]) ?_ rfl ?_
        · exact viewL_cons (viewV_agg (viewL_cons rfl (viewL_cons (viewV_sl rfl (by simp)) (viewL_cons (viewV_sl rfl (by simp)) rfl)))) rfl
        refine YldA_v (ds := [shownD (⟨st, sp ++ [v]⟩, acc)]) hit rfl rfl (fun g1 hi => ?_) (fun g1 hq => ?_)
        · conv => whnf
          rw [show decide ((n : Int) < ((List.map (fun n => [i64 n]) w).length : Int)) = false from by simp; omega]
          conv => whnf
          refine arith_in (wrap_i64 (by (try dsimp only); omega)) ?_
          conv => whnf
          exact ⟨(v + 1, g1), by simp only; omega, ⟨by simp only; omega, by simp only; omega, by simp only; rw [hm2]; exact hi⟩, Wk.sub ⟨rfl, rfl, rfl, rfl, rfl, rfl, rfl, rfl, rfl, rfl, rfl, rfl, trivial⟩ ⟨rfl, box_same rfl ⟨⟨rfl, rfl, rfl, rfl, ⟨rfl, rfl⟩, ⟨rfl, rfl⟩, trivial⟩, trivial⟩, rfl, trivial⟩⟩
        · conv => whnf
          exact RetA_hand [] [.d (.bool false)] (runH x w f caps) rfl ⟨rfl, box_same rfl ⟨⟨rfl, rfl, rfl, rfl, ⟨rfl, rfl⟩, ⟨rfl, rfl⟩, trivial⟩, trivial⟩, trivial⟩ rfl ⟨rfl, .inr ⟨rfl, hq⟩⟩
    · have h2 : ¬ v ≤ x.speed.hi := by simpa using h2
      rw [show (x.speed.hi + 1 - v).toNat = 0 by omega] at hit
      conv => whnf
      exact RetA_hand [] [.d (.bool true)] (runH x w f caps) rfl ⟨rfl, box_same rfl ⟨⟨rfl, rfl, rfl, rfl, ⟨rfl, rfl⟩, ⟨rfl, rfl⟩, trivial⟩, trivial⟩, trivial⟩ rfl ⟨rfl, .inl ⟨rfl, hit⟩⟩
end Go.PX

namespace Go.PX
open Go.Proofs

/- Lamp: truths (the program). -/

def upW (x : LLamp) : List Int → Prop
  | [] => True
  | e :: r => e ≤ endOf x r ∧ upW x r

theorem windF_up {x : LLamp} : ∀ {l : List Int} {last i : Int}, (windF x.night last l i).2 = 0 → upW x l ∧ ∀ e r, l = e :: r → last < e
  | [], _, _, _ => ⟨trivial, fun e r h => by cases h⟩
  | s :: r, last, i, h => by
    rw [windF] at h
    split at h
    case isFalse => cases h
    rename_i h1
    rw [inB_iff] at h1
    split at h
    · cases h
    rename_i h2
    obtain ⟨h3, h4⟩ := windF_up h
    refine ⟨⟨?_, h3⟩, fun e r' he => by cases he; omega⟩
    cases r with
    | nil => show s ≤ x.night; omega
    | cons e r' => have := h4 e r' rfl; show s ≤ e; omega

theorem grunAll {x : LLamp} (hR : LampR x) {w : List Int} (hw : w.length ≤ 2) (hww : ∀ s ∈ w, 1 ≤ s ∧ s ≤ x.night - 1) {f : FuncId} {caps : List D} {wf : Int → Bool → Bool} (hwant : WantL x f caps wf) : ∀ rem, upW x rem → GRun x w f caps wf rem
  | [], _ => grun hR hw hww hwant [] (fun e r h => by cases h)
  | e :: r, hu => grun hR hw hww hwant (e :: r) fun e' r' h => by
    cases h
    exact ⟨hu.1, grunAll hR hw hww hwant r hu.2⟩

theorem la81 (x : LLamp) (w : List Int) (f : FuncId) (caps : List D) : FnV Try.prog 81 [.ref (lampC x), intsD w, .clo f caps] (.clo 112 [.ref [.ref (lampC x)], .ref [intsD w], .ref [.clo f caps]]) := by
  refine fnV_of mixed tysOk Try.func81 rfl (ft := ft81) 3 (by decide +kernel) (by rfl) fun {σ} Y st => ?_
  conv => whnf
  exact RetA_view 1 rfl ⟨⟨rfl, rfl⟩, rfl⟩

theorem yields112 {x : LLamp} (hR : LampR x) {w : List Int} (hw : w.length ≤ 2) (hww : ∀ s ∈ w, 1 ≤ s ∧ s ≤ x.night - 1) (hup : upW x w) {f : FuncId} {caps : List D} {wf : Int → Bool → Bool} (hwant : WantL x f caps wf) :
    Yields Try.prog 112 [.ref [.ref (lampC x)], .ref [intsD w], .ref [.clo f caps]] ((truL x w wf).map shownV) := by
  intro γ Y g0 Q hit
  have hd := hR.drum
  have hst := hR.start
  have hni := hR.night
  refine fnC_of mixed tysOk Try.func112 rfl (ft := ft112) (args := [.yld, .d (.ref [.ref (lampC x)]), .d (.ref [intsD w]), .d (.ref [.clo f caps])]) (show fnB ft112 Try.f112 4 = true from by decide +kernel) ?_
  conv => whnf
  refine LoopA_p (T := tys) tysOk (by exact drawsB_spec mixed tysOk (by decide +kernel)) (α := Int × γ)
    (fun p => ⟨[(1, .d (.ref [.ref (lampC x)])), (2, .d (.ref [intsD w])), (3, .d (.ref [.clo f caps])), (4, .ptr 4 0), (5, .ptr 5 0), (6, .d (i64 p.1))], [(4, .box (.vv [.yld])), (5, .box (.vv [.clo 113 [.d (.ref [.ref (lampC x)]), .d (.ref [intsD w]), .d (.ref [.clo f caps]), .ptr 4 0, .ptr 5 0]]))], p.2⟩)
    (fun p => x.start.lo ≤ p.1 ∧ p.1 ≤ x.start.hi + 1 ∧ iterate Y (((upto (x.start.hi + 1 - p.1).toNat p.1).flatMap fun st => (runsL x wf w 0 st [] []).map fun q => ((⟨st, q.1⟩, q.2) : LTruth × List Bool)).map shownV) p.2 Q) (fun p => (x.start.hi + 1 - p.1).toNat) (x.start.lo, g0) ?wk ⟨Int.le_refl _, by simp only; omega, hit⟩ ?_
  case wk => exact (Wk.sub ⟨(by first | rfl | (simp only [List.length_map]; rfl) | simp [PX.get]), (by first | rfl | (simp only [List.length_map]; rfl) | simp [PX.get]), (by first | rfl | (simp only [List.length_map]; rfl) | simp [PX.get]), (by first | rfl | (simp only [List.length_map]; rfl) | simp [PX.get]), (by first | rfl | (simp only [List.length_map]; rfl) | simp [PX.get]), (by first | rfl | (simp only [List.length_map]; rfl) | simp [PX.get]), trivial⟩ ⟨(by first | rfl | (simp only [List.length_map]; rfl) | simp [PX.get]), (by first | rfl | (simp only [List.length_map]; rfl) | simp [PX.get]), trivial⟩)
  clear hit g0
  rintro ⟨st, g0⟩ ⟨h1, h2, hit⟩
  simp only at h1 h2 hit
  conv => whnf
  refine brk_i (fun h3 => ?_) (fun h3 => ?_)
  · have h3 : st ≤ x.start.hi := by simpa using h3
    obtain ⟨m, hm⟩ : ∃ m, (x.start.hi + 1 - st).toNat = m + 1 := ⟨(x.start.hi - st).toNat, by omega⟩
    have hm2 : (x.start.hi + 1 - (st + 1)).toNat = m := by omega
    rw [hm, upto, List.flatMap_cons, List.map_append, List.map_map] at hit
    conv => whnf
    refine CallA_rep (args' := .d (.agg [i64 st, .vs [], .vs []]) :: .d (i64 st) :: .d (i64 0) :: .d (i64 0) :: [.d (.ref [.ref (lampC x)]), .d (.ref [intsD w]), .d (.ref [.clo f caps]), .ptr 4 0, .ptr 5 0]) (fun yv L F w l h => by
      obtain ⟨y, l', rfl, p1, p2⟩ := h
      exact ⟨y, l', rfl, RepD.relax _ _ p1, p2⟩) ?_
    refine CallA_y (grunAll hR hw hww hwant w hup 0 st [] [] 0 st rfl (Nat.zero_le _) rfl rfl ⟨Int.le_refl _, ?_⟩ ⟨by omega, by omega⟩ Y g0 _ Q hit) [4, 5] rfl ⟨_, _, rfl, rfl, _, _, rfl, box_same rfl ⟨⟨rfl, rfl, rfl, rfl, ⟨rfl, rfl⟩, ⟨rfl, rfl⟩, trivial⟩, trivial⟩, rfl⟩ rfl rfl ?_
    · cases w with
      | nil => show 0 ≤ x.night; omega
      | cons e r => have := hww e (by simp); show 0 ≤ e; omega
    rintro v1 h1' g1 ⟨rfl, hpost⟩
    rcases hpost with ⟨rfl, hi⟩ | ⟨rfl, hq⟩
    · refine ⟨rfl, ?_⟩
      conv => whnf
      refine arith_in (wrap_i64 (by (try dsimp only); omega)) ?_
      conv => whnf
      exact ⟨(st + 1, g1), by simp only; omega, ⟨by simp only; omega, by simp only; omega, by simp only; rw [hm2]; exact hi⟩, Wk.sub ⟨rfl, rfl, rfl, rfl, rfl, rfl, trivial⟩ ⟨rfl, box_same rfl ⟨⟨rfl, rfl, rfl, rfl, ⟨rfl, rfl⟩, ⟨rfl, rfl⟩, trivial⟩, trivial⟩, trivial⟩⟩
    · refine ⟨rfl, ?_⟩
      conv => whnf
      exact RetA_view 0 rfl ⟨rfl, hq⟩
  · have h3 : ¬ st ≤ x.start.hi := by simpa using h3
    rw [show (x.start.hi + 1 - st).toNat = 0 by omega] at hit
    conv => whnf
    exact RetA_view 0 rfl ⟨rfl, hit⟩
end Go.PX

namespace Go.PX
open Go.Proofs

/- Lamp: agree (the program). -/

def kvD (m : List (Int × Int)) : List (D × D) := m.map fun p => (i64 p.1, i64 p.2)

def lookM : List (Int × Int) → Int → Int
  | [], _ => 0
  | (a, b) :: r, k => if k = a then b else lookM r k

def updM : List (Int × Int) → Int → Int → List (Int × Int)
  | [], k, v => [(k, v)]
  | (a, b) :: r, k, v => if k = a then (k, v) :: r else (a, b) :: updM r k v

theorem findM_aux (k : Int) : ∀ (m : List (Int × Int)) (n : Nat), (∃ i v, findD (i64 k) (kvD m) n = some (some (n + i, i64 v)) ∧ lookM m k = v ∧ ∀ u, (kvD m).set i (i64 k, i64 u) = kvD (updM m k u)) ∨
    (findD (i64 k) (kvD m) n = some none ∧ lookM m k = 0 ∧ ∀ u, kvD m ++ [(i64 k, i64 u)] = kvD (updM m k u))
  | [], n => .inr ⟨rfl, rfl, fun u => rfl⟩
  | (a, b) :: r, n => by
    have hs : sameD (i64 k) (i64 a) = some (decide (k = a)) := by simp [sameD, i64]
    by_cases h : k = a
    · left
      refine ⟨0, b, ?_, by simp [lookM, h], fun u => by simp [updM, kvD, h]⟩
      show (match sameD (i64 k) (i64 a) with
        | some true => some (some (n, i64 b))
        | some false => findD (i64 k) (kvD r) (n + 1)
        | none => none) = _
      rw [hs, decide_eq_true h]; rfl
    · have hf : findD (i64 k) (kvD ((a, b) :: r)) n = findD (i64 k) (kvD r) (n + 1) := by
        show (match sameD (i64 k) (i64 a) with
          | some true => some (some (n, i64 b))
          | some false => findD (i64 k) (kvD r) (n + 1)
          | none => none) = _
        rw [hs, decide_eq_false h]
      rcases findM_aux k r (n + 1) with ⟨i, v, h1, h2, h3⟩ | ⟨h1, h2, h3⟩
      · left
        refine ⟨i + 1, v, by rw [hf, h1, show n + 1 + i = n + (i + 1) by omega], by simp [lookM, h, h2], fun u => ?_⟩
        simp only [updM, if_neg h]
        show ((i64 a, i64 b) :: kvD r).set (i + 1) _ = (i64 a, i64 b) :: kvD (updM r k u)
        rw [List.set_cons_succ, h3]
      · right
        refine ⟨by rw [hf, h1], by simp [lookM, h, h2], fun u => ?_⟩
        simp only [updM, if_neg h]
        show (i64 a, i64 b) :: (kvD r ++ _) = (i64 a, i64 b) :: kvD (updM r k u)
        rw [h3]

theorem findM (m : List (Int × Int)) (k : Int) : (∃ i v, findD (i64 k) (kvD m) 0 = some (some (i, i64 v)) ∧ lookM m k = v ∧ ∀ u, (kvD m).set i (i64 k, i64 u) = kvD (updM m k u)) ∨
    (findD (i64 k) (kvD m) 0 = some none ∧ lookM m k = 0 ∧ ∀ u, kvD m ++ [(i64 k, i64 u)] = kvD (updM m k u)) := by
  rcases findM_aux k m 0 with ⟨i, v, h⟩ | h
  · exact .inl ⟨i, v, by simpa using h⟩
  · exact .inr h

/-- A map of integers is asked. -/
theorem findK_look {m : List (Int × Int)} {k : Int} {K : V → Prop} {X : Option (Nat × D) → Prop} (hX : ∀ n, X (some (n, i64 (lookM m k))) = K (.d (i64 (lookM m k)))) (hN : lookM m k = 0 → X none = K (.d (i64 0))) (h : K (.d (i64 (lookM m k)))) : findK (kvD m) (i64 k) X := by
  rcases findM m k with ⟨i, v, h1, h2, _⟩ | ⟨h1, h2, _⟩
  · refine ⟨_, h1, ?_⟩
    rw [← h2, hX]; exact h
  · refine ⟨_, h1, ?_⟩
    rw [hN h2]
    rwa [h2] at h

def wantBit (b : Bool) : Int := if b then 2 else 1
def wantStep (m : List (Int × Int)) (s : LSight) : List (Int × Int) := updM m s.second (bitsI .or .i64 (lookM m s.second) (wantBit s.lit))
def wantM (l : List LSight) : List (Int × Int) := l.foldl wantStep []
def wantF (m : List (Int × Int)) (s : Int) (b : Bool) : Bool := decide (bitsI .and .i64 (lookM m s) (if b then 1 else 2) = 0)

theorem la111 (m : List (Int × Int)) (s : Int) (b : Bool) : FnV Try.prog 111 [i64 s, .bool b, .ref [.mv (kvD m)]] (.bool (wantF m s b)) := by
  refine fnV_of mixed tysOk Try.func111 rfl (ft := ft111) 3 (by decide +kernel) (by rfl) fun {σ} Y st => ?_
  conv => whnf
  cases b with
  | true =>
    conv => whnf
    rcases findM m s with ⟨i, v, h1, h2, _⟩ | ⟨h1, h2, _⟩
    · refine ⟨_, h1, ?_⟩
      conv => whnf
      unfold wantF
      rw [h2]
      exact RetA_view 0 rfl ⟨⟨rfl, rfl⟩, rfl⟩
    · refine ⟨_, h1, ?_⟩
      conv => whnf
      unfold wantF
      rw [h2]
      exact RetA_view 0 rfl ⟨⟨rfl, rfl⟩, rfl⟩
  | false =>
    conv => whnf
    rcases findM m s with ⟨i, v, h1, h2, _⟩ | ⟨h1, h2, _⟩
    · refine ⟨_, h1, ?_⟩
      conv => whnf
      unfold wantF
      rw [h2]
      exact RetA_view 0 rfl ⟨⟨rfl, rfl⟩, rfl⟩
    · refine ⟨_, h1, ?_⟩
      conv => whnf
      unfold wantF
      rw [h2]
      exact RetA_view 0 rfl ⟨⟨rfl, rfl⟩, rfl⟩

noncomputable def agreeD (c : LCase) : D := .clo 112 [.ref [.ref (lampC c.lamp)], .ref [intsD c.windings], .ref [.clo 111 [.ref [.mv (kvD (wantM c.sights))]]]]

def agL (c : LCase) : List (LTruth × List Bool) := truL c.lamp c.windings (wantF (wantM c.sights))

theorem wants_agree (c : LCase) : WantL c.lamp 111 [.ref [.mv (kvD (wantM c.sights))]] (wantF (wantM c.sights)) := fun s b _ => la111 _ s b

theorem la76 (c : LCase) (hR : CaseL c) : FnV Try.prog 76 [c.d] (agreeD c) := by
  refine fnV_of mixed tysOk Try.func76 rfl (ft := ft76) 1 (by decide +kernel) (by rfl) fun {σ} Y st => ?_
  conv => whnf
  have hs8 := hR.sights
  refine LoopA_i (T := tys) tysOk (by exact drawsB_spec mixed tysOk (by decide +kernel)) c.sights (fun i (m : List (Int × Int)) => ⟨[(1, .ptr 1 0), (3, .ptr 3 0), (8, .d (sightsD c.sights)), (9, .d (i64 c.sights.length)), (10, .d (i64 i))], [(1, .box (.dd c.cells)), (6, .map (kvD m)), (3, .box (.vv [.mp 6]))], st⟩)
    (fun i r m => wantM c.sights = r.foldl wantStep m) [] (Wk.sub ⟨(by first | rfl | (simp only [List.length_map]; rfl) | simp [PX.get]), (by first | rfl | (simp only [List.length_map]; rfl) | simp [PX.get]), (by first | rfl | (simp only [List.length_map]; rfl) | simp [PX.get]), (by first | rfl | (simp only [List.length_map]; rfl) | simp [PX.get]), (by first | rfl | (simp only [List.length_map]; rfl) | simp [PX.get]), trivial⟩ ⟨(by first | rfl | (simp only [List.length_map]; rfl) | simp [PX.get]), (by first | rfl | (simp only [List.length_map]; rfl) | simp [PX.get]), (by first | rfl | (simp only [List.length_map]; rfl) | simp [PX.get]), trivial⟩) rfl ?_ ?_
  · intro i s r m hx hi hr he
    rw [List.foldl_cons] at he
    conv => whnf
    refine brk_i (fun _ => ?_) (fun h => absurd hi (by simpa using h))
    conv => whnf
    refine elemK_nat hx ?_
    conv => whnf
    cases hl : s.lit with
    | true =>
      conv => whnf
      rcases findM m s.second with ⟨i2, v, h1, h2, h3⟩ | ⟨h1, h2, h3⟩
      · refine ⟨_, h1, ?_⟩
        conv => whnf
        refine ⟨_, h1, ?_⟩
        conv => whnf
        refine arith_in (wrap_i64 (by (try dsimp only); omega)) ?_
        conv => whnf
        refine ⟨wantStep m s, he, Wk.sub ⟨rfl, rfl, rfl, rfl, rfl, trivial⟩ ⟨rfl, ?_, rfl, trivial⟩⟩
        show some (Obj.map ((kvD m).set i2 (i64 s.second, i64 (bitsI .or .i64 v 2)))) = some (Obj.map (kvD (wantStep m s)))
        rw [h3, wantStep, h2, hl]; rfl
      · refine ⟨_, h1, ?_⟩
        conv => whnf
        refine ⟨_, h1, ?_⟩
        conv => whnf
        refine arith_in (wrap_i64 (by (try dsimp only); omega)) ?_
        conv => whnf
        refine ⟨wantStep m s, he, Wk.sub ⟨rfl, rfl, rfl, rfl, rfl, trivial⟩ ⟨rfl, ?_, rfl, trivial⟩⟩
        show some (Obj.map (kvD m ++ [(i64 s.second, i64 (bitsI .or .i64 0 2))])) = some (Obj.map (kvD (wantStep m s)))
        rw [h3, wantStep, h2, hl]; rfl
    | false =>
      conv => whnf
      rcases findM m s.second with ⟨i2, v, h1, h2, h3⟩ | ⟨h1, h2, h3⟩
      · refine ⟨_, h1, ?_⟩
        conv => whnf
        refine ⟨_, h1, ?_⟩
        conv => whnf
        refine arith_in (wrap_i64 (by (try dsimp only); omega)) ?_
        conv => whnf
        refine ⟨wantStep m s, he, Wk.sub ⟨rfl, rfl, rfl, rfl, rfl, trivial⟩ ⟨rfl, ?_, rfl, trivial⟩⟩
        show some (Obj.map ((kvD m).set i2 (i64 s.second, i64 (bitsI .or .i64 v 1)))) = some (Obj.map (kvD (wantStep m s)))
        rw [h3, wantStep, h2, hl]; rfl
      · refine ⟨_, h1, ?_⟩
        conv => whnf
        refine ⟨_, h1, ?_⟩
        conv => whnf
        refine arith_in (wrap_i64 (by (try dsimp only); omega)) ?_
        conv => whnf
        refine ⟨wantStep m s, he, Wk.sub ⟨rfl, rfl, rfl, rfl, rfl, trivial⟩ ⟨rfl, ?_, rfl, trivial⟩⟩
        show some (Obj.map (kvD m ++ [(i64 s.second, i64 (bitsI .or .i64 0 1))])) = some (Obj.map (kvD (wantStep m s)))
        rw [h3, wantStep, h2, hl]; rfl
  · intro m he
    conv => whnf
    refine brk_i (fun h => absurd h (by simp)) (fun _ => ?_)
    conv => whnf
    refine DrawCall_v (la80 c.lamp hR.lamp) rfl rfl ?_
    conv => whnf
    refine DrawCall_fz (la81 c.lamp c.windings 111 [.ref [.mv (kvD m)]]) 3 ?_ rfl ?_
    · rfl
    conv => whnf
    refine RetA_view 0 rfl ⟨⟨?_, rfl⟩, rfl⟩
    rw [agreeD, he]
    rfl
end Go.PX

namespace Go.PX
open Go.Proofs

/- Lamp: all truths, and their courses (plain). -/

def speedsL (s : Span) : Nat → List (List Int)
  | 0 => [[]]
  | k + 1 => (spanL s).flatMap fun v => (speedsL s k).map (v :: ·)

def allT (x : LLamp) (w : List Int) : List LTruth := (spanL x.start).flatMap fun st => (speedsL x.speed (w.length + 1)).map fun l => ⟨st, l⟩

def okW (wf : Int → Bool → Bool) : Int → List Bool → Bool
  | _, [] => true
  | s, b :: r => wf s b && okW wf (s + 1) r

theorem okW_app {wf : Int → Bool → Bool} : ∀ {a b : List Bool} {s : Int}, okW wf s (a ++ b) = (okW wf s a && okW wf (s + a.length) b)
  | [], b, s => by simp [okW]
  | x :: a, b, s => by
    rw [List.cons_append, okW, okW, okW_app, Bool.and_assoc, List.length_cons, show s + 1 + (a.length : Int) = s + ((a.length + 1 : Nat) : Int) by omega]

/-- The seconds of a run. -/
def segC (x : LLamp) (v s0 : Int) : Nat → Int → Int → List Bool × Int
  | 0, _, a => ([], a)
  | k + 1, s, a => let p := segC x v s0 k (s + 1) (nextF x a v (s - s0)); (openB x a :: p.1, p.2)

theorem segC_len {x : LLamp} {v s0 : Int} : ∀ {k : Nat} {s a : Int}, (segC x v s0 k s a).1.length = k
  | 0, _, _ => rfl
  | k + 1, s, a => by simp [segC, segC_len]

theorem segF_eq {x : LLamp} {wf : Int → Bool → Bool} {v s0 : Int} : ∀ {k : Nat} {s a : Int} {acc : List Bool}, segF x wf v s0 k s a acc = if okW wf s (segC x v s0 k s a).1 then some (acc ++ (segC x v s0 k s a).1, (segC x v s0 k s a).2) else none
  | 0, s, a, acc => by simp [segF, segC, okW]
  | k + 1, s, a, acc => by
    have e1 : segC x v s0 (k + 1) s a = (openB x a :: (segC x v s0 k (s + 1) (nextF x a v (s - s0))).1, (segC x v s0 k (s + 1) (nextF x a v (s - s0))).2) := rfl
    have e2 : okW wf s (segC x v s0 (k + 1) s a).1 = (wf s (openB x a) && okW wf (s + 1) (segC x v s0 k (s + 1) (nextF x a v (s - s0))).1) := by rw [e1, okW]
    rw [segF]
    by_cases h : wf s (openB x a) = true
    · rw [if_pos h, segF_eq]
      by_cases h2 : okW wf (s + 1) (segC x v s0 k (s + 1) (nextF x a v (s - s0))).1 = true
      · rw [if_pos h2, if_pos (by rw [e2, h, h2]; rfl), e1]
        simp
      · rw [if_neg h2, if_neg (by rw [e2, h]; simpa using h2)]
    · rw [if_neg h, if_neg (by rw [e2]; simp [h])]

theorem courseF_seg {x : LLamp} {w sp : List Int} {n : Nat} {b : Int} : ∀ (j k : Nat) (s a : Int), (∀ e, w[n]? = some e → s + j ≤ e) → courseF x w sp (j + k) s a b n = (segC x (sp.getD n 0) b j s a).1 ++ courseF x w sp k (s + j) (segC x (sp.getD n 0) b j s a).2 b n
  | 0, k, s, a, _ => by simp [segC]
  | j + 1, k, s, a, h => by
    rw [show j + 1 + k = (j + k) + 1 by omega, courseF]
    have hne : ¬ w[n]? = some s := fun e => by have := h s e; omega
    rw [if_neg hne, courseF_seg j k (s + 1) _ (fun e he => by have := h e he; omega)]
    simp only [segC, List.cons_append]
    rw [show s + 1 + (j : Int) = s + ((j + 1 : Nat) : Int) by omega]

theorem courseF_wind {x : LLamp} {w sp : List Int} {n : Nat} {b : Int} {k : Nat} {s a : Int} (h : w[n]? = some s) (h2 : ¬ w[n + 1]? = some s) : courseF x w sp k s a b n = courseF x w sp k s a s (n + 1) := by
  cases k with
  | zero => rfl
  | succ k =>
    rw [courseF, courseF, if_pos h, if_neg h2, Int.sub_self]

theorem flatMap_congr' {α β : Type} {f g : α → List β} : ∀ {l : List α}, (∀ a ∈ l, f a = g a) → l.flatMap f = l.flatMap g
  | [], _ => rfl
  | a :: r, h => by rw [List.flatMap_cons, List.flatMap_cons, h a (by simp), flatMap_congr' fun b hb => h b (by simp [hb])]

theorem filter_flatMap' {α β : Type} {f : α → List β} {p : β → Bool} : ∀ {l : List α}, (l.flatMap f).filter p = l.flatMap fun a => (f a).filter p
  | [] => rfl
  | a :: r => by rw [List.flatMap_cons, List.flatMap_cons, List.filter_append, filter_flatMap']

theorem map_flatMap' {α β γ : Type} {f : α → List β} {g : β → γ} : ∀ {l : List α}, (l.flatMap f).map g = l.flatMap fun a => (f a).map g
  | [] => rfl
  | a :: r => by rw [List.flatMap_cons, List.flatMap_cons, List.map_append, map_flatMap']

/-- Windings that ascend, from a second on. -/
def upF (x : LLamp) : Int → List Int → Prop
  | s, [] => s ≤ x.night
  | s, e :: r => s < e ∧ e ≤ x.night - 1 ∧ upF x e r

theorem runsL_all {x : LLamp} {w : List Int} {wf : Int → Bool → Bool} : ∀ (rem : List Int) (s0 a : Int) (sp : List Int) (lit : List Bool), w.drop sp.length = rem → sp.length ≤ w.length → 0 ≤ s0 → (upF x s0 rem) →
    runsL x wf rem s0 a sp lit = ((speedsL x.speed (rem.length + 1)).filter fun l => okW wf s0 (courseF x w (sp ++ l) (x.night - s0).toNat s0 a s0 sp.length)).map fun l => (sp ++ l, lit ++ courseF x w (sp ++ l) (x.night - s0).toNat s0 a s0 sp.length)
  | [], s0, a, sp, lit, hd, hl, h0, hu => by
    have hge : w.length ≤ sp.length := List.drop_eq_nil_iff.1 hd
    have hu : s0 ≤ x.night := hu
    rw [runsL, List.length_nil, speedsL, filter_flatMap', map_flatMap']
    refine flatMap_congr' fun v _ => ?_
    simp only [speedsL, List.map_cons, List.map_nil]
    have hsv : (sp ++ [v]).getD sp.length 0 = v := by simp [List.getD_eq_getElem?_getD]
    have hc := courseF_seg (x := x) (w := w) (sp := sp ++ [v]) (n := sp.length) (b := s0) (x.night - s0).toNat 0 s0 a (fun e he => by rw [List.getElem?_eq_none (by omega)] at he; cases he)
    rw [Nat.add_zero, courseF, List.append_nil, hsv] at hc
    rw [segF_eq, ← hc]
    cases hw : okW wf s0 (courseF x w (sp ++ [v]) (x.night - s0).toNat s0 a s0 sp.length) with
    | true => simp [hw]
    | false => simp [hw]
  | e :: r, s0, a, sp, lit, hd, hl, h0, hu => by
    obtain ⟨h1, h2, h3⟩ := hu
    have hlt : sp.length < w.length := by
      rcases Nat.lt_or_ge sp.length w.length with h | h
      · exact h
      · rw [List.drop_eq_nil_of_le h] at hd; cases hd
    have hwe : w[sp.length]? = some e := by rw [← List.head?_drop, hd]; rfl
    have hd2 : w.drop (sp.length + 1) = r := by rw [← List.drop_drop, hd]; rfl
    have hw2 : ¬ w[sp.length + 1]? = some e := by
      rw [← List.head?_drop, hd2]
      cases r with
      | nil => simp
      | cons e2 r2 => have := h3.1; simp; omega
    rw [runsL, List.length_cons, speedsL, filter_flatMap', map_flatMap']
    refine flatMap_congr' fun v _ => ?_
    have hlen : (sp ++ [v]).length = sp.length + 1 := by simp
    have hih : ∀ a' lit', runsL x wf r e a' (sp ++ [v]) lit' = _ := fun a' lit' => runsL_all r e a' (sp ++ [v]) lit' (by rw [hlen]; exact hd2) (by rw [hlen]; omega) (by omega) h3
    have hc : ∀ l, courseF x w (sp ++ v :: l) (x.night - s0).toNat s0 a s0 sp.length = (segC x v s0 (e - s0).toNat s0 a).1 ++ courseF x w (sp ++ [v] ++ l) (x.night - e).toNat e (segC x v s0 (e - s0).toNat s0 a).2 e (sp ++ [v]).length := by
      intro l
      have hsv : (sp ++ v :: l).getD sp.length 0 = v := by simp [List.getD_eq_getElem?_getD]
      have hc := courseF_seg (x := x) (w := w) (sp := sp ++ v :: l) (n := sp.length) (b := s0) (e - s0).toNat (x.night - e).toNat s0 a (fun e' he => by rw [hwe] at he; cases he; omega)
      rw [hsv, show (e - s0).toNat + (x.night - e).toNat = (x.night - s0).toNat by omega, show s0 + ((e - s0).toNat : Int) = e by omega, courseF_wind hwe hw2] at hc
      rw [hc, hlen, List.append_assoc]; rfl
    rw [segF_eq]
    have hpl : (s0 + ((segC x v s0 (e - s0).toNat s0 a).1.length : Int)) = e := by rw [segC_len]; omega
    generalize hS : segC x v s0 (e - s0).toNat s0 a = S at hc hpl ⊢
    rw [List.filter_map, List.map_map]
    cases hw : okW wf s0 S.1 with
    | true =>
      rw [if_pos rfl]
      show runsL x wf r e S.2 (sp ++ [v]) (lit ++ S.1) = _
      rw [hih]
      have hp : (fun l => okW wf e (courseF x w (sp ++ [v] ++ l) (x.night - e).toNat e S.2 e (sp ++ [v]).length)) = ((fun l => okW wf s0 (courseF x w (sp ++ l) (x.night - s0).toNat s0 a s0 sp.length)) ∘ fun x => v :: x) := by
        funext l
        simp only [Function.comp]
        rw [hc, okW_app, hw, Bool.true_and, hpl]
      rw [hp]
      refine List.map_congr_left fun l _ => ?_
      simp only [Function.comp]
      rw [hc]
      simp
    | false =>
      rw [if_neg (by simp)]
      have hp : ((fun l => okW wf s0 (courseF x w (sp ++ l) (x.night - s0).toNat s0 a s0 sp.length)) ∘ fun x => v :: x) = fun _ => false := by
        funext l
        simp only [Function.comp]
        rw [hc, okW_app, hw, Bool.false_and]
      rw [hp]
      simp

theorem windF_upF {x : LLamp} : ∀ {l : List Int} {last i : Int}, (windF x.night last l i).2 = 0 → last ≤ x.night → upF x last l
  | [], _, _, _, h0 => h0
  | s :: r, last, i, h, h0 => by
    rw [windF] at h
    split at h
    case isFalse => cases h
    rename_i h1
    rw [inB_iff] at h1
    split at h
    · cases h
    rename_i h2
    exact ⟨by omega, by omega, windF_upF h (by omega)⟩

theorem truL_all {x : LLamp} {w : List Int} {wf : Int → Bool → Bool} (hu : upF x 0 w) : truL x w wf = ((allT x w).filter fun t => okW wf 0 (courseL x w t)).map fun t => (t, courseL x w t) := by
  unfold truL allT
  rw [filter_flatMap', map_flatMap']
  refine flatMap_congr' fun st _ => ?_
  rw [runsL_all w 0 st [] [] rfl (Nat.zero_le _) (Int.le_refl _) hu, List.filter_map, List.map_map, List.map_map]
  simp only [List.nil_append, Int.sub_zero]
  rfl
end Go.PX

namespace Go.PX
open Go.Proofs

/- Lamp: At (the program). -/

theorem mem_upto : ∀ {k : Nat} {v u : Int}, u ∈ upto k v ↔ v ≤ u ∧ u < v + k
  | 0, v, u => by
    simp only [upto, List.not_mem_nil, false_iff]
    omega
  | k + 1, v, u => by
    rw [upto, List.mem_cons, mem_upto]
    omega

theorem mem_spanL {s : Span} {u : Int} : u ∈ spanL s ↔ s.lo ≤ u ∧ u ≤ s.hi := by
  unfold spanL
  rw [mem_upto]
  omega

theorem mem_speedsL {s : Span} : ∀ {k : Nat} {l : List Int}, l ∈ speedsL s k ↔ l.length = k ∧ ∀ v ∈ l, s.lo ≤ v ∧ v ≤ s.hi
  | 0, l => by
    rw [speedsL, List.mem_singleton, List.length_eq_zero_iff]
    constructor
    · rintro rfl; exact ⟨rfl, by simp⟩
    · exact fun h => h.1
  | k + 1, l => by
    rw [speedsL, List.mem_flatMap]
    constructor
    · rintro ⟨v, hv, hl⟩
      obtain ⟨r, hr, rfl⟩ := List.mem_map.1 hl
      obtain ⟨h1, h2⟩ := mem_speedsL.1 hr
      refine ⟨by simp [h1], fun u hu => ?_⟩
      rcases List.mem_cons.1 hu with rfl | hu
      · exact mem_spanL.1 hv
      · exact h2 u hu
    · rintro ⟨h1, h2⟩
      cases l with
      | nil => simp at h1
      | cons v r =>
        exact ⟨v, mem_spanL.2 (h2 v (by simp)), List.mem_map.2 ⟨r, mem_speedsL.2 ⟨by simpa using h1, fun u hu => h2 u (by simp [hu])⟩, rfl⟩⟩

theorem mem_allT {c : LCase} {t : LTruth} : t ∈ allT c.lamp c.windings ↔ TruthR c t := by
  unfold allT
  rw [List.mem_flatMap]
  constructor
  · rintro ⟨st, h1, h2⟩
    obtain ⟨l, hl, rfl⟩ := List.mem_map.1 h2
    obtain ⟨h3, h4⟩ := mem_speedsL.1 hl
    exact ⟨mem_spanL.1 h1, h3, h4⟩
  · intro h
    exact ⟨t.start, mem_spanL.2 h.start, List.mem_map.2 ⟨t.speeds, mem_speedsL.2 ⟨h.len, h.speed⟩, rfl⟩⟩

theorem CaseL.up {c : LCase} (h0 : (checkL c).2.2 = 0) : upF c.lamp 0 c.windings ∧ upW c.lamp c.windings := by
  have hn := (checkL_ok h0).lamp.night
  unfold checkL at h0
  split at h0
  case isFalse => rename_i h1; exact absurd h0 h1
  split at h0
  · cases h0
  split at h0
  case isFalse => rename_i h3; exact absurd h0 h3
  rename_i h3
  exact ⟨windF_upF h3 (by omega), (windF_up h3).1⟩

theorem agL_ok {c : LCase} (h0 : (checkL c).2.2 = 0) {p : LTruth × List Bool} (hp : p ∈ agL c) : TruthR c p.1 ∧ p.2 = courseL c.lamp c.windings p.1 ∧ p.2.length = c.lamp.night.toNat := by
  unfold agL at hp
  rw [truL_all (CaseL.up h0).1] at hp
  obtain ⟨t, ht, rfl⟩ := List.mem_map.1 hp
  exact ⟨mem_allT.1 (List.mem_filter.1 ht).1, rfl, by simp only [courseL, courseF_len]⟩

theorem yields_agree {c : LCase} (h0 : (checkL c).2.2 = 0) : Yields Try.prog 112 [.ref [.ref (lampC c.lamp)], .ref [intsD c.windings], .ref [.clo 111 [.ref [.mv (kvD (wantM c.sights))]]]] ((agL c).map shownV) := by
  have hR := checkL_ok h0
  exact fun {γ} => yields112 hR.lamp hR.winds hR.wind (CaseL.up h0).2 (wants_agree c)

def atStep (s : Int) (k : Int) (p : LTruth × List Bool) : Int := bitsI .or .i64 k (if p.2.getD s.toNat false then 2 else 1)
def atK (l : List (LTruth × List Bool)) (s : Int) : Int := l.foldl (atStep s) 0
def atE (c : LCase) (s : Int) : Int := if (checkL c).2.2 = 0 then (if inB s 0 (c.lamp.night - 1) then (if atK (agL c) s = 0 then 9 else 0) else 7) else (checkL c).2.2
def atV (c : LCase) (s : Int) : Int := if atE c s = 0 then (if atK (agL c) s = 1 then 0 else if atK (agL c) s = 2 then 1 else 2) else 0

set_option maxHeartbeats 1000000 in
theorem la25 (c : LCase) (s : Int) : FnV Try.prog 25 [c.d, i64 s] (.tup [i64 (atV c s), i64 (atE c s)]) := by
  refine fnV_of mixed tysOk Try.func25 rfl (ft := ft25) 2 (by decide +kernel) (by rfl) fun {σ} Y st => ?_
  conv => whnf
  refine CallA_v (la15 c) rfl rfl ?_
  conv => whnf
  by_cases h0 : (checkL c).2.2 = 0
  case neg =>
    have he : atE c s = (checkL c).2.2 := by unfold atE; rw [if_neg h0]
    have hv : atV c s = 0 := by unfold atV; rw [he, if_neg h0]
    rw [he, hv]
    refine brk_i (fun _ => ?_) (fun h1 => absurd h1 (by simp [h0]))
    conv => whnf
    exact RetA_view 0 rfl ⟨⟨rfl, rfl⟩, rfl⟩
  have hR := checkL_ok h0
  have hn := hR.lamp.night
  refine brk_i (fun h1 => absurd h1 (by simp [h0])) (fun _ => ?_)
  conv => whnf
  refine arith_in (wrap_i64 (by (try dsimp only); omega)) ?_
  conv => whnf
  refine CallA_view (fn51_1 0 (c.lamp.night - 1) s) rfl 1 rfl ?_
  conv => whnf
  by_cases h1 : inB s 0 (c.lamp.night - 1) = true
  case neg =>
    have he : atE c s = 7 := by unfold atE; rw [if_pos h0, if_neg h1]
    have hv : atV c s = 0 := by unfold atV; rw [he]; rfl
    rw [he, hv]
    have h1 : inB s 0 (c.lamp.night - 1) = false := by simpa using h1
    rw [h1]
    conv => whnf
    exact RetA_view 0 rfl ⟨⟨rfl, rfl⟩, rfl⟩
  have he : atE c s = if atK (agL c) s = 0 then 9 else 0 := by unfold atE; rw [if_pos h0, if_pos h1]
  rw [h1]
  rw [inB_iff] at h1
  conv => whnf
  refine CallA_v (la76 c hR) rfl rfl ?_
  conv => whnf
  refine RangeA_list tysOk (by exact drawsB_spec mixed tysOk (by decide +kernel)) (by exact drawsB_spec mixed tysOk (by decide +kernel)) rfl 1500000 1600000 [2, 3, 27, 9] (by exact yields_agree h0)
    (fun (k : Int) => ([(1500000, .box (.dd c.cells)), (1500001, .box (.dd [i64 s])), (1500002, .arr 1 (.dd [[i64 s]])), (1500003, .box (.dd [i64 k]))], st))
    (fun rest k => atK (agL c) s = rest.foldl (atStep s) k ∧ ∀ p ∈ rest, p.2.length = c.lamp.night.toNat) 0 rfl rfl rfl ⟨rfl, fun p hp => (agL_ok h0 hp).2.2⟩ ?_ ?_
  · rintro ⟨t, lit⟩ rest k ⟨hk, hl⟩ Q hQ1 -
    refine ⟨⟨rfl, rfl⟩, ?_⟩
    have hll := hl (t, lit) (by simp)
    simp only at hll
    rw [List.foldl_cons] at hk
    have hs : s.toNat < lit.length := by omega
    have hg : lit.getD s.toNat false = lit[s.toNat] := by simp [List.getD_eq_getElem?_getD, hs]
    conv => whnf
    refine elemK_i [.bool lit[s.toNat]] ⟨h1.1, by simp [hs]⟩ ?_
    have hrest : ∀ p ∈ rest, p.2.length = c.lamp.night.toNat := fun p hp => hl p (by simp [hp])
    cases hb : lit[s.toNat] with
    | true =>
      have hst : atStep s k (t, lit) = bitsI .or .i64 k 2 := by unfold atStep; simp only [hg, hb, if_true]
      rw [hst] at hk
      conv => whnf
      exact ⟨bitsI .or .i64 k 2, (Wk.sub trivial ⟨(by first | rfl | (simp only [List.length_map]; rfl) | simp [PX.get]), (by first | rfl | (simp only [List.length_map]; rfl) | simp [PX.get]), (by first | rfl | (simp only [List.length_map]; rfl) | simp [PX.get]), (by first | rfl | (simp only [List.length_map]; rfl) | simp [PX.get]), trivial⟩), rfl, hQ1 _ ⟨hk, hrest⟩⟩
    | false =>
      have hst : atStep s k (t, lit) = bitsI .or .i64 k 1 := by unfold atStep; simp only [hg, hb]; rfl
      rw [hst] at hk
      conv => whnf
      exact ⟨bitsI .or .i64 k 1, (Wk.sub trivial ⟨(by first | rfl | (simp only [List.length_map]; rfl) | simp [PX.get]), (by first | rfl | (simp only [List.length_map]; rfl) | simp [PX.get]), (by first | rfl | (simp only [List.length_map]; rfl) | simp [PX.get]), (by first | rfl | (simp only [List.length_map]; rfl) | simp [PX.get]), trivial⟩), rfl, hQ1 _ ⟨hk, hrest⟩⟩
  · rintro k ⟨hk, _⟩
    simp only [List.foldl_nil] at hk
    conv => whnf
    rw [← hk] 
    by_cases k0 : atK (agL c) s = 0
    · have hv : atV c s = 0 := by unfold atV; rw [he, if_pos k0]; rfl
      rw [he, if_pos k0, hv]
      refine brk_i (fun _ => ?_) (fun h => absurd h (by simp [k0]))
      conv => whnf
      exact RetA_view 0 rfl ⟨⟨rfl, rfl⟩, rfl⟩
    rw [if_neg k0] at he
    have hv : atV c s = if atK (agL c) s = 1 then 0 else if atK (agL c) s = 2 then 1 else 2 := by unfold atV; rw [he, if_pos rfl]
    rw [he, hv]
    refine brk_i (fun h => absurd h (by simp [k0])) (fun _ => ?_)
    conv => whnf
    by_cases k1 : atK (agL c) s = 1
    · rw [if_pos k1]
      refine brk_i (fun _ => ?_) (fun h => absurd h (by simp [k1]))
      conv => whnf
      exact RetA_view 0 rfl ⟨⟨rfl, rfl⟩, rfl⟩
    rw [if_neg k1]
    refine brk_i (fun h => absurd h (by simp [k1])) (fun _ => ?_)
    conv => whnf
    by_cases k2 : atK (agL c) s = 2
    · rw [if_pos k2]
      refine brk_i (fun _ => ?_) (fun h => absurd h (by simp [k2]))
      conv => whnf
      exact RetA_view 0 rfl ⟨⟨rfl, rfl⟩, rfl⟩
    rw [if_neg k2]
    refine brk_i (fun h => absurd h (by simp [k2])) (fun _ => ?_)
    conv => whnf
    exact RetA_view 0 rfl ⟨⟨rfl, rfl⟩, rfl⟩
end Go.PX
