import Derived.Test.YtpocldjdlookjaaPxN
import Derived.Test.YtpocldjdlookjaaPxM
import Derived.Test.YtpocldjdlookjaaPxJ
set_option linter.all false
set_option maxRecDepth 10000
namespace Go.PX
open Go.Proofs
def noP (c : WCase) (k : Int) (m : Int) : Bool := decide (k ∈ (manAt c m).no)
def runP (c : WCase) (h : List (List Int)) (m : Int) : Bool := decide (rowH m h ≥ c.run)
def restP (c : WCase) (h : List (List Int)) (m : Int) : Bool := decide (restH m h > 0) && decide (restH m h < c.rest)
def slotI (c : WCase) (n : Nat) : Int := (n : Int).tmod c.slots.length
def slotOf (c : WCase) (n : Nat) : Slot := (c.slots[(slotI c n).toNat]?).getD ⟨0, 0⟩
def whyR (c : WCase) (rota : List (List Int)) (group : List Int) : Int × Int :=
 if (group.length : Int) ≠ (slotOf c rota.length).men then (1, 0)
 else if !group.any (fun m => decide ((manAt c m).kind ≥ (slotOf c rota.length).least)) then (2, 0)
 else match group.find? (noP c (slotI c rota.length)) with
  | some m => (3, m)
  | none => match group.find? (runP c rota.reverse) with
   | some m => (4, m)
   | none => match group.find? (restP c rota.reverse) with
    | some m => (5, m)
    | none => (0, 0)
theorem slotI_bd {c : WCase} (hR : WR c) (n : Nat) : 0 ≤ slotI c n ∧ slotI c n < c.slots.length := by
 have hs := hR.slots
 exact ⟨Int.tmod_nonneg _ (by omega), Int.tmod_lt_of_pos _ (by omega)⟩
theorem wa71 (c : WCase) (hR : WR c) (rota : List (List Int)) (hl : rota.length < 1000000) (hr : ∀ r ∈ rota, r.length < 1000000) (group : List Int) (hg : RowIn c group) (hgl : group.length < 1000000) :
  FnV Try.prog 71 [c.d, rotaD rota, intsD group] (.tup [i64 (whyR c rota group).1, i64 (whyR c rota group).2]) := by
 refine fnV_of mixed tysOk Try.func71 rfl (ft := ft71) 3 (by decide +kernel) (by rfl) fun {σ} Y st => ?_
 conv=>whnf
 have hm := hR.men
 have hs := hR.slots
 have hk := slotI_bd hR rota.length
 obtain ⟨s, hsl⟩ : ∃ s, c.slots[(slotI c rota.length).toNat]? = some s := ⟨c.slots[(slotI c rota.length).toNat]'(by omega), by simp⟩
 have hso : slotOf c rota.length = s := by simp [slotOf, hsl]
 have hel : ∀ m ∈ group, ∃ (j : Nat) (x : Man), m = (j : Int) ∧ c.men[j]? = some x ∧ manAt c m = x := by
  intro m hm
  obtain ⟨h1, h2⟩ := hg m hm
  have hk : m.toNat < c.men.length := by omega
  exact ⟨m.toNat, c.men[m.toNat], by omega, by simp [hk], by simp [manAt, hk]⟩
 refine chk_i (decide_eq_true (by rw [List.length_map]; omega)) ?_
 conv=>whnf
 rw [List.length_map, List.length_map]
 have hkd : ((rota.length : Int).tmod (c.slots.length : Int)) = slotI c rota.length := rfl
 rw [hkd]
 unfold whyR
 rw [hso]
 refine elemK_i s.cells ⟨hk.1, by simp [hsl]⟩ ?_
 conv=>whnf
 refine brk_i (fun h0 => ?_) (fun h0 => ?_)
 ·have h0 : (group.length : Int) ≠ s.men := by simpa using h0
  conv=>whnf
  rw [if_pos h0]
  exact RetA_view 0 rfl ⟨⟨rfl, rfl⟩, rfl⟩
 have h0 : (group.length : Int) = s.men := by simpa using h0
 rw [if_neg (by simpa using h0)]
 conv=>whnf
 generalize hany : group.any (fun m => decide ((manAt c m).kind ≥ s.least)) = A
 refine LoopA_i (T := tys) tysOk (by exact drawsB_spec mixed tysOk (by decide +kernel)) group (fun i (b : Bool) => ⟨[(1, .d (rotaD rota)), (2, .d (intsD group)), (3, .ptr 3 0), (6, .d (i64 0)), (7, .d (i64 0)), (8, .d (i64 (slotI c rota.length))), (9, .d (.bool b)), (10, .d (i64 i))], [(3, .box (.dd c.cells))], st⟩)
  (fun i r b => A = (b || r.any fun m => decide ((manAt c m).kind ≥ s.least))) false (Wk.sub ⟨(by first | rfl | (simp only [List.length_map]; rfl) | simp [PX.get]), (by first | rfl | (simp only [List.length_map]; rfl) | simp [PX.get]), (by first | rfl | (simp only [List.length_map]; rfl) | simp [PX.get]), (by first | rfl | (simp only [List.length_map]; rfl) | simp [PX.get]), (by first | rfl | (simp only [List.length_map]; rfl) | simp [PX.get]), (by first | rfl | (simp only [List.length_map]; rfl) | simp [PX.get]), (by first | rfl | (simp only [List.length_map]; rfl) | simp [PX.get]), (by first | rfl | (simp only [List.length_map]; rfl) | simp [PX.get]), trivial⟩ ⟨(by first | rfl | (simp only [List.length_map]; rfl) | simp [PX.get]), trivial⟩) (by rw [← hany]; rfl) ?_ ?_
 ·intro i x r b hx hi hr2 he
  obtain ⟨j, y, rfl, hj, hmy⟩ := hel x (List.mem_of_getElem? hx)
  rw [List.any_cons, hmy] at he
  conv=>whnf
  refine brk_i (fun _ => ?_) (fun h => absurd hi (by have := of_decide_eq_false h; simp at this; omega))
  conv=>whnf
  cases b with
  | true =>
   conv=>whnf
   refine arith_in (wrap_i64 (by (try dsimp only); omega)) ?_
   conv=>whnf
   exact ⟨true, by rw [he]; rfl, (Wk.sub ⟨(by first | rfl | (simp only [List.length_map]; rfl) | simp [PX.get]), (by first | rfl | (simp only [List.length_map]; rfl) | simp [PX.get]), (by first | rfl | (simp only [List.length_map]; rfl) | simp [PX.get]), (by first | rfl | (simp only [List.length_map]; rfl) | simp [PX.get]), (by first | rfl | (simp only [List.length_map]; rfl) | simp [PX.get]), (by first | rfl | (simp only [List.length_map]; rfl) | simp [PX.get]), (by first | rfl | (simp only [List.length_map]; rfl) | simp [PX.get]), (by first | rfl | (simp only [List.length_map]; rfl) | simp [PX.get]), trivial⟩ ⟨(by first | rfl | (simp only [List.length_map]; rfl) | simp [PX.get]), trivial⟩)⟩
  | false =>
   conv=>whnf
   refine elemK_nat hx ?_
   conv=>whnf
   refine elemK_nat hj ?_
   conv=>whnf
   refine elemK_i s.cells ⟨hk.1, by simp [hsl]⟩ ?_
   conv=>whnf
   refine arith_in (wrap_i64 (by (try dsimp only); omega)) ?_
   conv=>whnf
   exact ⟨decide (y.kind ≥ s.least), by rw [he]; rfl, (Wk.sub ⟨(by first | rfl | (simp only [List.length_map]; rfl) | simp [PX.get]), (by first | rfl | (simp only [List.length_map]; rfl) | simp [PX.get]), (by first | rfl | (simp only [List.length_map]; rfl) | simp [PX.get]), (by first | rfl | (simp only [List.length_map]; rfl) | simp [PX.get]), (by first | rfl | (simp only [List.length_map]; rfl) | simp [PX.get]), (by first | rfl | (simp only [List.length_map]; rfl) | simp [PX.get]), (by first | rfl | (simp only [List.length_map]; rfl) | simp [PX.get]), (by first | rfl | (simp only [List.length_map]; rfl) | simp [PX.get]), trivial⟩ ⟨(by first | rfl | (simp only [List.length_map]; rfl) | simp [PX.get]), trivial⟩)⟩
 intro b he
 have he : A = b := by simpa using he
 subst he
 conv=>whnf
 refine brk_i (fun h => absurd h (by simp)) (fun _ => ?_)
 conv=>whnf
 cases A with
 | false =>
  conv=>whnf
  exact RetA_view 0 rfl ⟨⟨rfl, rfl⟩, rfl⟩
 | true =>
 conv=>whnf
 rw [if_neg (by simp)]
 generalize hf3 : group.find? (noP c (slotI c rota.length)) = f3
 generalize hf4 : group.find? (runP c rota.reverse) = f4
 generalize hf5 : group.find? (restP c rota.reverse) = f5
 refine LoopA_p (T := tys) tysOk (by exact drawsB_spec mixed tysOk (by decide +kernel)) (α := Nat) (fun w => ⟨[(1, .d (rotaD rota)), (2, .d (intsD group)), (3, .ptr 3 0), (6, .d (i64 0)), (7, .d (i64 0)), (8, .d (i64 (slotI c rota.length))), (11, .d (i64 w))], [(3, .box (.dd c.cells))], st⟩)
  (fun w => (3 ≤ w ∧ w ≤ 6) ∧ (4 ≤ w → f3 = none) ∧ (5 ≤ w → f4 = none) ∧ (6 ≤ w → f5 = none)) (fun w => 6 - w) 3 (Wk.sub ⟨(by first | rfl | (simp only [List.length_map]; rfl) | simp [PX.get]), (by first | rfl | (simp only [List.length_map]; rfl) | simp [PX.get]), (by first | rfl | (simp only [List.length_map]; rfl) | simp [PX.get]), (by first | rfl | (simp only [List.length_map]; rfl) | simp [PX.get]), (by first | rfl | (simp only [List.length_map]; rfl) | simp [PX.get]), (by first | rfl | (simp only [List.length_map]; rfl) | simp [PX.get]), (by first | rfl | (simp only [List.length_map]; rfl) | simp [PX.get]), trivial⟩ ⟨(by first | rfl | (simp only [List.length_map]; rfl) | simp [PX.get]), trivial⟩) ⟨by omega, by omega, by omega, by omega⟩ ?_
 rintro w ⟨hw, hw4, hw5, hw6⟩
 have h4 : w = 3 ∨ w = 4 ∨ w = 5 ∨ w = 6 := by omega
 rcases h4 with rfl | rfl | rfl | rfl
 ·conv=>whnf
  refine LoopA_i (T := tys) tysOk (by exact drawsB_spec mixed tysOk (by decide +kernel)) group (fun i (_ : Unit) => ⟨[(1, .d (rotaD rota)), (2, .d (intsD group)), (3, .ptr 3 0), (6, .d (i64 0)), (7, .d (i64 0)), (8, .d (i64 (slotI c rota.length))), (11, .d (i64 3)), (12, .d (i64 i))], [(3, .box (.dd c.cells))], st⟩) (fun i r _ => f3 = r.find? (noP c (slotI c rota.length))) () (Wk.sub ⟨(by first | rfl | (simp only [List.length_map]; rfl) | simp [PX.get]), (by first | rfl | (simp only [List.length_map]; rfl) | simp [PX.get]), (by first | rfl | (simp only [List.length_map]; rfl) | simp [PX.get]), (by first | rfl | (simp only [List.length_map]; rfl) | simp [PX.get]), (by first | rfl | (simp only [List.length_map]; rfl) | simp [PX.get]), (by first | rfl | (simp only [List.length_map]; rfl) | simp [PX.get]), (by first | rfl | (simp only [List.length_map]; rfl) | simp [PX.get]), (by first | rfl | (simp only [List.length_map]; rfl) | simp [PX.get]), trivial⟩ ⟨(by first | rfl | (simp only [List.length_map]; rfl) | simp [PX.get]), trivial⟩) hf3.symm ?_ ?_
  ·intro i x r _ hx hi hr2 he
   obtain ⟨j, y, rfl, hj, hmy⟩ := hel x (List.mem_of_getElem? hx)
   conv=>whnf
   refine brk_i (fun _ => ?_) (fun h => absurd hi (by have := of_decide_eq_false h; simp at this; omega))
   conv=>whnf
   refine elemK_nat hx ?_
   conv=>whnf
   refine CallA_v (ds := [rotaD rota, i64 j]) (wa95 rota j hl hr) rfl rfl ?_
   conv=>whnf
   have hno : y.no.length < 4000000000000000000 := by
    rcases ascF_len ((hR.man y (List.mem_of_getElem? hj)).2) with h | h
    ·rw [h]; simp
    ·omega
   have hp : noP c (slotI c rota.length) (j : Int) = decide (slotI c rota.length ∈ y.no) := by unfold noP; rw [hmy]
   rw [List.find?_cons, hp] at he
   refine elemK_nat hj ?_
   conv=>whnf
   refine DrawCall_v (ds := [intsD y.no, i64 (slotI c rota.length)]) (wa49 y.no _ hno) rfl rfl ?_
   conv=>whnf
   refine brk_i (fun h1 => ?_) (fun h1 => ?_)
   ·rw [h1] at he
    simp only at he
    conv=>whnf
    rw [he]
    exact RetA_view 0 rfl ⟨⟨rfl, rfl⟩, rfl⟩
   ·rw [h1] at he
    simp only at he
    conv=>whnf
    refine arith_in (wrap_i64 (by (try dsimp only); omega)) ?_
    conv=>whnf
    exact ⟨(), he, (Wk.sub ⟨(by first | rfl | (simp only [List.length_map]; rfl) | simp [PX.get]), (by first | rfl | (simp only [List.length_map]; rfl) | simp [PX.get]), (by first | rfl | (simp only [List.length_map]; rfl) | simp [PX.get]), (by first | rfl | (simp only [List.length_map]; rfl) | simp [PX.get]), (by first | rfl | (simp only [List.length_map]; rfl) | simp [PX.get]), (by first | rfl | (simp only [List.length_map]; rfl) | simp [PX.get]), (by first | rfl | (simp only [List.length_map]; rfl) | simp [PX.get]), (by first | rfl | (simp only [List.length_map]; rfl) | simp [PX.get]), trivial⟩ ⟨(by first | rfl | (simp only [List.length_map]; rfl) | simp [PX.get]), trivial⟩)⟩
  ·intro _ he
   rw [List.find?_nil] at he
   conv=>whnf
   refine brk_i (fun h => absurd h (by simp)) (fun _ => ?_)
   conv=>whnf
   refine arith_in (wrap_i64 (by (try dsimp only); omega)) ?_
   conv=>whnf
   exact ⟨4, by omega, ⟨by omega, fun _ => he, by omega, by omega⟩, (Wk.sub ⟨(by first | rfl | (simp only [List.length_map]; rfl) | simp [PX.get]), (by first | rfl | (simp only [List.length_map]; rfl) | simp [PX.get]), (by first | rfl | (simp only [List.length_map]; rfl) | simp [PX.get]), (by first | rfl | (simp only [List.length_map]; rfl) | simp [PX.get]), (by first | rfl | (simp only [List.length_map]; rfl) | simp [PX.get]), (by first | rfl | (simp only [List.length_map]; rfl) | simp [PX.get]), (by first | rfl | (simp only [List.length_map]; rfl) | simp [PX.get]), trivial⟩ ⟨(by first | rfl | (simp only [List.length_map]; rfl) | simp [PX.get]), trivial⟩)⟩
 ·cases hw4 (by omega)
  conv=>whnf
  refine LoopA_i (T := tys) tysOk (by exact drawsB_spec mixed tysOk (by decide +kernel)) group (fun i (_ : Unit) => ⟨[(1, .d (rotaD rota)), (2, .d (intsD group)), (3, .ptr 3 0), (6, .d (i64 0)), (7, .d (i64 0)), (8, .d (i64 (slotI c rota.length))), (11, .d (i64 4)), (12, .d (i64 i))], [(3, .box (.dd c.cells))], st⟩) (fun i r _ => f4 = r.find? (runP c rota.reverse)) () (Wk.sub ⟨(by first | rfl | (simp only [List.length_map]; rfl) | simp [PX.get]), (by first | rfl | (simp only [List.length_map]; rfl) | simp [PX.get]), (by first | rfl | (simp only [List.length_map]; rfl) | simp [PX.get]), (by first | rfl | (simp only [List.length_map]; rfl) | simp [PX.get]), (by first | rfl | (simp only [List.length_map]; rfl) | simp [PX.get]), (by first | rfl | (simp only [List.length_map]; rfl) | simp [PX.get]), (by first | rfl | (simp only [List.length_map]; rfl) | simp [PX.get]), (by first | rfl | (simp only [List.length_map]; rfl) | simp [PX.get]), trivial⟩ ⟨(by first | rfl | (simp only [List.length_map]; rfl) | simp [PX.get]), trivial⟩) hf4.symm ?_ ?_
  ·intro i x r _ hx hi hr2 he
   obtain ⟨j, y, rfl, hj, hmy⟩ := hel x (List.mem_of_getElem? hx)
   conv=>whnf
   refine brk_i (fun _ => ?_) (fun h => absurd hi (by have := of_decide_eq_false h; simp at this; omega))
   conv=>whnf
   refine elemK_nat hx ?_
   conv=>whnf
   refine CallA_v (ds := [rotaD rota, i64 j]) (wa95 rota j hl hr) rfl rfl ?_
   conv=>whnf
   have hp : runP c rota.reverse (j : Int) = decide (rowH (j : Int) rota.reverse ≥ c.run) := rfl
   rw [List.find?_cons, hp] at he
   refine DrawCall_v (ds := [rotaD rota, i64 j]) (wa96 rota j hl hr) rfl rfl ?_
   conv=>whnf
   refine brk_i (fun h1 => ?_) (fun h1 => ?_)
   ·have h1 : decide (rowH (j : Int) rota.reverse ≥ c.run) = true := h1
    rw [h1] at he
    simp only at he
    conv=>whnf
    rw [he]
    exact RetA_view 0 rfl ⟨⟨rfl, rfl⟩, rfl⟩
   ·have h1 : decide (rowH (j : Int) rota.reverse ≥ c.run) = false := h1
    rw [h1] at he
    simp only at he
    conv=>whnf
    refine arith_in (wrap_i64 (by (try dsimp only); omega)) ?_
    conv=>whnf
    exact ⟨(), he, (Wk.sub ⟨(by first | rfl | (simp only [List.length_map]; rfl) | simp [PX.get]), (by first | rfl | (simp only [List.length_map]; rfl) | simp [PX.get]), (by first | rfl | (simp only [List.length_map]; rfl) | simp [PX.get]), (by first | rfl | (simp only [List.length_map]; rfl) | simp [PX.get]), (by first | rfl | (simp only [List.length_map]; rfl) | simp [PX.get]), (by first | rfl | (simp only [List.length_map]; rfl) | simp [PX.get]), (by first | rfl | (simp only [List.length_map]; rfl) | simp [PX.get]), (by first | rfl | (simp only [List.length_map]; rfl) | simp [PX.get]), trivial⟩ ⟨(by first | rfl | (simp only [List.length_map]; rfl) | simp [PX.get]), trivial⟩)⟩
  ·intro _ he
   rw [List.find?_nil] at he
   conv=>whnf
   refine brk_i (fun h => absurd h (by simp)) (fun _ => ?_)
   conv=>whnf
   refine arith_in (wrap_i64 (by (try dsimp only); omega)) ?_
   conv=>whnf
   exact ⟨5, by omega, ⟨by omega, fun _ => rfl, fun _ => he, by omega⟩, (Wk.sub ⟨(by first | rfl | (simp only [List.length_map]; rfl) | simp [PX.get]), (by first | rfl | (simp only [List.length_map]; rfl) | simp [PX.get]), (by first | rfl | (simp only [List.length_map]; rfl) | simp [PX.get]), (by first | rfl | (simp only [List.length_map]; rfl) | simp [PX.get]), (by first | rfl | (simp only [List.length_map]; rfl) | simp [PX.get]), (by first | rfl | (simp only [List.length_map]; rfl) | simp [PX.get]), (by first | rfl | (simp only [List.length_map]; rfl) | simp [PX.get]), trivial⟩ ⟨(by first | rfl | (simp only [List.length_map]; rfl) | simp [PX.get]), trivial⟩)⟩
 ·cases hw4 (by omega)
  cases hw5 (by omega)
  conv=>whnf
  refine LoopA_i (T := tys) tysOk (by exact drawsB_spec mixed tysOk (by decide +kernel)) group (fun i (_ : Unit) => ⟨[(1, .d (rotaD rota)), (2, .d (intsD group)), (3, .ptr 3 0), (6, .d (i64 0)), (7, .d (i64 0)), (8, .d (i64 (slotI c rota.length))), (11, .d (i64 5)), (12, .d (i64 i))], [(3, .box (.dd c.cells))], st⟩) (fun i r _ => f5 = r.find? (restP c rota.reverse)) () (Wk.sub ⟨(by first | rfl | (simp only [List.length_map]; rfl) | simp [PX.get]), (by first | rfl | (simp only [List.length_map]; rfl) | simp [PX.get]), (by first | rfl | (simp only [List.length_map]; rfl) | simp [PX.get]), (by first | rfl | (simp only [List.length_map]; rfl) | simp [PX.get]), (by first | rfl | (simp only [List.length_map]; rfl) | simp [PX.get]), (by first | rfl | (simp only [List.length_map]; rfl) | simp [PX.get]), (by first | rfl | (simp only [List.length_map]; rfl) | simp [PX.get]), (by first | rfl | (simp only [List.length_map]; rfl) | simp [PX.get]), trivial⟩ ⟨(by first | rfl | (simp only [List.length_map]; rfl) | simp [PX.get]), trivial⟩) hf5.symm ?_ ?_
  ·intro i x r _ hx hi hr2 he
   obtain ⟨j, y, rfl, hj, hmy⟩ := hel x (List.mem_of_getElem? hx)
   conv=>whnf
   refine brk_i (fun _ => ?_) (fun h => absurd hi (by have := of_decide_eq_false h; simp at this; omega))
   conv=>whnf
   refine elemK_nat hx ?_
   conv=>whnf
   refine CallA_v (ds := [rotaD rota, i64 j]) (wa95 rota j hl hr) rfl rfl ?_
   conv=>whnf
   have hp : restP c rota.reverse (j : Int) = (decide (restH (j : Int) rota.reverse > 0) && decide (restH (j : Int) rota.reverse < c.rest)) := rfl
   rw [List.find?_cons, hp] at he
   refine brk_i (fun h1 => ?_) (fun h1 => ?_)
   ·have h1 : decide (restH (j : Int) rota.reverse > 0) = true := h1
    rw [h1] at he
    conv=>whnf
    refine brk_i (fun h2 => ?_) (fun h2 => ?_)
    ·rw [h2] at he
     simp only [Bool.and_self] at he
     conv=>whnf
     rw [he]
     exact RetA_view 0 rfl ⟨⟨rfl, rfl⟩, rfl⟩
    ·rw [h2] at he
     simp only [Bool.true_and] at he
     conv=>whnf
     refine arith_in (wrap_i64 (by (try dsimp only); omega)) ?_
     conv=>whnf
     exact ⟨(), he, (Wk.sub ⟨(by first | rfl | (simp only [List.length_map]; rfl) | simp [PX.get]), (by first | rfl | (simp only [List.length_map]; rfl) | simp [PX.get]), (by first | rfl | (simp only [List.length_map]; rfl) | simp [PX.get]), (by first | rfl | (simp only [List.length_map]; rfl) | simp [PX.get]), (by first | rfl | (simp only [List.length_map]; rfl) | simp [PX.get]), (by first | rfl | (simp only [List.length_map]; rfl) | simp [PX.get]), (by first | rfl | (simp only [List.length_map]; rfl) | simp [PX.get]), (by first | rfl | (simp only [List.length_map]; rfl) | simp [PX.get]), trivial⟩ ⟨(by first | rfl | (simp only [List.length_map]; rfl) | simp [PX.get]), trivial⟩)⟩
   ·have h1 : decide (restH (j : Int) rota.reverse > 0) = false := h1
    rw [h1] at he
    simp only [Bool.false_and] at he
    conv=>whnf
    refine arith_in (wrap_i64 (by (try dsimp only); omega)) ?_
    conv=>whnf
    exact ⟨(), he, (Wk.sub ⟨(by first | rfl | (simp only [List.length_map]; rfl) | simp [PX.get]), (by first | rfl | (simp only [List.length_map]; rfl) | simp [PX.get]), (by first | rfl | (simp only [List.length_map]; rfl) | simp [PX.get]), (by first | rfl | (simp only [List.length_map]; rfl) | simp [PX.get]), (by first | rfl | (simp only [List.length_map]; rfl) | simp [PX.get]), (by first | rfl | (simp only [List.length_map]; rfl) | simp [PX.get]), (by first | rfl | (simp only [List.length_map]; rfl) | simp [PX.get]), (by first | rfl | (simp only [List.length_map]; rfl) | simp [PX.get]), trivial⟩ ⟨(by first | rfl | (simp only [List.length_map]; rfl) | simp [PX.get]), trivial⟩)⟩
  ·intro _ he
   rw [List.find?_nil] at he
   conv=>whnf
   refine brk_i (fun h => absurd h (by simp)) (fun _ => ?_)
   conv=>whnf
   refine arith_in (wrap_i64 (by (try dsimp only); omega)) ?_
   conv=>whnf
   exact ⟨6, by omega, ⟨by omega, fun _ => rfl, fun _ => rfl, fun _ => he⟩, (Wk.sub ⟨(by first | rfl | (simp only [List.length_map]; rfl) | simp [PX.get]), (by first | rfl | (simp only [List.length_map]; rfl) | simp [PX.get]), (by first | rfl | (simp only [List.length_map]; rfl) | simp [PX.get]), (by first | rfl | (simp only [List.length_map]; rfl) | simp [PX.get]), (by first | rfl | (simp only [List.length_map]; rfl) | simp [PX.get]), (by first | rfl | (simp only [List.length_map]; rfl) | simp [PX.get]), (by first | rfl | (simp only [List.length_map]; rfl) | simp [PX.get]), trivial⟩ ⟨(by first | rfl | (simp only [List.length_map]; rfl) | simp [PX.get]), trivial⟩)⟩
 ·cases hw4 (by omega)
  cases hw5 (by omega)
  cases hw6 (by omega)
  conv=>whnf
  exact RetA_view 0 rfl ⟨⟨rfl, rfl⟩, rfl⟩
end Go.PX
namespace Go.PX
open Go.Proofs
structure Hist (c : WCase) (h : List (List Int)) (t : Tired) : Prop where
 slot : t.slot = slotI c h.length
 run : ∀ j : Nat, j < c.men.length → 0 < rowH j h → t.get j = rowH j h
 new : ∀ j : Nat, j < c.men.length → rowH j h = 0 → restH j h = -1 → t.get j = 0
 rest : ∀ j : Nat, j < c.men.length → rowH j h = 0 → 0 < restH j h → t.get j = min 0 (restH j h - c.rest)
theorem rowH_ge (m : Int) : ∀ h, 0 ≤ rowH m h
 | [] => by simp [rowH]
 | r :: h => by
  have := rowH_ge m h
  rw [rowH]; split <;> omega
theorem rest_row (m : Int) : ∀ h, restH m h = 0 ↔ 0 < rowH m h
 | [] => by simp [restH, rowH]
 | r :: h => by
  have h1 := rowH_ge m h
  have h2 := restH_ge m h
  rw [restH, rowH]
  by_cases hm : m ∈ r
  ·rw [if_pos hm, if_pos hm]; omega
  ·rw [if_neg hm, if_neg hm]
   by_cases h3 : restH m h = -1
   ·rw [if_pos h3]; omega
   ·rw [if_neg h3]; omega
theorem Hist.zero {c : WCase} (hR : WR c) : Hist c [] .zero := by
 have hm := hR.men
 have hz : ∀ j : Nat, j < c.men.length → Tired.zero.get j = 0 := by
  intro j hj
  have h2 : j = 0 ∨ j = 1 ∨ j = 2 ∨ j = 3 ∨ j = 4 := by omega
  rcases h2 with rfl | rfl | rfl | rfl | rfl <;> rfl
 refine ⟨by simp [slotI, Tired.zero], fun j hj h => by simp [rowH] at h, fun j hj _ _ => hz j hj, fun j hj _ h => by simp [restH] at h⟩
theorem slot_step {c : WCase} (hR : WR c) (n : Nat) : (slotI c n + 1).tmod c.slots.length = slotI c (n + 1) := by
 have hs := hR.slots
 unfold slotI
 have h1 : (0 : Int) ≤ (n : Int).tmod c.slots.length := Int.tmod_nonneg _ (by omega)
 rw [Int.tmod_eq_emod_of_nonneg (by omega), Int.tmod_eq_emod_of_nonneg (by omega), Int.tmod_eq_emod_of_nonneg (by omega), Int.emod_add_emod]
 rfl
theorem Hist.step {c : WCase} (hR : WR c) {set : Int} {h : List (List Int)} {t : Tired} {s : Slot} {g : List Int} (hh : Hist c h t) (hw : (whyF c set t s g).1 = 0) : Hist c (g :: h) (behindF c t g) := by
 have hm := hR.men
 have hre := hR.rest
 obtain ⟨_, _, _, _, h5⟩ := why_zero hw
 have hb : ∀ j : Nat, j < c.men.length → (behindF c t g).get j = tireF c.rest (decide ((j : Int) ∈ g)) (t.get j) := fun j hj => by
  rw [behind_get hR (by omega), if_pos hj]
 have ht : ∀ j : Nat, j < c.men.length → (0 < rowH j h ∧ t.get j = rowH j h) ∨ (rowH j h = 0 ∧ restH j h = -1 ∧ t.get j = 0) ∨ (rowH j h = 0 ∧ 0 < restH j h ∧ t.get j = min 0 (restH j h - c.rest)) := by
  intro j hj
  have h1 := rowH_ge (j : Int) h
  have h2 := restH_ge (j : Int) h
  have h3 := rest_row (j : Int) h
  rcases Int.lt_or_eq_of_le h1 with h4 | h4
  ·exact .inl ⟨h4, hh.run j hj h4⟩
  ·by_cases h6 : restH (j : Int) h = -1
   ·exact .inr (.inl ⟨h4.symm, h6, hh.new j hj h4.symm h6⟩)
   ·have h7 : 0 < restH (j : Int) h := by omega
    exact .inr (.inr ⟨h4.symm, h7, hh.rest j hj h4.symm h7⟩)
 refine ⟨?_, fun j hj hp => ?_, fun j hj hp hq => ?_, fun j hj hp hq => ?_⟩
 ·show (behindF c t g).slot = _
  unfold behindF
  rw [tireTo_slot]
  show (t.slot + 1).tmod _ = _
  rw [hh.slot, slot_step hR]; rfl
 ·rw [rowH] at hp ⊢
  split at hp
  ·rename_i hin
   rw [if_pos hin, hb j hj, tireF, if_pos (by simpa using hin)]
   have h8 := h5 _ hin
   simp only [Int.toNat_natCast] at h8
   have := ht j hj
   omega
  ·omega
 ·rw [rowH] at hp
  rw [restH] at hq
  split at hp
  ·have := rowH_ge (j : Int) h; omega
  ·rename_i hin
   rw [if_neg hin] at hq
   have := restH_ge (j : Int) h
   rw [hb j hj, tireF, if_neg (by simpa using hin)]
   have h9 := ht j hj
   have h3 := rest_row (j : Int) h
   split at hq
   ·have h10 : t.get j = 0 := by omega
    rw [h10]; simp
   ·omega
 ·rw [rowH] at hp
  rw [restH] at hq ⊢
  split at hp
  ·have := rowH_ge (j : Int) h; omega
  ·rename_i hin
   rw [if_neg hin] at hq ⊢
   rw [hb j hj, tireF, if_neg (by simpa using hin)]
   have h9 := ht j hj
   have h3 := rest_row (j : Int) h
   split at hq
   ·omega
   ·rename_i hne
    rw [if_neg hne]
    rcases h9 with ⟨h10, h11⟩ | ⟨h10, h11, h12⟩ | ⟨h10, h11, h12⟩
    ·have h13 := h3.2 h10
     rw [if_pos (by omega), h13]; omega
    ·omega
    ·rw [h12]
     split
     ·omega
     ·split <;> omega
theorem inSet_all {c : WCase} (hR : WR c) {m : Int} (h : 0 ≤ m ∧ m < c.men.length) : inSet (allMen c) m = true := by
 have hm := hR.men
 obtain ⟨j, rfl⟩ : ∃ j : Nat, m = j := ⟨m.toNat, by omega⟩
 unfold allMen
 generalize hn : c.men.length = n at *
 have h1 : n = 1 ∨ n = 2 ∨ n = 3 ∨ n = 4 ∨ n = 5 := by omega
 have h2 : j = 0 ∨ j = 1 ∨ j = 2 ∨ j = 3 ∨ j = 4 := by omega
 rcases h1 with rfl | rfl | rfl | rfl | rfl <;> rcases h2 with rfl | rfl | rfl | rfl | rfl <;> first | (exact absurd h.2 (by decide)) | decide
theorem find_congr {α : Type} {p q : α → Bool} : ∀ {l : List α}, (∀ x ∈ l, p x = q x) → l.find? p = l.find? q
 | [], _ => rfl
 | x :: r, h => by
  rw [List.find?_cons, List.find?_cons, h x (by simp), find_congr fun y hy => h y (by simp [hy])]
theorem why_eq {c : WCase} (hR : WR c) {rota : List (List Int)} {t : Tired} (hh : Hist c rota.reverse t) {g : List Int} (hg : RowIn c g) : whyR c rota g = whyT c (allMen c) t g := by
 have hm := hR.men
 have hru := hR.run
 have hs : slotAt c t = slotOf c rota.length := by
  unfold slotAt slotOf
  rw [hh.slot, List.length_reverse]
 have hsl : t.slot = slotI c rota.length := by rw [hh.slot, List.length_reverse]
 have e3 : g.find? (noP c (slotI c rota.length)) = g.find? fun m => !inSet (allMen c) m || decide (t.slot ∈ (manAt c m).no) := find_congr fun m hm' => by
  rw [inSet_all hR (hg m hm'), hsl]; rfl
 have e4 : g.find? (runP c rota.reverse) = g.find? fun m => decide (t.get m.toNat ≥ c.run) := find_congr fun m hm' => by
  obtain ⟨h1, h2⟩ := hg m hm'
  obtain ⟨j, rfl⟩ : ∃ j : Nat, m = j := ⟨m.toNat, by omega⟩
  have hj : j < c.men.length := by omega
  unfold runP
  refine decide_eq_decide.2 ?_
  simp only [Int.toNat_natCast]
  have h3 := rowH_ge (j : Int) rota.reverse
  have h4 := restH_ge (j : Int) rota.reverse
  have h5 := rest_row (j : Int) rota.reverse
  have h6 := hh.run j hj
  have h7 := hh.new j hj
  have h8 := hh.rest j hj
  rcases Int.lt_or_eq_of_le h3 with h9 | h9
  ·rw [h6 h9]
  ·by_cases h10 : restH (j : Int) rota.reverse = -1
   ·have := h7 h9.symm h10; omega
   ·have := h8 h9.symm (by omega); omega
 have e5 : g.find? (restP c rota.reverse) = g.find? fun m => decide (t.get m.toNat < 0) := find_congr fun m hm' => by
  obtain ⟨h1, h2⟩ := hg m hm'
  obtain ⟨j, rfl⟩ : ∃ j : Nat, m = j := ⟨m.toNat, by omega⟩
  have hj : j < c.men.length := by omega
  unfold restP
  rw [← Bool.decide_and]
  refine decide_eq_decide.2 ?_
  simp only [Int.toNat_natCast]
  have h3 := rowH_ge (j : Int) rota.reverse
  have h4 := restH_ge (j : Int) rota.reverse
  have h5 := rest_row (j : Int) rota.reverse
  have h6 := hh.run j hj
  have h7 := hh.new j hj
  have h8 := hh.rest j hj
  rcases Int.lt_or_eq_of_le h3 with h9 | h9
  ·have := h6 h9; omega
  ·by_cases h10 : restH (j : Int) rota.reverse = -1
   ·have := h7 h9.symm h10; omega
   ·have := h8 h9.symm (by omega); omega
 unfold whyR whyT whyF
 rw [e3, e4, e5, hs]
 all_goals
  generalize (g.find? fun m => !inSet (allMen c) m || decide (t.slot ∈ (manAt c m).no)) = f3
  generalize (g.find? fun m => decide (t.get m.toNat ≥ c.run)) = f4
  generalize (g.find? fun m => decide (t.get m.toNat < 0)) = f5
  cases f3 <;> cases f4 <;> cases f5 <;> rfl
theorem wa44 (c : WCase) (hR : WR c) (rota : List (List Int)) (hl : rota.length < 1000000) (hr : ∀ r ∈ rota, RowIn c r ∧ r.length < 1000000) :
  FnV Try.prog 44 [c.d, rotaD rota] (.tup [i64 (walkF c (allMen c) .zero rota 0).1.1, i64 (walkF c (allMen c) .zero rota 0).1.2.1, i64 (walkF c (allMen c) .zero rota 0).1.2.2]) := by
 refine fnV_of mixed tysOk Try.func44 rfl (ft := ft44) 2 (by decide +kernel) (by rfl) fun {σ} Y st => ?_
 conv=>whnf
 refine LoopA_i (T := tys) tysOk (by exact drawsB_spec mixed tysOk (by decide +kernel)) rota (fun i (u : Tired) => ⟨[(1, .d (rotaD rota)), (2, .ptr 2 0), (4, .d (i64 0)), (5, .d (i64 0)), (6, .d (i64 0)), (7, .d (i64 i))], [(2, .box (.dd c.cells))], st⟩)
  (fun i r u => walkF c (allMen c) .zero rota 0 = walkF c (allMen c) u r i ∧ Hist c (rota.take i).reverse u) .zero (Wk.sub ⟨(by first | rfl | (simp only [List.length_map]; rfl) | simp [PX.get]), (by first | rfl | (simp only [List.length_map]; rfl) | simp [PX.get]), (by first | rfl | (simp only [List.length_map]; rfl) | simp [PX.get]), (by first | rfl | (simp only [List.length_map]; rfl) | simp [PX.get]), (by first | rfl | (simp only [List.length_map]; rfl) | simp [PX.get]), (by first | rfl | (simp only [List.length_map]; rfl) | simp [PX.get]), trivial⟩ ⟨(by first | rfl | (simp only [List.length_map]; rfl) | simp [PX.get]), trivial⟩) ⟨rfl, Hist.zero hR⟩ ?_ ?_
 ·rintro i x r u hx hi hr2 ⟨he, hh⟩
  have hxm := List.mem_of_getElem? hx
  have htk : rota.take (i + 1) = rota.take i ++ [x] := by rw [List.take_succ, hx]; rfl
  have hwe := why_eq hR hh (hr x hxm).1
  rw [walkF] at he
  conv=>whnf
  refine brk_i (fun _ => ?_) (fun h => absurd hi (by have := of_decide_eq_false h; simp at this; omega))
  refine chk_i (by simp; omega) ?_
  conv=>whnf
  refine chk_i (by cases rota <;> rfl) ?_
  conv=>whnf
  refine elemK_nat hx ?_
  conv=>whnf
  have htd : (((rota.map fun r => [intsD r]).take (i : Int).toNat).drop 0) = (rota.take i).map fun r => [intsD r] := by simp [List.map_take]
  rw [htd]
  refine DrawCall_v (ds := [c.d, rotaD (rota.take i), intsD x]) (wa71 c hR (rota.take i) (by rw [List.length_take]; omega) (fun r h => (hr r (List.mem_of_mem_take h)).2) x (hr x hxm).1 (hr x hxm).2) rfl rfl ?_
  rw [hwe]
  conv=>whnf
  refine brk_i (fun h1 => ?_) (fun h1 => ?_)
  ·have h1 : ¬ (whyT c (allMen c) u x).1 = 0 := by simpa using h1
   rw [if_neg h1] at he
   conv=>whnf
   rw [he]
   exact RetA_view 0 rfl ⟨⟨rfl, rfl⟩, rfl⟩
  ·have h1 : (whyT c (allMen c) u x).1 = 0 := by simpa using h1
   rw [if_pos h1] at he
   conv=>whnf
   refine arith_in (wrap_i64 (by (try dsimp only); omega)) ?_
   conv=>whnf
   refine ⟨behindF c u x, ⟨he, ?_⟩, (Wk.sub ⟨(by first | rfl | (simp only [List.length_map]; rfl) | simp [PX.get]), (by first | rfl | (simp only [List.length_map]; rfl) | simp [PX.get]), (by first | rfl | (simp only [List.length_map]; rfl) | simp [PX.get]), (by first | rfl | (simp only [List.length_map]; rfl) | simp [PX.get]), (by first | rfl | (simp only [List.length_map]; rfl) | simp [PX.get]), (by first | rfl | (simp only [List.length_map]; rfl) | simp [PX.get]), trivial⟩ ⟨(by first | rfl | (simp only [List.length_map]; rfl) | simp [PX.get]), trivial⟩)⟩
   rw [htk, List.reverse_append]
   exact hh.step hR h1
 ·rintro u ⟨he, _⟩
  rw [walkF] at he
  conv=>whnf
  refine brk_i (fun h => absurd h (by simp)) (fun _ => ?_)
  conv=>whnf
  rw [he]
  exact RetA_view 0 rfl ⟨⟨rfl, rfl⟩, rfl⟩
theorem wa18 (c : WCase) (rota : List (List Int)) : FnV Try.prog 18 [c.d, rotaD rota] (.tup [i64 (badF c rota).1, i64 (badF c rota).2.1, i64 (badF c rota).2.2.1, i64 (badF c rota).2.2.2]) := by
 refine fnV_of mixed tysOk Try.func18 rfl (ft := ft18) 2 (by decide +kernel) (by rfl) fun {σ} Y st => ?_
 conv=>whnf
 refine CallA_v (wa65 c rota) rfl rfl ?_
 conv=>whnf
 unfold badF
 by_cases h0 : entE c rota = 0
 ·obtain ⟨hR, hl, _⟩ := ent_ok h0
  rw [h0]
  simp only [if_true]
  conv=>whnf
  have hrs : ∀ r ∈ rota, RowIn c r ∧ r.length < 1000000 := fun r hr => ⟨(rows_ok h0 r hr).1, by
   obtain ⟨_, _, hall⟩ := ent_ok h0
   have hm := hR.men
   rcases ascF_len (hall r hr) with h1 | h1
   ·rw [h1]; simp
   ·omega⟩
  refine CallA_v (ds := [c.d, rotaD rota]) (wa44 c hR rota (by omega) hrs) rfl rfl ?_
  conv=>whnf
  exact RetA_view 0 rfl ⟨⟨rfl, rfl⟩, rfl⟩
 ·rw [if_neg h0]
  conv=>whnf
  refine brk_i (fun _ => ?_) (fun h1 => absurd h1 (by simp [h0]))
  conv=>whnf
  exact RetA_view 0 rfl ⟨⟨rfl, rfl⟩, rfl⟩
end Go.PX
namespace Go.PX
open Go.Proofs
theorem rows_in {c : WCase} {rota : List (List Int)} (h0 : entE c rota = 0) : ∀ r ∈ rota, RowIn c r ∧ r.length < 1000000 := fun r hr => ⟨(rows_ok h0 r hr).1, by
 have := rows_small h0 r hr
 omega⟩
theorem wa67 (c : WCase) (rota : List (List Int)) : FnV Try.prog 67 [c.d, rotaD rota] (i64 (goodE c rota)) := by
 refine fnV_of mixed tysOk Try.func67 rfl (ft := ft67) 2 (by decide +kernel) (by rfl) fun {σ} Y st => ?_
 conv=>whnf
 refine CallA_v (wa65 c rota) rfl rfl ?_
 conv=>whnf
 unfold goodE
 refine brk_i (fun h0 => ?_) (fun h0 => ?_)
 ·have h0 : ¬ entE c rota = 0 := by simpa using h0
  rw [if_neg h0]
  conv=>whnf
  exact RetA_view 0 rfl ⟨⟨rfl, rfl⟩, rfl⟩
 ·have h0 : entE c rota = 0 := by simpa using h0
  obtain ⟨hR, hl, _⟩ := ent_ok h0
  rw [if_pos h0]
  conv=>whnf
  refine CallA_v (ds := [c.d, rotaD rota]) (wa44 c hR rota (by omega) (rows_in h0)) rfl rfl ?_
  conv=>whnf
  refine brk_i (fun h1 => ?_) (fun h1 => ?_)
  ·have h1 : (walkF c (allMen c) .zero rota 0).1.1 ≥ 0 := of_decide_eq_true h1
   rw [if_pos h1]
   conv=>whnf
   exact RetA_view 0 rfl ⟨⟨rfl, rfl⟩, rfl⟩
  ·have h1 : ¬ (walkF c (allMen c) .zero rota 0).1.1 ≥ 0 := of_decide_eq_false h1
   rw [if_neg h1]
   conv=>whnf
   exact RetA_view 0 rfl ⟨⟨rfl, rfl⟩, rfl⟩
def cntR (rota : List (List Int)) (j : Nat) : Nat := (rota.filter fun r => decide ((j : Int) ∈ r)).length
def stoodR (n : Nat) (rota : List (List Int)) : List Int := (List.range n).map fun j => (cntR rota j : Int)
theorem cntR_cons (x : List Int) (r : List (List Int)) (j : Nat) : cntR (x :: r) j = (if (j : Int) ∈ x then 1 else 0) + cntR r j := by
 unfold cntR
 rw [List.filter_cons]
 by_cases h : (j : Int) ∈ x
 ·rw [if_pos (by simpa using h), if_pos h]; simp; omega
 ·rw [if_neg (by simpa using h), if_neg h]; omega
theorem wa20 (c : WCase) (rota : List (List Int)) : FnV Try.prog 20 [c.d, rotaD rota] (.tup [if goodE c rota = 0 then intsD (stoodR c.men.length rota) else .nils, i64 (goodE c rota)]) := by
 refine fnV_of mixed tysOk Try.func20 rfl (ft := ft20) 2 (by decide +kernel) (by rfl) fun {σ} Y st => ?_
 conv=>whnf
 refine CallA_v (wa67 c rota) rfl rfl ?_
 conv=>whnf
 by_cases h0 : goodE c rota = 0
 ·obtain ⟨hR, hl, _⟩ := goodT_ok h0
  have hE : entE c rota = 0 := by
   unfold goodE at h0
   split at h0
   ·assumption
   ·exact h0
  have hm := hR.men
  have hrs := rows_in hE
  rw [h0]
  simp only [if_true]
  conv=>whnf
  generalize hM : stoodR c.men.length rota = M
  refine LoopA_i (T := tys) tysOk (by exact drawsB_spec mixed tysOk (by decide +kernel)) (List.range c.men.length) (fun j (_ : Unit) => ⟨[(1, .d (rotaD rota)), (2, .ptr 2 0), (5, .d (i64 0)), (7, .sl 41 1 0 j), (8, .d (i64 j))], [(2, .box (.dd c.cells)), (41, .arr 1 (.dd (intsC (stoodR j rota))))], st⟩)
   (fun j r _ => True) () ((Wk.born 7 41 1 rfl rfl rfl).trans (Wk.sub ⟨(by first | rfl | (simp only [List.length_map]; rfl) | simp [PX.get]), (by first | rfl | (simp only [List.length_map]; rfl) | simp [PX.get]), (by first | rfl | (simp only [List.length_map]; rfl) | simp [PX.get]), (by first | rfl | (simp only [List.length_map]; rfl) | simp [PX.get]), (by first | rfl | (simp only [List.length_map]; rfl) | simp [PX.get]), trivial⟩ ⟨(by first | rfl | (simp only [List.length_map]; rfl) | simp [PX.get]), (by first | rfl | (simp only [List.length_map]; rfl) | simp [PX.get]), trivial⟩)) trivial ?_ ?_
  ·intro j x r _ hx hj hr2 _
   have hjm : j < c.men.length := by simpa using hj
   conv=>whnf
   refine brk_i (fun _ => ?_) (fun h => absurd hjm (by have := of_decide_eq_false h; simp at this; omega))
   conv=>whnf
   refine LoopA_i (T := tys) tysOk (by exact drawsB_spec mixed tysOk (by decide +kernel)) rota (fun i (n : Nat) => ⟨[(1, .d (rotaD rota)), (2, .ptr 2 0), (5, .d (i64 0)), (7, .sl 41 1 0 j), (8, .d (i64 j)), (9, .d (i64 n)), (10, .d (i64 i))], [(2, .box (.dd c.cells)), (41, .arr 1 (.dd (intsC (stoodR j rota))))], st⟩)
    (fun i r n => n ≤ i ∧ cntR rota j = n + cntR r j) 0 (Wk.sub ⟨(by first | rfl | (simp only [List.length_map]; rfl) | simp [PX.get]), (by first | rfl | (simp only [List.length_map]; rfl) | simp [PX.get]), (by first | rfl | (simp only [List.length_map]; rfl) | simp [PX.get]), (by first | rfl | (simp only [List.length_map]; rfl) | simp [PX.get]), (by first | rfl | (simp only [List.length_map]; rfl) | simp [PX.get]), (by first | rfl | (simp only [List.length_map]; rfl) | simp [PX.get]), (by first | rfl | (simp only [List.length_map]; rfl) | simp [PX.get]), trivial⟩ ⟨(by first | rfl | (simp only [List.length_map]; rfl) | simp [PX.get]), (by first | rfl | (simp only [List.length_map]; rfl) | simp [PX.get]), trivial⟩) ⟨by simp, by simp⟩ ?_ ?_
   ·rintro i y r2 n hy hi hr3 ⟨hn, he⟩
    have hyr := (hrs y (List.mem_of_getElem? hy)).2
    rw [cntR_cons] at he
    conv=>whnf
    refine brk_i (fun _ => ?_) (fun h => absurd hi (by have := of_decide_eq_false h; simp at this; omega))
    conv=>whnf
    refine elemK_nat hy ?_
    conv=>whnf
    refine CallA_v (ds := [intsD y, i64 j]) (wa49 y j (by omega)) rfl rfl ?_
    conv=>whnf
    refine brk_i (fun h1 => ?_) (fun h1 => ?_)
    ·have h1 : (j : Int) ∈ y := of_decide_eq_true h1
     rw [if_pos h1] at he
     conv=>whnf
     refine arith_to (((n + 1 : Nat) : Int)) (by (try dsimp only); omega) (wrap_i64 (by (try dsimp only); omega)) ?_
     conv=>whnf
     refine arith_in (wrap_i64 (by (try dsimp only); omega)) ?_
     conv=>whnf
     exact ⟨n + 1, ⟨by omega, by omega⟩, (Wk.sub ⟨(by first | rfl | (simp only [List.length_map]; rfl) | simp [PX.get]), (by first | rfl | (simp only [List.length_map]; rfl) | simp [PX.get]), (by first | rfl | (simp only [List.length_map]; rfl) | simp [PX.get]), (by first | rfl | (simp only [List.length_map]; rfl) | simp [PX.get]), (by first | rfl | (simp only [List.length_map]; rfl) | simp [PX.get]), (by first | rfl | (simp only [List.length_map]; rfl) | simp [PX.get]), (by first | rfl | (simp only [List.length_map]; rfl) | simp [PX.get]), trivial⟩ ⟨(by first | rfl | (simp only [List.length_map]; rfl) | simp [PX.get]), (by first | rfl | (simp only [List.length_map]; rfl) | simp [PX.get]), trivial⟩)⟩
    ·have h1 : ¬ (j : Int) ∈ y := of_decide_eq_false h1
     rw [if_neg h1] at he
     conv=>whnf
     refine arith_in (wrap_i64 (by (try dsimp only); omega)) ?_
     conv=>whnf
     exact ⟨n, ⟨by omega, by omega⟩, (Wk.sub ⟨(by first | rfl | (simp only [List.length_map]; rfl) | simp [PX.get]), (by first | rfl | (simp only [List.length_map]; rfl) | simp [PX.get]), (by first | rfl | (simp only [List.length_map]; rfl) | simp [PX.get]), (by first | rfl | (simp only [List.length_map]; rfl) | simp [PX.get]), (by first | rfl | (simp only [List.length_map]; rfl) | simp [PX.get]), (by first | rfl | (simp only [List.length_map]; rfl) | simp [PX.get]), (by first | rfl | (simp only [List.length_map]; rfl) | simp [PX.get]), trivial⟩ ⟨(by first | rfl | (simp only [List.length_map]; rfl) | simp [PX.get]), (by first | rfl | (simp only [List.length_map]; rfl) | simp [PX.get]), trivial⟩)⟩
   ·rintro n ⟨hn, he⟩
    have he : cntR rota j = n := by simpa [cntR] using he
    have hsl : (stoodR j rota).length = j := by simp [stoodR]
    conv=>whnf
    refine brk_i (fun h => absurd h (by simp)) (fun _ => ?_)
    conv=>whnf
    refine ownK_whole rfl ?_
    conv=>whnf
    refine ownK_whole (by simp [Els.len, intsC, hsl]) ?_
    conv=>whnf
    refine chk_i (decide_eq_true (by
     show ((intsC (stoodR j rota)).length + 1) * 8 ≤ 140737488355328
     simp [intsC, hsl]; omega)) ?_
    conv=>whnf
    refine arith_in (wrap_i64 (by (try dsimp only); omega)) ?_
    conv=>whnf
    refine ⟨(), trivial, Wk.sub ⟨rfl, rfl, rfl, ?_, rfl, trivial⟩ ⟨rfl, ?_, trivial⟩⟩
    ·show some (V.sl 41 1 0 ((intsC (stoodR j rota)).length + 1)) = _
     simp [intsC, hsl]
    ·show some (Obj.arr 1 (Els.dd (intsC (stoodR j rota) ++ [[i64 n]]))) = some (Obj.arr 1 (Els.dd (intsC (stoodR (j + 1) rota))))
     simp [intsC, stoodR, List.range_succ, he]
  ·intro _ _
   conv=>whnf
   refine brk_i (fun h => absurd h (by simp)) (fun _ => ?_)
   conv=>whnf
   rw [List.length_range]
   rw [hM]
   refine RetA_view 1 (ds := [intsD M, i64 0]) ?_ ⟨⟨rfl, rfl⟩, rfl⟩
   exact viewL_cons (viewV_sl (es := intsC M) rfl (by subst hM; simp [intsC, stoodR])) rfl
 ·rw [if_neg h0]
  conv=>whnf
  refine brk_i (fun _ => ?_) (fun h1 => absurd h1 (by simp [h0]))
  conv=>whnf
  exact RetA_view 0 rfl ⟨⟨rfl, rfl⟩, rfl⟩
theorem asc_ge {many : Int} : ∀ {l : List Int} {last : Int}, ascF many last l = 0 → ∀ m ∈ l, last < m
 | [], _, _, m, hm => by cases hm
 | i :: r, last, h, m, hm => by
  rw [ascF] at h
  split at h
  case isFalse => cases h
  split at h
  ·cases h
  rename_i h2
  rcases List.mem_cons.1 hm with rfl | hm
  ·omega
  ·have := asc_ge h m hm; omega
theorem bumps_get {many : Int} : ∀ {x : List Int} {last : Int} {l : List Int} {j : Nat}, ascF many last x = 0 → (∀ m ∈ x, 0 ≤ m ∧ m < l.length) → j < l.length → (x.foldl bump l).getD j 0 = l.getD j 0 + (if (j : Int) ∈ x then 1 else 0)
 | [], _, l, j, _, _, _ => by simp
 | m :: r, last, l, j, h, hin, hj => by
  rw [ascF] at h
  split at h
  case isFalse => cases h
  split at h
  ·cases h
  have hm := hin m (by simp)
  have hge := asc_ge h
  rw [List.foldl_cons, bumps_get h (fun m hm => by rw [bump_len]; exact hin m (by simp [hm])) (by rw [bump_len]; exact hj)]
  by_cases hjm : (j : Int) = m
  ·have hnr : ¬ (j : Int) ∈ r := fun hr => by have := hge _ hr; omega
   have hmj : m.toNat = j := by omega
   rw [if_neg hnr, if_pos (by rw [hjm]; simp)]
   unfold bump
   rw [hmj, List.getD_eq_getElem?_getD, List.getElem?_set_self (by omega)]
   simp
  ·have hmj : m.toNat ≠ j := by omega
   have e1 : (bump l m).getD j 0 = l.getD j 0 := by
    unfold bump
    rw [List.getD_eq_getElem?_getD, List.getElem?_set_ne hmj, ← List.getD_eq_getElem?_getD]
   rw [e1]
   congr 1
   by_cases hr : (j : Int) ∈ r
   ·rw [if_pos hr, if_pos (List.mem_cons_of_mem _ hr)]
   ·rw [if_neg hr, if_neg (fun h => (List.mem_cons.1 h).elim hjm hr)]
theorem stood_eq {c : WCase} {rota : List (List Int)} (h0 : goodE c rota = 0) : stoodL c.men.length rota = stoodR c.men.length rota := by
 have hE : entE c rota = 0 := by
  unfold goodE at h0
  split at h0
  ·assumption
  ·exact h0
 obtain ⟨hR, hl, hall⟩ := ent_ok hE
 have key : ∀ (rows : List (List Int)) (l : List Int), (∀ r ∈ rows, ascF c.men.length (-1) r = 0) → l.length = c.men.length → (rows.foldl (fun l r => r.foldl bump l) l).length = c.men.length ∧ ∀ j, j < c.men.length → (rows.foldl (fun l r => r.foldl bump l) l).getD j 0 = l.getD j 0 + (cntR rows j : Int) := by
  intro rows
  induction rows with
  | nil => exact fun l _ hl => ⟨hl, fun j _ => by simp [cntR]⟩
  | cons x r ih =>
   intro l ha hl
   have hx := ha x (by simp)
   obtain ⟨h1, h2⟩ := ih (x.foldl bump l) (fun r hr => ha r (by simp [hr])) (by rw [bumps_len]; exact hl)
   refine ⟨by rw [List.foldl_cons]; exact h1, fun j hj => ?_⟩
   rw [List.foldl_cons, h2 j hj, bumps_get hx (fun m hm => by rw [hl]; exact asc_in hx m hm) (by omega), cntR_cons]
   split <;> simp <;> omega
 obtain ⟨h1, h2⟩ := key rota (List.replicate c.men.length 0) hall (by simp)
 have hS : stoodL c.men.length rota = rota.foldl (fun l r => r.foldl bump l) (List.replicate c.men.length 0) := rfl
 rw [hS]
 generalize rota.foldl (fun l r => r.foldl bump l) (List.replicate c.men.length 0) = S at h1 h2
 refine List.ext_getElem (by rw [h1]; simp [stoodR]) fun j hj1 hj2 => ?_
 have hj : j < c.men.length := by simpa [stoodR] using hj2
 have := h2 j hj
 rw [List.getD_eq_getElem?_getD, List.getElem?_eq_getElem hj1, Option.getD_some] at this
 rw [this]
 simp [stoodR, hj]
end Go.PX
namespace Go.PX
open Go.Proofs
def startF (p : List Int) : Nat := match p.getLast? with
 | none => 0
 | some x => (x + 1).toNat
def listsF (below : Nat) : Nat → List Int → List (List Int)
 | 0, p => [p]
 | many + 1, p => (List.range' (startF p) (below - startF p)).flatMap fun (i : Nat) => listsF below many (p ++ [(i : Int)])
theorem listsF_many {below : Nat} (hb : below ≤ 5) : ∀ {many : Nat} {p : List Int}, (listsF below many p).length ≤ 5 ^ many
 | 0, p => by simp [listsF]
 | many + 1, p => by
  rw [listsF]
  refine Nat.le_trans (flatMap_len (k := 5 ^ many) fun i _ => listsF_many hb) ?_
  rw [List.length_range', Nat.pow_succ, Nat.mul_comm]
  exact Nat.mul_le_mul_left _ (by omega)
theorem startF_le {below : Nat} {p : List Int} (hp : ∀ x ∈ p, 0 ≤ x ∧ x < below) : startF p ≤ below := by
 unfold startF
 cases h : p.getLast? with
 | none => simp
 | some x =>
  have := hp x (List.mem_of_getLast? h)
  simp only; omega
theorem wa70 (below : Nat) (hb : below ≤ 5) : ∀ (many : Nat), many ≤ 5 → ∀ (p : List Int), (∀ x ∈ p, 0 ≤ x ∧ x < below) → p.length + many ≤ 10 → FnV Try.prog 70 [intsD p, i64 many, i64 below] (rotaD (listsF below many p))
 | 0, _, p, hp, hl => by
  refine fnV_of mixed tysOk Try.func70 rfl (ft := ft70) 3 (by decide +kernel) (by rfl) fun {σ} Y st => ?_
  conv=>whnf
  exact RetA_view 1 rfl ⟨⟨rfl, rfl⟩, rfl⟩
 | many + 1, hm, p, hp, hl => by
  have ih := wa70 below hb many (by omega)
  have hst := startF_le hp
  have h5 : (5 : Nat) ^ many ≤ 625 := Nat.le_trans (Nat.pow_le_pow_right (by omega) (show many ≤ 4 by omega)) (by decide)
  have hall : (listsF below (many + 1) p).length ≤ 5 ^ (many + 1) := listsF_many hb
  have h6 : (5 : Nat) ^ (many + 1) ≤ 3125 := by rw [Nat.pow_succ]; omega
  refine fnV_of mixed tysOk Try.func70 rfl (ft := ft70) 3 (by decide +kernel) (by rfl) fun {σ} Y st => ?_
  conv=>whnf
  have hlm : ((p.map fun n => [i64 n]).length : Int) = p.length := by simp
  generalize hM : listsF below (many + 1) p = M at hall ⊢
  rw [listsF] at hM
  cases hlast : p.getLast? with
  | none =>
   have hpe : p = [] := by simpa using hlast
   have hs0 : startF p = 0 := by unfold startF; rw [hlast]
   rw [hs0] at hM
   refine brk_i (fun h => absurd h (by rw [hpe]; simp)) (fun _ => ?_)
   conv=>whnf
   refine LoopA_p (T := tys) tysOk (by exact drawsB_spec mixed tysOk (by decide +kernel)) (α := Nat × List (List Int)) (fun y => ⟨[(0, .d (intsD p)), (1, .d (i64 (many + 1 : Nat))), (2, .d (i64 below)), (8, .sl 41 1 0 y.2.length), (9, .d (i64 y.1))], [(41, .arr 1 (.dd (y.2.map fun r => [intsD r])))], st⟩)
    (fun y => y.1 ≤ below ∧ M = y.2 ++ (List.range' y.1 (below - y.1)).flatMap fun (i : Nat) => listsF below many (p ++ [(i : Int)])) (fun y => below - y.1) (0, [])
    ((Wk.born 8 41 1 rfl rfl rfl).trans (Wk.sub ⟨(by first | rfl | (simp only [List.length_map]; rfl) | simp [PX.get]), (by first | rfl | (simp only [List.length_map]; rfl) | simp [PX.get]), (by first | rfl | (simp only [List.length_map]; rfl) | simp [PX.get]), (by first | rfl | (simp only [List.length_map]; rfl) | simp [PX.get]), (by first | rfl | (simp only [List.length_map]; rfl) | simp [PX.get]), trivial⟩ ⟨(by first | rfl | (simp only [List.length_map]; rfl) | simp [PX.get]), trivial⟩)) ⟨by simp only; omega, hM.symm⟩ ?_
   rintro ⟨i, acc⟩ ⟨hi, he⟩
   simp only at hi he
   conv=>whnf
   refine brk_i (fun h1 => ?_) (fun h1 => ?_)
   ·have h1 : i < below := by have := of_decide_eq_true h1; simp at this; omega
    obtain ⟨k, hk⟩ : ∃ k, below - i = k + 1 := ⟨below - i - 1, by omega⟩
    have hk2 : below - (i + 1) = k := by omega
    rw [hk, List.range'_succ, List.flatMap_cons, ← List.append_assoc] at he
    conv=>whnf
    refine ownK_whole rfl ?_
    conv=>whnf
    refine chk_i (by rw [Bool.and_eq_true]; exact ⟨lenAllD_map (fun _ => ⟨rfl, rfl⟩) p, rfl⟩) ?_
    conv=>whnf
    refine chk_i (decide_eq_true (by
     show (0 + (p.map fun n => [i64 n]).length) * 8 ≤ 140737488355328
     rw [List.length_map]; omega)) ?_
    conv=>whnf
    refine ownK_whole rfl ?_
    conv=>whnf
    refine ownK_whole (by simp [Els.len]) ?_
    conv=>whnf
    refine chk_i (decide_eq_true (by
     show (([] ++ p.map fun n => [i64 n]).length + 1) * 8 ≤ 140737488355328
     simp; omega)) ?_
    conv=>whnf
    refine arith_to ((many : Int)) (by (try dsimp only); omega) (wrap_i64 (by (try dsimp only); omega)) ?_
    conv=>whnf
    have hin : ∀ x ∈ p ++ [(i : Int)], 0 ≤ x ∧ x < below := by
     intro x hx
     rcases List.mem_append.1 hx with hx | hx
     ·exact hp x hx
     ·rw [List.mem_singleton] at hx; subst hx; omega
    refine CallA_fz (ds := [intsD (p ++ [(i : Int)]), i64 many, i64 below]) (ih (p ++ [(i : Int)]) hin (by simp; omega)) 1 [36] ?_ rfl ?_
    ·have hap : ([] ++ (p.map fun n => [i64 n])) ++ [[i64 (i : Int)]] = (p ++ [(i : Int)]).map fun n => [i64 n] := by simp
     refine viewL_cons (viewV_sl' rfl hap ?_) rfl
     show (([] ++ p.map fun n => [i64 n]).length + 1) = _
     simp
    conv=>whnf
    refine ownK_whole (by simp [Els.len]) ?_
    conv=>whnf
    refine chk_i (by rw [Bool.and_eq_true]; exact ⟨lenAllD_map (fun _ => ⟨rfl, rfl⟩) _, rfl⟩) ?_
    conv=>whnf
    have hal : acc.length ≤ 3125 := by
     rw [he] at hall
     simp only [List.length_append] at hall
     omega
    have hll : (listsF below many (p ++ [(i : Int)])).length ≤ 5 ^ many := listsF_many hb
    refine chk_i (decide_eq_true (by
     show ((acc.map fun r => [intsD r]).length + ((listsF below many (p ++ [(i : Int)])).map fun r => [intsD r]).length) * 24 ≤ 140737488355328
     rw [List.length_map, List.length_map]; omega)) ?_
    conv=>whnf
    refine arith_to (((i + 1 : Nat) : Int)) (by (try dsimp only); omega) (wrap_i64 (by (try dsimp only); omega)) ?_
    conv=>whnf
    refine ⟨(i + 1, acc ++ listsF below many (p ++ [(i : Int)])), by simp only; omega, ⟨by simp only; omega, by simp only; rw [hk2]; exact he⟩, Wk.sub ⟨rfl, rfl, rfl, ?_, rfl, trivial⟩ ⟨?_, trivial⟩⟩
    ·show some (V.sl 41 1 0 ((acc.map fun r => [intsD r]).length + ((listsF below many (p ++ [(i : Int)])).map fun r => [intsD r]).length)) = _
     simp
    ·show some (Obj.arr 1 (Els.dd ((acc.map fun r => [intsD r]) ++ (listsF below many (p ++ [(i : Int)])).map fun r => [intsD r]))) = _
     simp
   ·have h1 : ¬ i < below := by have := of_decide_eq_false h1; simp at this; omega
    rw [show below - i = 0 by omega] at he
    have he : M = acc := by simpa using he
    rw [he]
    conv=>whnf
    refine RetA_view 1 (ds := [rotaD acc]) ?_ ⟨⟨rfl, rfl⟩, rfl⟩
    exact viewL_cons (viewV_sl (es := acc.map fun r => [intsD r]) rfl (by simp)) rfl
  | some x =>
   have hx := hp x (List.mem_of_getLast? hlast)
   have hs0 : startF p = (x + 1).toNat := by unfold startF; rw [hlast]
   have hpl : 0 < p.length := by
    cases p with
    | nil => simp at hlast
    | cons _ _ => simp
   have hpx : p[p.length - 1]? = some x := by rw [← List.getLast?_eq_getElem?]; exact hlast
   rw [hs0] at hM hst
   refine brk_i (fun _ => ?_) (fun h => absurd hpl (by have := of_decide_eq_false h; rw [hlm] at this; omega))
   conv=>whnf
   refine arith_to ((p.length - 1 : Nat) : Int) (by simp; omega) (wrap_i64 (by omega)) ?_
   conv=>whnf
   refine elemK_nat hpx ?_
   conv=>whnf
   refine arith_to ((((x + 1).toNat : Nat) : Int)) (by (try dsimp only); omega) (wrap_i64 (by (try dsimp only); omega)) ?_
   conv=>whnf
   refine LoopA_p (T := tys) tysOk (by exact drawsB_spec mixed tysOk (by decide +kernel)) (α := Nat × List (List Int)) (fun y => ⟨[(0, .d (intsD p)), (1, .d (i64 (many + 1 : Nat))), (2, .d (i64 below)), (8, .sl 41 1 0 y.2.length), (9, .d (i64 y.1))], [(41, .arr 1 (.dd (y.2.map fun r => [intsD r])))], st⟩)
    (fun y => y.1 ≤ below ∧ M = y.2 ++ (List.range' y.1 (below - y.1)).flatMap fun (i : Nat) => listsF below many (p ++ [(i : Int)])) (fun y => below - y.1) ((x + 1).toNat, [])
    ((Wk.born 8 41 1 rfl rfl rfl).trans (Wk.sub ⟨(by first | rfl | (simp only [List.length_map]; rfl) | simp [PX.get]), (by first | rfl | (simp only [List.length_map]; rfl) | simp [PX.get]), (by first | rfl | (simp only [List.length_map]; rfl) | simp [PX.get]), (by first | rfl | (simp only [List.length_map]; rfl) | simp [PX.get]), (by first | rfl | (simp only [List.length_map]; rfl) | simp [PX.get]), trivial⟩ ⟨(by first | rfl | (simp only [List.length_map]; rfl) | simp [PX.get]), trivial⟩)) ⟨by simp only; omega, hM.symm⟩ ?_
   rintro ⟨i, acc⟩ ⟨hi, he⟩
   simp only at hi he
   conv=>whnf
   refine brk_i (fun h1 => ?_) (fun h1 => ?_)
   ·have h1 : i < below := by have := of_decide_eq_true h1; simp at this; omega
    obtain ⟨k, hk⟩ : ∃ k, below - i = k + 1 := ⟨below - i - 1, by omega⟩
    have hk2 : below - (i + 1) = k := by omega
    rw [hk, List.range'_succ, List.flatMap_cons, ← List.append_assoc] at he
    conv=>whnf
    refine ownK_whole rfl ?_
    conv=>whnf
    refine chk_i (by rw [Bool.and_eq_true]; exact ⟨lenAllD_map (fun _ => ⟨rfl, rfl⟩) p, rfl⟩) ?_
    conv=>whnf
    refine chk_i (decide_eq_true (by
     show (0 + (p.map fun n => [i64 n]).length) * 8 ≤ 140737488355328
     rw [List.length_map]; omega)) ?_
    conv=>whnf
    refine ownK_whole rfl ?_
    conv=>whnf
    refine ownK_whole (by simp [Els.len]) ?_
    conv=>whnf
    refine chk_i (decide_eq_true (by
     show (([] ++ p.map fun n => [i64 n]).length + 1) * 8 ≤ 140737488355328
     simp; omega)) ?_
    conv=>whnf
    refine arith_to ((many : Int)) (by (try dsimp only); omega) (wrap_i64 (by (try dsimp only); omega)) ?_
    conv=>whnf
    have hin : ∀ x ∈ p ++ [(i : Int)], 0 ≤ x ∧ x < below := by
     intro x hx
     rcases List.mem_append.1 hx with hx | hx
     ·exact hp x hx
     ·rw [List.mem_singleton] at hx; subst hx; omega
    refine CallA_fz (ds := [intsD (p ++ [(i : Int)]), i64 many, i64 below]) (ih (p ++ [(i : Int)]) hin (by simp; omega)) 1 [36] ?_ rfl ?_
    ·have hap : ([] ++ (p.map fun n => [i64 n])) ++ [[i64 (i : Int)]] = (p ++ [(i : Int)]).map fun n => [i64 n] := by simp
     refine viewL_cons (viewV_sl' rfl hap ?_) rfl
     show (([] ++ p.map fun n => [i64 n]).length + 1) = _
     simp
    conv=>whnf
    refine ownK_whole (by simp [Els.len]) ?_
    conv=>whnf
    refine chk_i (by rw [Bool.and_eq_true]; exact ⟨lenAllD_map (fun _ => ⟨rfl, rfl⟩) _, rfl⟩) ?_
    conv=>whnf
    have hal : acc.length ≤ 3125 := by
     rw [he] at hall
     simp only [List.length_append] at hall
     omega
    have hll : (listsF below many (p ++ [(i : Int)])).length ≤ 5 ^ many := listsF_many hb
    refine chk_i (decide_eq_true (by
     show ((acc.map fun r => [intsD r]).length + ((listsF below many (p ++ [(i : Int)])).map fun r => [intsD r]).length) * 24 ≤ 140737488355328
     rw [List.length_map, List.length_map]; omega)) ?_
    conv=>whnf
    refine arith_to (((i + 1 : Nat) : Int)) (by (try dsimp only); omega) (wrap_i64 (by (try dsimp only); omega)) ?_
    conv=>whnf
    refine ⟨(i + 1, acc ++ listsF below many (p ++ [(i : Int)])), by simp only; omega, ⟨by simp only; omega, by simp only; rw [hk2]; exact he⟩, Wk.sub ⟨rfl, rfl, rfl, ?_, rfl, trivial⟩ ⟨?_, trivial⟩⟩
    ·show some (V.sl 41 1 0 ((acc.map fun r => [intsD r]).length + ((listsF below many (p ++ [(i : Int)])).map fun r => [intsD r]).length)) = _
     simp
    ·show some (Obj.arr 1 (Els.dd ((acc.map fun r => [intsD r]) ++ (listsF below many (p ++ [(i : Int)])).map fun r => [intsD r]))) = _
     simp
   ·have h1 : ¬ i < below := by have := of_decide_eq_false h1; simp at this; omega
    rw [show below - i = 0 by omega] at he
    have he : M = acc := by simpa using he
    rw [he]
    conv=>whnf
    refine RetA_view 1 (ds := [rotaD acc]) ?_ ⟨⟨rfl, rfl⟩, rfl⟩
    exact viewL_cons (viewV_sl (es := acc.map fun r => [intsD r]) rfl (by simp)) rfl
theorem startF_snoc (p : List Int) (i : Nat) : startF (p ++ [(i : Int)]) = i + 1 := by
 unfold startF
 rw [List.getLast?_append]
 simp only [List.getLast?_singleton, Option.some_or]
 omega
theorem groups_lists {c : WCase} {set : Int} {t : Tired} {s : Slot} : ∀ {left : Nat} {p : List Int} {start : Nat}, startF p = start → groupsL c set t s left p start = ((listsF c.men.length left p).filter fun g => decide ((whyF c set t s g).1 = 0)).map fun g => (g, behindF c t g)
 | 0, p, start, _ => by
  rw [groupsL, listsF, List.filter_cons]
  by_cases h : (whyF c set t s p).1 = 0
  ·rw [if_pos h, if_pos (by simpa using h)]; rfl
  ·rw [if_neg h, if_neg (by simpa using h)]; rfl
 | left + 1, p, start, hs => by
  rw [groupsL, listsF, hs, List.filter_flatMap, List.map_flatMap]
  congr 1
  funext i
  exact groups_lists (startF_snoc p i)
theorem lists_ok {below : Nat} : ∀ {many : Nat} {p : List Int}, (∀ x ∈ p, 0 ≤ x ∧ x < below) → ∀ g ∈ listsF below many p, g.length = p.length + many ∧ ∀ x ∈ g, 0 ≤ x ∧ x < below
 | 0, p, hp, g, hg => by
  rw [listsF, List.mem_singleton] at hg
  subst hg
  exact ⟨rfl, hp⟩
 | many + 1, p, hp, g, hg => by
  rw [listsF, List.mem_flatMap] at hg
  obtain ⟨i, hi, hg⟩ := hg
  rw [List.mem_range'_1] at hi
  have h1 := startF_le hp
  obtain ⟨h2, h3⟩ := lists_ok (many := many) (p := p ++ [(i : Int)]) (fun x hx => by
   rcases List.mem_append.1 hx with hx | hx
   ·exact hp x hx
   ·rw [List.mem_singleton] at hx; subst hx; omega) g hg
  refine ⟨by rw [h2]; simp; omega, h3⟩
end Go.PX
namespace Go.PX
open Go.Proofs
theorem hist_walk {c : WCase} (hR : WR c) : ∀ {rows : List (List Int)} {h : List (List Int)} {t : Tired} {i : Int}, 0 ≤ i → Hist c h t → (walkF c (allMen c) t rows i).1.1 = -1 → Hist c (rows.reverse ++ h) (walkF c (allMen c) t rows i).2
 | [], h, t, i, _, hh, _ => hh
 | r :: rest, h, t, i, hi, hh, hw => by
  rw [walkF] at hw ⊢
  split
  ·rename_i h1
   rw [if_pos h1] at hw
   have := hist_walk hR (by omega) (hh.step hR h1) hw
   simpa using this
  ·rename_i h1
   rw [if_neg h1] at hw
   simp only at hw
   omega
theorem good_at {c : WCase} {rota : List (List Int)} (h0 : goodE c rota = 0) : entE c rota = 0 ∧ (walkF c (allMen c) .zero rota 0).1.1 = -1 := by
 have hE : entE c rota = 0 := by
  unfold goodE at h0
  split at h0
  ·assumption
  ·exact h0
 refine ⟨hE, ?_⟩
 rw [goodE, if_pos hE] at h0
 split at h0
 ·cases h0
 ·rename_i h1
  rcases walk_at (c := c) (set := allMen c) (rota := rota) (t := .zero) (i := 0) with h | h
  ·exact h
  ·exact absurd h (by omega)
theorem hist_good {c : WCase} {rota : List (List Int)} (h0 : goodE c rota = 0) : Hist c rota.reverse (goodT c rota) := by
 obtain ⟨hE, hw⟩ := good_at h0
 have hR := (goodT_ok h0).1
 have := hist_walk hR (Int.le_refl 0) (Hist.zero hR) hw
 rw [List.append_nil] at this
 exact this
theorem slot_men {c : WCase} (hR : WR c) (n : Nat) : c.slots[(slotI c n).toNat]? = some (slotOf c n) ∧ 1 ≤ (slotOf c n).men ∧ (slotOf c n).men ≤ 2 := by
 have hk := slotI_bd hR n
 have h1 : c.slots[(slotI c n).toNat]? = some (c.slots[(slotI c n).toNat]'(by omega)) := List.getElem?_eq_getElem _
 have h2 : slotOf c n = c.slots[(slotI c n).toNat]'(by omega) := by unfold slotOf; rw [h1]; rfl
 rw [h2]
 have := (hR.slot _ (List.mem_of_getElem? h1)).1
 exact ⟨h1, this.1, this.2⟩
theorem can_eq {c : WCase} {rota : List (List Int)} (h0 : goodE c rota = 0) : canL c rota = (listsF c.men.length (slotOf c rota.length).men.toNat []).filter fun g => decide ((whyR c rota g).1 = 0) := by
 have hR := (goodT_ok h0).1
 have hh := hist_good h0
 have hs : slotAt c (goodT c rota) = slotOf c rota.length := by
  unfold slotAt slotOf
  rw [hh.slot, List.length_reverse]
 unfold canL groupsF
 rw [groups_lists (p := []) (start := 0) rfl, List.map_map, hs]
 rw [show (List.map ((fun (x : List Int × Tired) => x.1) ∘ fun g => (g, behindF c (goodT c rota) g))) = List.map id from rfl, List.map_id]
 refine List.filter_congr fun g hg => ?_
 obtain ⟨_, h2⟩ := lists_ok (p := []) (fun x hx => by cases hx) g hg
 rw [why_eq hR hh h2]
 unfold whyT
 rw [hs]
theorem wa23 (c : WCase) (rota : List (List Int)) : FnV Try.prog 23 [c.d, rotaD rota] (.tup [if goodE c rota = 0 then rotaD (canL c rota) else .nils, i64 (goodE c rota)]) := by
 refine fnV_of mixed tysOk Try.func23 rfl (ft := ft23) 2 (by decide +kernel) (by rfl) fun {σ} Y st => ?_
 conv=>whnf
 refine CallA_v (wa67 c rota) rfl rfl ?_
 conv=>whnf
 by_cases h0 : goodE c rota = 0
 ·obtain ⟨hR, hl, _⟩ := goodT_ok h0
  obtain ⟨hE, _⟩ := good_at h0
  have hm := hR.men
  have hsl := hR.slots
  have hrs := rows_in hE
  obtain ⟨hs1, hs2, hs3⟩ := slot_men hR rota.length
  have hk := slotI_bd hR rota.length
  rw [can_eq h0]
  rw [h0]
  simp only [if_true]
  conv=>whnf
  refine chk_i (decide_eq_true (by rw [List.length_map]; omega)) ?_
  conv=>whnf
  rw [List.length_map, List.length_map]
  have hkd : ((rota.length : Int).tmod (c.slots.length : Int)) = slotI c rota.length := rfl
  rw [hkd]
  refine elemK_i (slotOf c rota.length).cells ⟨hk.1, by simp [hs1]⟩ ?_
  conv=>whnf
  have hmn : (((slotOf c rota.length).men.toNat : Nat) : Int) = (slotOf c rota.length).men := by omega
  refine DrawCall_rep (args' := [.d (intsD []), .d (i64 ((slotOf c rota.length).men.toNat : Nat)), .d (i64 c.men.length)]) (fun yv L F w l h => by
   obtain ⟨x1, l1, rfl, h1, x2, l2, rfl, h2, x3, l3, rfl, h3, h4⟩ := h
   refine ⟨x1, _, rfl, RepD.relax .nils x1 h1, x2, _, rfl, ?_, x3, _, rfl, ?_, h4⟩
   ·rw [hmn]; exact h2
   ·have h3 : RepD F w (.int .i64 ((List.map Man.cells c.men).length : Int)) x3 := h3
    rw [List.length_map] at h3; exact h3) ?_
  refine DrawCall_v (ds := [intsD [], i64 ((slotOf c rota.length).men.toNat : Nat), i64 c.men.length]) (wa70 c.men.length hm.2 (slotOf c rota.length).men.toNat (by omega) [] (fun x hx => by cases hx) (by simp; omega)) rfl rfl ?_
  have hLok := lists_ok (below := c.men.length) (many := (slotOf c rota.length).men.toNat) (p := []) (fun x hx => by cases hx)
  have hLn : (listsF c.men.length (slotOf c rota.length).men.toNat []).length ≤ 25 := Nat.le_trans (listsF_many hm.2) (Nat.le_trans (Nat.pow_le_pow_right (by omega) (show (slotOf c rota.length).men.toNat ≤ 2 by omega)) (by decide))
  generalize listsF c.men.length (slotOf c rota.length).men.toNat [] = Ls at hLok hLn ⊢
  conv=>whnf
  generalize hM : (Ls.filter fun g => decide ((whyR c rota g).1 = 0)) = M
  refine LoopA_i (T := tys) tysOk (by exact drawsB_spec mixed tysOk (by decide +kernel)) Ls (fun i (acc : List (List Int)) => ⟨[(1, .d (rotaD rota)), (2, .ptr 2 0), (5, .d (i64 0)), (7, .d (rotaD Ls)), (8, .sl 57 1 0 acc.length), (9, .d (i64 i))], [(2, .box (.dd c.cells)), (57, .arr 1 (.dd (acc.map fun r => [intsD r])))], st⟩)
   (fun i r acc => acc.length ≤ i ∧ M = acc ++ r.filter fun g => decide ((whyR c rota g).1 = 0)) [] ((Wk.born 8 57 1 rfl rfl rfl).trans (Wk.sub ⟨(by first | rfl | (simp only [List.length_map]; rfl) | simp [PX.get]), (by first | rfl | (simp only [List.length_map]; rfl) | simp [PX.get]), (by first | rfl | (simp only [List.length_map]; rfl) | simp [PX.get]), (by first | rfl | (simp only [List.length_map]; rfl) | simp [PX.get]), (by first | rfl | (simp only [List.length_map]; rfl) | simp [PX.get]), (by first | rfl | (simp only [List.length_map]; rfl) | simp [PX.get]), trivial⟩ ⟨(by first | rfl | (simp only [List.length_map]; rfl) | simp [PX.get]), (by first | rfl | (simp only [List.length_map]; rfl) | simp [PX.get]), trivial⟩)) ⟨by simp, hM.symm⟩ ?_ ?_
  ·rintro i x r acc hx hi hr2 ⟨hal, he⟩
   obtain ⟨hx1, hx2⟩ := hLok x (List.mem_of_getElem? hx)
   rw [List.filter_cons] at he
   conv=>whnf
   refine brk_i (fun _ => ?_) (fun h => absurd hi (by have := of_decide_eq_false h; simp at this; omega))
   conv=>whnf
   refine elemK_nat hx ?_
   conv=>whnf
   refine DrawCall_v (ds := [c.d, rotaD rota, intsD x]) (wa71 c hR rota (by omega) (fun r h => (hrs r h).2) x hx2 (by simp at hx1; omega)) rfl rfl ?_
   conv=>whnf
   refine brk_i (fun h1 => ?_) (fun h1 => ?_)
   ·rw [if_pos h1] at he
    conv=>whnf
    refine elemK_nat hx ?_
    conv=>whnf
    refine ownK_whole rfl ?_
    conv=>whnf
    refine ownK_whole (by simp [Els.len]) ?_
    conv=>whnf
    refine chk_i (decide_eq_true (by
     show ((acc.map fun r => [intsD r]).length + 1) * 24 ≤ 140737488355328
     rw [List.length_map]; omega)) ?_
    conv=>whnf
    refine arith_in (wrap_i64 (by (try dsimp only); omega)) ?_
    conv=>whnf
    refine ⟨acc ++ [x], ⟨by simp; omega, by rw [he]; simp⟩, Wk.sub ⟨rfl, rfl, rfl, rfl, ?_, rfl, trivial⟩ ⟨rfl, ?_, trivial⟩⟩
    ·show some (V.sl 57 1 0 ((acc.map fun r => [intsD r]).length + 1)) = _
     simp
    ·show some (Obj.arr 1 (Els.dd ((acc.map fun r => [intsD r]) ++ [[intsD x]]))) = _
     simp
   ·rw [if_neg (by rw [h1]; simp)] at he
    conv=>whnf
    refine arith_in (wrap_i64 (by (try dsimp only); omega)) ?_
    conv=>whnf
    exact ⟨acc, ⟨by omega, he⟩, (Wk.sub ⟨(by first | rfl | (simp only [List.length_map]; rfl) | simp [PX.get]), (by first | rfl | (simp only [List.length_map]; rfl) | simp [PX.get]), (by first | rfl | (simp only [List.length_map]; rfl) | simp [PX.get]), (by first | rfl | (simp only [List.length_map]; rfl) | simp [PX.get]), (by first | rfl | (simp only [List.length_map]; rfl) | simp [PX.get]), (by first | rfl | (simp only [List.length_map]; rfl) | simp [PX.get]), trivial⟩ ⟨(by first | rfl | (simp only [List.length_map]; rfl) | simp [PX.get]), (by first | rfl | (simp only [List.length_map]; rfl) | simp [PX.get]), trivial⟩)⟩
  ·rintro acc ⟨_, he⟩
   have he : M = acc := by simpa using he
   rw [he]
   conv=>whnf
   refine brk_i (fun h => absurd h (by simp)) (fun _ => ?_)
   conv=>whnf
   refine RetA_view 1 (ds := [rotaD acc, i64 0]) ?_ ⟨⟨rfl, rfl⟩, rfl⟩
   exact viewL_cons (viewV_sl (es := acc.map fun r => [intsD r]) rfl (by simp)) rfl
 ·rw [if_neg h0]
  conv=>whnf
  refine brk_i (fun _ => ?_) (fun h1 => absurd h1 (by simp [h0]))
  conv=>whnf
  exact RetA_view 0 rfl ⟨⟨rfl, rfl⟩, rfl⟩
end Go.PX
namespace Go.PX
open Go.Proofs
def aloneC : WCase := { caseC 2 false with men := [adaM, cidM] }
theorem aw1 : badF (caseC 2 false) (rowsL [0, 2, 0]) = (2, 5, 0, 0) := by decide +kernel
theorem aw2 : goodE (caseC 2 false) (rowsL [0, 2, 1, 0]) = 0 ∧ stoodL 3 (rowsL [0, 2, 1, 0]) = [2, 1, 1] := by decide +kernel
theorem aw3 : goodE (caseC 2 false) (rowsL [0]) = 0 ∧ canL (caseC 2 false) (rowsL [0]) = rowsL [1, 2] := by decide +kernel
theorem aw4 : nextL (caseC 2 false) (rowsL [0]) = rowsL [2] := by decide +kernel
theorem aw5 : entE aloneC [] = 0 ∧ lonW aloneC = 2 := by decide +kernel
theorem aw6 : entE (caseC 2 false) [] = 0 ∧ endB (caseC 2 false) (allMen (caseC 2 false)) .zero = true ∧ endlW (caseC 2 false) = (rowsL [0, 2, 1, 0, 2], 2) := by decide +kernel
theorem aw7 : entE (caseC 1 false) [] = 0 ∧ fewL (caseC 1 false) = [0, 1] := by decide +kernel
theorem aw8 : needL (caseC 2 false) = [0, 1, 2] := by decide +kernel
theorem aw9 : fillE (caseC 2 false) [[], [2], []] = 0 ∧ fillL (caseC 2 false) [[], [2], []] = rowsL [0, 2, 1] := by decide +kernel
theorem aw10 : missE (caseC 2 false) (rowsL [0, 2, 1, 0]) 3 = 0 ∧ missL (caseC 2 false) (rowsL [0, 2, 1, 0]) 3 = [1, 2] := by decide +kernel
theorem aw11 : goodE (caseC 2 false) (rowsL [0, 0]) = 9 := by decide +kernel
theorem kr (l : List Int) (x : Int) (r : List Int) (h : l = x :: r) (hl : l.length ≤ 1000) : FnV Try.prog 42 [intsD l] (rotaD (rowsL l)) := by
 subst h
 exact wa42 _ hl
theorem k17 : FnV Try.prog 17 [(caseC 2 false).d, rotaD (rowsL [0, 2, 0])] (.tup [i64 2, i64 5, i64 0, i64 0]) :=
 FnV.cast (wa17 _ _) (by rw [aw1])
theorem k19 : FnV Try.prog 19 [(caseC 2 false).d, rotaD (rowsL [0, 2, 1, 0])] (.tup [intsD [2, 1, 1], i64 0]) :=
 FnV.cast (wa19 _ _) (by rw [aw2.1, if_pos rfl, show (caseC 2 false).men.length = 3 from rfl, aw2.2])
theorem k22 : FnV Try.prog 22 [(caseC 2 false).d, rotaD (rowsL [0])] (.tup [rotaD (rowsL [1, 2]), i64 0]) :=
 FnV.cast (wa22 _ _) (by rw [aw3.1, if_pos rfl, aw3.2]; rfl)
theorem k25 : FnV Try.prog 25 [(caseC 2 false).d, rotaD (rowsL [0])] (.tup [rotaD (rowsL [2]), i64 0]) :=
 FnV.cast (wa25 _ _) (by rw [aw3.1, if_pos rfl, aw4]; rfl)
theorem k28 : FnV Try.prog 28 [aloneC.d] (.tup [i64 2, i64 0]) :=
 FnV.cast (wa28 _) (by rw [aw5.1, if_pos rfl, aw5.2])
theorem k30 : FnV Try.prog 30 [(caseC 2 false).d] (.tup [rotaD (rowsL [0, 2, 1, 0, 2]), i64 2, i64 0]) :=
 FnV.cast (wa30 _) (by rw [aw6.1, aw6.2.1, aw6.2.2]; rfl)
theorem k32 : FnV Try.prog 32 [(caseC 1 false).d] (.tup [intsD [0, 1], i64 0]) :=
 FnV.cast (wa32 _) (by rw [aw7.1, aw7.2]; rfl)
theorem k34 : FnV Try.prog 34 [(caseC 2 false).d] (.tup [intsD [0, 1, 2], i64 0]) :=
 FnV.cast (wa34 _) (by rw [aw6.1, aw6.2.1, aw8]; rfl)
theorem k36 : FnV Try.prog 36 [(caseC 2 false).d, rotaD [[], [2], []]] (.tup [rotaD (rowsL [0, 2, 1]), i64 0]) :=
 FnV.cast (wa36 _ _) (by rw [aw9.1, aw9.2]; rfl)
theorem k38 : FnV Try.prog 38 [(caseC 2 false).d, rotaD (rowsL [0, 2, 1, 0]), i64 3] (.tup [intsD [1, 2], i64 0]) :=
 FnV.cast (wa38 _ _ _) (by rw [aw10.1, aw10.2]; rfl)
theorem k22b : FnV Try.prog 22 [(caseC 2 false).d, rotaD (rowsL [0, 0])] (.tup [.nils, i64 9]) :=
 FnV.cast (wa22 _ _) (by rw [aw11]; rfl)
theorem wa27 : FnV Try.prog 27 [] (.bool true) := by
 refine fnV_of mixed tysOk Try.func27 rfl (ft := ft27) 0 (by decide +kernel) (by rfl) fun {σ} Y st => ?_
 conv=>whnf
 refine CallA_v (ds := [i64 2, .bool false]) (wa40 2 false) rfl rfl ?_
 conv=>whnf
 refine CallA_v (ds := [i64 2, .bool false]) (wa40 2 false) rfl rfl ?_
 conv=>whnf
 refine DrawCall_fz (ds := [intsD [0, 2, 0]]) (kr [0, 2, 0] _ _ rfl (by simp)) 1 rfl rfl ?_
 conv=>whnf
 refine DrawCall_v (ds := [(caseC 2 false).d, rotaD (rowsL [0, 2, 0])]) k17 rfl rfl ?_
 conv=>whnf
 refine DrawCall_fz (ds := [intsD [0, 2, 1, 0]]) (kr [0, 2, 1, 0] _ _ rfl (by simp)) 1 rfl rfl ?_
 conv=>whnf
 refine DrawCall_v (ds := [(caseC 2 false).d, rotaD (rowsL [0, 2, 1, 0])]) k19 rfl rfl ?_
 conv=>whnf
 refine DrawCall_fz (ds := [intsD [0]]) (kr [0] _ _ rfl (by simp)) 1 rfl rfl ?_
 conv=>whnf
 refine DrawCall_v (ds := [(caseC 2 false).d, rotaD (rowsL [0])]) k22 rfl rfl ?_
 conv=>whnf
 refine DrawCall_fz (ds := [intsD [0]]) (kr [0] _ _ rfl (by simp)) 1 rfl rfl ?_
 conv=>whnf
 refine DrawCall_v (ds := [(caseC 2 false).d, rotaD (rowsL [0])]) k25 rfl rfl ?_
 conv=>whnf
 refine CallA_view (ds := [aloneC.d]) k28 rfl 2 rfl ?_
 conv=>whnf
 refine CallA_v (ds := [(caseC 2 false).d]) k30 rfl rfl ?_
 conv=>whnf
 refine CallA_v (ds := [i64 1, .bool false]) (wa40 1 false) rfl rfl ?_
 conv=>whnf
 refine CallA_v (ds := [(caseC 1 false).d]) k32 rfl rfl ?_
 conv=>whnf
 refine CallA_v (ds := [(caseC 2 false).d]) k34 rfl rfl ?_
 conv=>whnf
 refine CallA_frz 2 [93, 94] ?_
 refine CallA_rep (args' := [.d (caseC 2 false).d, .d (rotaD [[], [2], []])]) (fun yv L F w l h => by
  obtain ⟨x1, l1, rfl, h1, x2, l2, rfl, h2, h3⟩ := h
  exact ⟨x1, _, rfl, h1, x2, _, rfl, RepD.relax (.vs [[.nils], [intsD [2]], [.nils]]) x2 h2, h3⟩) ?_
 refine CallA_v (ds := [(caseC 2 false).d, rotaD [[], [2], []]]) k36 rfl rfl ?_
 conv=>whnf
 refine DrawCall_fz (ds := [intsD [0, 2, 1, 0]]) (kr [0, 2, 1, 0] _ _ rfl (by simp)) 1 rfl rfl ?_
 conv=>whnf
 refine DrawCall_v (ds := [(caseC 2 false).d, rotaD (rowsL [0, 2, 1, 0]), i64 3]) k38 rfl rfl ?_
 conv=>whnf
 refine DrawCall_fz (ds := [intsD [0, 0]]) (kr [0, 0] _ _ rfl (by simp)) 1 rfl rfl ?_
 conv=>whnf
 refine DrawCall_v (ds := [(caseC 2 false).d, rotaD (rowsL [0, 0])]) k22b rfl rfl ?_
 conv=>whnf
 refine CallA_view (ds := [intsD [2, 1, 1], intsD [2, 1, 1]]) (fn19 [2, 1, 1] [2, 1, 1] (by simp)) rfl 1 rfl ?_
 conv=>whnf
 refine CallA_fz (ds := [intsD [1, 2]]) (kr [1, 2] _ _ rfl (by simp)) 1 [173] rfl rfl ?_
 conv=>whnf
 refine CallA_v (ds := [rotaD (rowsL [1, 2]), rotaD (rowsL [1, 2])]) (wa24 (rowsL [1, 2]) (rowsL [1, 2]) (by decide) (by decide)) rfl rfl ?_
 conv=>whnf
 refine CallA_fz (ds := [intsD [2]]) (kr [2] _ _ rfl (by simp)) 1 [179] rfl rfl ?_
 conv=>whnf
 refine CallA_v (ds := [rotaD (rowsL [2]), rotaD (rowsL [2])]) (wa24 (rowsL [2]) (rowsL [2]) (by decide) (by decide)) rfl rfl ?_
 conv=>whnf
 refine CallA_fz (ds := [intsD [0, 2, 1, 0, 2]]) (kr [0, 2, 1, 0, 2] _ _ rfl (by simp)) 1 [189] rfl rfl ?_
 conv=>whnf
 refine CallA_v (ds := [rotaD (rowsL [0, 2, 1, 0, 2]), rotaD (rowsL [0, 2, 1, 0, 2])]) (wa24 (rowsL [0, 2, 1, 0, 2]) (rowsL [0, 2, 1, 0, 2]) (by decide) (by decide)) rfl rfl ?_
 conv=>whnf
 refine CallA_view (ds := [intsD [0, 1], intsD [0, 1]]) (fn19 [0, 1] [0, 1] (by simp)) rfl 1 rfl ?_
 conv=>whnf
 refine CallA_view (ds := [intsD [0, 1, 2], intsD [0, 1, 2]]) (fn19 [0, 1, 2] [0, 1, 2] (by simp)) rfl 1 rfl ?_
 conv=>whnf
 refine CallA_fz (ds := [intsD [0, 2, 1]]) (kr [0, 2, 1] _ _ rfl (by simp)) 1 [209] rfl rfl ?_
 conv=>whnf
 refine CallA_v (ds := [rotaD (rowsL [0, 2, 1]), rotaD (rowsL [0, 2, 1])]) (wa24 (rowsL [0, 2, 1]) (rowsL [0, 2, 1]) (by decide) (by decide)) rfl rfl ?_
 conv=>whnf
 refine CallA_view (ds := [intsD [1, 2], intsD [1, 2]]) (fn19 [1, 2] [1, 2] (by simp)) rfl 1 rfl ?_
 conv=>whnf
 exact RetA_view 0 rfl ⟨⟨rfl, rfl⟩, rfl⟩
end Go.PX
namespace Go.PX
open Go.Proofs
def endT (c : WCase) (rota : List (List Int)) : Tired := (walkF c (allMen c) .zero rota 0).2
def goodW (c : WCase) (rota : List (List Int)) : Prop := (walkF c (allMen c) .zero rota 0).1.1 = -1
end Go.PX
namespace Go.PX
open Go.Proofs
theorem lists_mem {below : Nat} : ∀ {r p : List Int}, ascF below ((startF p : Int) - 1) r = 0 → p ++ r ∈ listsF below r.length p
 | [], p, _ => by simp [listsF]
 | i :: r, p, h => by
  rw [ascF] at h
  split at h
  case isFalse => cases h
  rename_i hb
  split at h
  ·cases h
  rename_i hx
  rw [inB_iff] at hb
  rw [List.length_cons, listsF, List.mem_flatMap]
  obtain ⟨k, rfl⟩ : ∃ k : Nat, i = k := ⟨i.toNat, by omega⟩
  refine ⟨k, ?_, ?_⟩
  ·rw [List.mem_range'_1]; omega
  ·have h2 := lists_mem (r := r) (p := p ++ [(k : Int)]) (by
    rw [startF_snoc, show (((k + 1 : Nat) : Int) - 1) = (k : Int) by omega]; exact h)
   simpa using h2
theorem group_mem {c : WCase} {set : Int} {t : Tired} {g : List Int} (ha : ascF c.men.length (-1) g = 0) (hm : (slotAt c t).men.toNat = g.length) (hw : (whyT c set t g).1 = 0) : (g, behindF c t g) ∈ groupsF c set t := by
 unfold groupsF
 rw [groups_lists (p := []) (start := 0) rfl, List.mem_map]
 refine ⟨g, List.mem_filter.2 ⟨?_, by simpa [whyT] using hw⟩, rfl⟩
 rw [hm]
 have := lists_mem (below := c.men.length) (r := g) (p := []) (by simpa [startF] using ha)
 simpa using this
theorem why_men {c : WCase} {set : Int} {t : Tired} {g : List Int} (hw : (whyT c set t g).1 = 0) : (slotAt c t).men.toNat = g.length := by
 unfold whyT whyF at hw
 split at hw
 ·simp at hw
 ·rename_i h
  have h : (g.length : Int) = (slotAt c t).men := by simpa using h
  omega
theorem group_mem' {c : WCase} {set : Int} {t : Tired} {g : List Int} (ha : ascF c.men.length (-1) g = 0) (hw : (whyT c set t g).1 = 0) : (g, behindF c t g) ∈ groupsF c set t := group_mem ha (why_men hw) hw
structure GoodR (c : WCase) (rota : List (List Int)) : Prop where
 good : goodW c rota
 asc : ∀ r ∈ rota, ascF c.men.length (-1) r = 0
theorem GoodR.of {c : WCase} {rota : List (List Int)} (h : goodE c rota = 0) : GoodR c rota := by
 obtain ⟨hE, hw⟩ := good_at h
 obtain ⟨_, _, hall⟩ := ent_ok hE
 exact ⟨hw, hall⟩
theorem GoodR.rows {c : WCase} (hR : WR c) {rota : List (List Int)} (h : GoodR c rota) : ∀ r ∈ rota, RowIn c r ∧ r.length < 1000000 := fun r hr => by
 refine ⟨asc_in (h.asc r hr), ?_⟩
 have hm := hR.men
 rcases ascF_len (h.asc r hr) with h1 | h1
 ·rw [h1]; simp
 ·omega
theorem GoodR.InU {c : WCase} (hR : WR c) {rota : List (List Int)} (h : GoodR c rota) : InU c (endT c rota) := walk_InU hR (Int.le_refl 0) (InU.zero hR) h.good
theorem next_mem {c : WCase} {rota : List (List Int)} {g : List Int} (h : g ∈ nextL c rota) : ∃ u, (g, u) ∈ groupsF c (allMen c) (endT c rota) ∧ endB c (allMen c) u = true := by
 unfold nextL nextG at h
 obtain ⟨⟨g', u⟩, hp, rfl⟩ := List.mem_map.1 h
 obtain ⟨h1, h2⟩ := List.mem_filter.1 hp
 exact ⟨u, h1, h2⟩
end Go.PX
namespace Go.PX
open Go.Proofs
end Go.PX
namespace Go.PX
open Go.Proofs
theorem why_of {c : WCase} {set : Int} {t : Tired} {s : Slot} {p : List Int} (h1 : (p.length : Int) = s.men) (h2 : ∃ m ∈ p, (manAt c m).kind ≥ s.least) (h3 : ∀ m ∈ p, inSet set m = true ∧ t.slot ∉ (manAt c m).no) (h4 : ∀ m ∈ p, t.get m.toNat < c.run) (h5 : ∀ m ∈ p, 0 ≤ t.get m.toNat) : (whyF c set t s p).1 = 0 := by
 unfold whyF
 rw [if_neg (by simpa using h1)]
 have e2 : (p.any fun m => decide ((manAt c m).kind ≥ s.least)) = true := by
  obtain ⟨m, hm, hk⟩ := h2
  exact List.any_eq_true.2 ⟨m, hm, decide_eq_true hk⟩
 rw [e2, if_neg (by simp)]
 have e3 : p.find? (fun m => !inSet set m || decide (t.slot ∈ (manAt c m).no)) = none := List.find?_eq_none.2 fun m hm => by
  obtain ⟨a, b⟩ := h3 m hm
  simp [a, b]
 have e4 : p.find? (fun m => decide (t.get m.toNat ≥ c.run)) = none := List.find?_eq_none.2 fun m hm => by
  have := h4 m hm
  simp; omega
 have e5 : p.find? (fun m => decide (t.get m.toNat < 0)) = none := List.find?_eq_none.2 fun m hm => by
  have := h5 m hm
  simp; omega
 rw [e3, e4, e5]
end Go.PX
namespace Go.PX
open Go.Proofs
theorem relax_ints (r : List Int) : relax (intsD r) = intsD r := by
 show D.vs (relaxE (r.map fun n => [i64 n])) = _
 congr 1
 induction r with
 | nil => rfl
 | cons x r ih =>
  show relaxL [i64 x] :: relaxE (r.map fun n => [i64 n]) = _
  rw [ih]; rfl
theorem relax_rota (l : List (List Int)) : relax (rotaD l) = rotaD l := by
 show D.vs (relaxE (l.map fun r => [intsD r])) = _
 congr 1
 induction l with
 | nil => rfl
 | cons x r ih =>
  show relaxL [intsD x] :: relaxE (r.map fun r => [intsD r]) = _
  rw [ih]
  show [relax (intsD x)] :: _ = _
  rw [relax_ints]; rfl
end Go.PX
namespace Go.PX
open Go.Proofs Go.RowKit Go.ChangeShapes
theorem c5 : Try.prog.cellsOf 5 = 1 := by kernel_rfl
theorem RepDL.one {F : Nat → Nat} {w : World} {d : D} {v : Value} (h : RepDL F w [d] [v]) : RepD F w d v := by
 obtain ⟨x, l', h1, hd, hl⟩ := h
 cases h1
 exact hd
section
variable (W : World)
end
end Go.PX
namespace Go.PX
open Go.Proofs
theorem laid (W : World) : Laid Try.prog W := by
 have h1 : Try.prog.globalNamed "internal/strconv.uint64pow10" = none := by kernel_rfl
 have h2 : Try.prog.globalNamed "internal/bytealg.MaxLen" = none := by kernel_rfl
 have h3 : Try.prog.globalNamed "strconv.ErrSyntax" = none := by kernel_rfl
 have h4 : Try.prog.globalNamed "strconv.ErrRange" = none := by kernel_rfl
 exact ⟨fun g h => (by rw [h1] at h; cases h), fun g h => (by rw [h2] at h; cases h), fun g h => (by rw [h3] at h; cases h), fun g h => (by rw [h4] at h; cases h)⟩
end Go.PX
namespace Go.PX
open Go.Proofs
end Go.PX
namespace Go.PX.KN
def atL (B : List (List Nat)) (i : Nat) : List Nat := (B[i]?).getD []
def atI (l : List Int) (i : Nat) : Int := (l[i]?).getD 0
def addB (bf : List (List Nat)) (j i : Nat) : List (List Nat) := bf.set j (atL bf j ++ [i])
def addBs (i : Nat) : List Nat → List (List Nat) → List (List Nat)
 | [], bf => bf
 | j :: r, bf => addBs i r (addB bf j i)
def befF : Nat → List (List Nat) → List (List Nat) → List (List Nat)
 | _, [], bf => bf
 | i, l :: r, bf => befF (i + 1) r (addBs i l bf)
structure KS where
 left : List Int
 line : List Nat
def lessK (s : KS) (j : Nat) : KS := ⟨s.left.set j (atI s.left j - 1), if atI s.left j - 1 = 0 then s.line ++ [j] else s.line⟩
def highF (H : List Int) (l : List Nat) : Int := l.foldl (fun h j => max h (atI H j + 1)) 0
def loopK (B bf : List (List Nat)) : Nat → Nat → List Int → KS → List Int
 | 0, _, H, _ => H
 | f + 1, p, H, s => match s.line[p]? with
  | none => H
  | some i => loopK B bf f (p + 1) (H.set i (highF H (atL B i))) ((atL bf i).foldl lessK s)
theorem atI_set {l : List Int} {i j : Nat} {x : Int} (hi : i < l.length) : atI (l.set i x) j = if i = j then x else atI l j := by
 unfold atI
 rw [List.getElem?_set]
 split
 ·rename_i h
  subst h
  simp [hi]
 ·rfl
theorem atL_set {l : List (List Nat)} {i j : Nat} {x : List Nat} (hi : i < l.length) : atL (l.set i x) j = if i = j then x else atL l j := by
 unfold atL
 rw [List.getElem?_set]
 split
 ·rename_i h
  subst h
  simp [hi]
 ·rfl
theorem addBs_len (i : Nat) : ∀ (l : List Nat) (bf : List (List Nat)), (addBs i l bf).length = bf.length
 | [], bf => rfl
 | j :: r, bf => by rw [addBs, addBs_len i r]; simp [addB]
theorem addBs_count (i j u : Nat) : ∀ (l : List Nat) (bf : List (List Nat)), (∀ v ∈ l, v < bf.length) → (atL (addBs i l bf) j).count u = (atL bf j).count u + if u = i then l.count j else 0
 | [], bf, _ => by simp [addBs]
 | v :: r, bf, h => by
  have hv := h v (by simp)
  rw [addBs, addBs_count i j u r (addB bf v i) (fun w hw => by simp only [addB, List.length_set]; exact h w (by simp [hw]))]
  have e : atL (addB bf v i) j = if v = j then atL bf j ++ [i] else atL bf j := by
   unfold addB
   rw [atL_set hv]
   split
   ·rename_i e; subst e; rfl
   ·rfl
  rw [e, List.count_cons]
  by_cases h1 : v = j
  ·subst h1
   rw [if_pos rfl, List.count_append]
   by_cases h2 : u = i
   ·subst h2; simp; omega
   ·have h3 : List.count u [i] = 0 := List.count_eq_zero.2 (by simpa using h2)
    rw [h3]; simp [h2]
  ·rw [if_neg h1]
   simp [h1]
theorem befF_count (j u : Nat) : ∀ (r : List (List Nat)) (i : Nat) (bf : List (List Nat)), (∀ l ∈ r, ∀ v ∈ l, v < bf.length) → (atL (befF i r bf) j).count u = (atL bf j).count u + if i ≤ u then (atL r (u - i)).count j else 0
 | [], i, bf, _ => by simp [befF, atL]
 | l :: r, i, bf, h => by
  rw [befF, befF_count j u r (i + 1) (addBs i l bf) (fun m hm v hv => by rw [addBs_len]; exact h m (by simp [hm]) v hv), addBs_count i j u l bf (h l (by simp))]
  by_cases h1 : u = i
  ·subst h1
   rw [if_pos rfl, if_neg (by omega), if_pos (Nat.le_refl _), Nat.sub_self]
   simp [atL]
  ·by_cases h2 : i + 1 ≤ u
   ·rw [if_neg h1, if_pos h2, if_pos (by omega)]
    have e : atL (l :: r) (u - i) = atL r (u - (i + 1)) := by
     unfold atL
     rw [show u - i = (u - (i + 1)) + 1 by omega, List.getElem?_cons_succ]
    rw [e]; omega
   ·rw [if_neg h1, if_neg h2, if_neg (by omega)]
structure Inner (n : Nat) (s : KS) (rest : List Nat) : Prop where
 len : s.left.length = n
 nodup : s.line.Nodup
 low : ∀ j ∈ s.line, j < n
 zero : ∀ j, j < n → (j ∈ s.line ↔ atI s.left j = 0)
 more : ∀ j, j < n → (rest.count j : Int) ≤ atI s.left j
theorem inner_step {n : Nat} {s : KS} {j : Nat} {rest : List Nat} (hj : j < n) (h : Inner n s (j :: rest)) : Inner n (lessK s j) rest := by
 have h1 := h.more j hj
 rw [List.count_cons_self] at h1
 have hne : j ∉ s.line := fun hm => by
  have := (h.zero j hj).1 hm
  omega
 have hlt : j < s.left.length := by rw [h.len]; exact hj
 have hat : ∀ k, atI (lessK s j).left k = if j = k then atI s.left j - 1 else atI s.left k := fun k => atI_set hlt
 refine ⟨by simp [lessK, h.len], ?_, ?_, ?_, ?_⟩
 ·unfold lessK
  simp only
  split
  ·rw [List.nodup_append]
   exact ⟨h.nodup, by simp, fun a ha b hb => by
    simp at hb
    subst hb
    rintro rfl
    exact hne ha⟩
  ·exact h.nodup
 ·intro k hk
  unfold lessK at hk
  simp only at hk
  split at hk
  ·rcases List.mem_append.1 hk with hk | hk
   ·exact h.low k hk
   ·simp at hk; subst hk; exact hj
  ·exact h.low k hk
 ·intro k hk
  rw [hat k]
  unfold lessK
  simp only
  by_cases hjk : j = k
  ·subst hjk
   rw [if_pos rfl]
   split
   ·rename_i h2; simp [h2]
   ·rename_i h2
    exact ⟨fun h => absurd h hne, fun h => absurd h h2⟩
  ·rw [if_neg hjk]
   split
   ·rw [List.mem_append, ← h.zero k hk]
    simp [Ne.symm hjk]
   ·exact h.zero k hk
 ·intro k hk
  rw [hat k]
  have := h.more k hk
  rw [List.count_cons] at this
  by_cases hjk : j = k
  ·subst hjk
   rw [if_pos rfl]; omega
  ·rw [if_neg hjk]
   have e : (j == k) = false := by simpa using hjk
   rw [e] at this
   simpa using this
theorem inner_fold {n : Nat} : ∀ (l : List Nat) (s : KS) (rest : List Nat), (∀ j ∈ l, j < n) → Inner n s (l ++ rest) → Inner n (l.foldl lessK s) rest ∧ (∀ j, j < n → atI (l.foldl lessK s).left j = atI s.left j - l.count j) ∧ ∃ t, (l.foldl lessK s).line = s.line ++ t
 | [], s, rest, _, h => ⟨h, fun j hj => by simp, [], by simp⟩
 | d :: l, s, rest, hl, h => by
  have hd := hl d (by simp)
  obtain ⟨h1, h2, t, h3⟩ := inner_fold l (lessK s d) rest (fun j hj => hl j (by simp [hj])) (inner_step hd h)
  refine ⟨h1, fun j hj => ?_, ?_⟩
  ·rw [List.foldl_cons, h2 j hj]
   have hlt : d < s.left.length := by rw [h.len]; exact hd
   have e : atI (lessK s d).left j = if d = j then atI s.left d - 1 else atI s.left j := atI_set hlt
   rw [e, List.count_cons]
   by_cases hdj : d = j
   ·subst hdj
    rw [if_pos rfl]; simp; omega
   ·have e2 : (d == j) = false := by simpa using hdj
    rw [if_neg hdj, e2]; simp
  ·rw [List.foldl_cons, h3]
   unfold lessK
   simp only
   split
   ·exact ⟨d :: t, by simp⟩
   ·exact ⟨t, rfl⟩
end Go.PX.KN
