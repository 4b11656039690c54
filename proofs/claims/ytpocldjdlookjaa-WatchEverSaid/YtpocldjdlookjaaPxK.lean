import Derived.Test.YtpocldjdlookjaaPxJ
import Derived.Test.YtpocldjdlookjaaPxI
import Derived.Test.YtpocldjdlookjaaPxH
set_option linter.all false
set_option maxRecDepth 10000
namespace Go.PX
open Go.Proofs
structure Tired where
 slot : Int
 m0 : Int
 m1 : Int
 m2 : Int
 m3 : Int
 m4 : Int
 deriving DecidableEq
def Tired.cells (t : Tired) : List D := [i64 t.slot, i64 t.m0, i64 t.m1, i64 t.m2, i64 t.m3, i64 t.m4]
def Tired.d (t : Tired) : D := .agg t.cells
def Tired.zero : Tired := ⟨0, 0, 0, 0, 0, 0⟩
def Tired.get (t : Tired) : Nat → Int
 | 0 => t.m0
 | 1 => t.m1
 | 2 => t.m2
 | 3 => t.m3
 | _ => t.m4
def Tired.set (t : Tired) (i : Nat) (x : Int) : Tired :=
 match i with
 | 0 => { t with m0 := x }
 | 1 => { t with m1 := x }
 | 2 => { t with m2 := x }
 | 3 => { t with m3 := x }
 | _ => { t with m4 := x }
def tireF (rest : Int) (is : Bool) (n : Int) : Int :=
 if is then n + 1 else if n > 0 then 1 - rest else if n < 0 then n + 1 else n
def tireTo (rest : Int) (group : List Int) : Nat → Tired → Tired
 | 0, t => t
 | n + 1, t => (tireTo rest group n t).set n (tireF rest (decide ((n : Int) ∈ group)) ((tireTo rest group n t).get n))
def behindF (c : WCase) (t : Tired) (group : List Int) : Tired :=
 tireTo c.rest group c.men.length { t with slot := (t.slot + 1).tmod c.slots.length }
structure TOk (t : Tired) : Prop where
 slot : 0 ≤ t.slot ∧ t.slot ≤ 1000
 m0 : -1000 ≤ t.m0 ∧ t.m0 ≤ 1000
 m1 : -1000 ≤ t.m1 ∧ t.m1 ≤ 1000
 m2 : -1000 ≤ t.m2 ∧ t.m2 ≤ 1000
 m3 : -1000 ≤ t.m3 ∧ t.m3 ≤ 1000
 m4 : -1000 ≤ t.m4 ∧ t.m4 ≤ 1000
structure TB (t : Tired) (k : Int) : Prop where
 m0 : -k ≤ t.m0 ∧ t.m0 ≤ k
 m1 : -k ≤ t.m1 ∧ t.m1 ≤ k
 m2 : -k ≤ t.m2 ∧ t.m2 ≤ k
 m3 : -k ≤ t.m3 ∧ t.m3 ≤ k
 m4 : -k ≤ t.m4 ∧ t.m4 ≤ k
theorem wa92 (c : WCase) (hR : WR c) (set : Int) (t : Tired) (ht : TOk t) (group : List Int) (hg : group.length < 4000000000000000000) : FnV Try.prog 92 [crewD c set, t.d, intsD group] (behindF c t group).d := by
 refine fnV_of mixed tysOk Try.func92 rfl (ft := ft92) 3 (by decide +kernel) (by rfl) fun {σ} Y st => ?_
 conv=>whnf
 obtain ⟨hts, ht0, ht1, ht2, ht3, ht4⟩ := ht
 have hm := hR.men
 have hs := hR.slots
 have hr := hR.rest
 refine arith_in (wrap_i64 (by (try dsimp only); omega)) ?_
 conv=>whnf
 refine chk_i (decide_eq_true (by rw [List.length_map]; omega)) ?_
 conv=>whnf
 rw [List.length_map]
 generalize hu : Tired.mk ((t.slot + 1).tmod c.slots.length) t.m0 t.m1 t.m2 t.m3 t.m4 = u0
 have hu0 : TB u0 1000 := by subst hu; exact ⟨ht0, ht1, ht2, ht3, ht4⟩
 have hB : behindF c t group = tireTo c.rest group c.men.length u0 := by subst hu; rfl
 rw [hB]
 refine LoopA_i (T := tys) tysOk (by exact drawsB_spec mixed tysOk (by decide +kernel)) c.men (fun i (u : Tired) => ⟨[(0, .d (crewD c set)), (2, .d (intsD group)), (4, .ptr 4 0), (6, .ptr 6 0), (25, .d (i64 c.men.length)), (26, .d (i64 i))], [(4, .box (.dd u.cells)), (6, .box (.dd Tired.zero.cells))], st⟩) (fun i r u => u = tireTo c.rest group i u0 ∧ TB u (1000 + i)) u0 (by subst hu; exact (Wk.sub (by repeat' first|exact trivial|refine⟨?_,?_⟩|rfl|(simp only[List.length_map];rfl)|simp[PX.get]) (by repeat' first|exact trivial|refine⟨?_,?_⟩|rfl|(simp only[List.length_map];rfl)|simp[PX.get]))) ⟨rfl, by simpa using hu0⟩ ?_ ?_
 ·intro i x r u hx hi hr' he
  obtain ⟨he, hb⟩ := he
  have h5 : i = 0 ∨ i = 1 ∨ i = 2 ∨ i = 3 ∨ i = 4 := by omega
  have hnx : (tireTo c.rest group (i + 1) u0) = u.set i (tireF c.rest (decide ((i : Int) ∈ group)) (u.get i)) := by rw [tireTo, he]
  obtain ⟨hb0, hb1, hb2, hb3, hb4⟩ := hb
  rcases h5 with rfl | rfl | rfl | rfl | rfl
  ·conv=>whnf
   refine brk_i (fun _ => ?_) (fun h => absurd hi (by have := of_decide_eq_false h; omega))
   conv=>whnf
   refine CallA_v (fn63 group _ hg) rfl rfl ?_
   conv=>whnf
   refine brk_i (fun h1 => ?_) (fun h1 => ?_)
   ·rw [h1] at hnx
    conv=>whnf
    repeat' (first
     | (refine arith_in (wrap_i64 (by (try dsimp only); omega)) ?_; conv=>whnf)
     | (refine elemK_nat (by assumption) ?_; conv=>whnf)
     | (refine ownK_whole (by first | rfl | assumption | (simp [Els.len]; done) | (simp [Els.len]; omega)) ?_; conv=>whnf)
     | (refine chk_i (by first | (exact decide_eq_true (by (try simp only [List.length_map]); omega)) | (simp [Els.len, Els.cons, V.cells, Els.toV, injL]; done) | (simp [Els.len, Els.cons, V.cells, Els.toV, injL]; omega)) ?_; conv=>whnf)
     | fail)
    exact ⟨u.set 0 (u.get 0 + 1), ⟨hnx.symm, by constructor <;> simp only [Tired.set, Tired.get] <;> omega⟩, (Wk.sub (by repeat' first|exact trivial|refine⟨?_,?_⟩|rfl|(simp only[List.length_map];rfl)|simp[PX.get]) (by repeat' first|exact trivial|refine⟨?_,?_⟩|rfl|(simp only[List.length_map];rfl)|simp[PX.get]))⟩
   rw [h1] at hnx
   conv=>whnf
   refine brk_i (fun h2 => ?_) (fun h2 => ?_)
   ·have h2 : u.get 0 > 0 := of_decide_eq_true h2
    have hv : tireF c.rest false (u.get 0) = 0 - c.rest + 1 := by simp only [tireF, h2]; simp; omega
    rw [hv] at hnx
    conv=>whnf
    repeat' (first
     | (refine arith_in (wrap_i64 (by (try dsimp only); omega)) ?_; conv=>whnf)
     | (refine elemK_nat (by assumption) ?_; conv=>whnf)
     | (refine ownK_whole (by first | rfl | assumption | (simp [Els.len]; done) | (simp [Els.len]; omega)) ?_; conv=>whnf)
     | (refine chk_i (by first | (exact decide_eq_true (by (try simp only [List.length_map]); omega)) | (simp [Els.len, Els.cons, V.cells, Els.toV, injL]; done) | (simp [Els.len, Els.cons, V.cells, Els.toV, injL]; omega)) ?_; conv=>whnf)
     | fail)
    exact ⟨u.set 0 (0 - c.rest + 1), ⟨hnx.symm, by constructor <;> simp only [Tired.set, Tired.get] <;> omega⟩, (Wk.sub (by repeat' first|exact trivial|refine⟨?_,?_⟩|rfl|(simp only[List.length_map];rfl)|simp[PX.get]) (by repeat' first|exact trivial|refine⟨?_,?_⟩|rfl|(simp only[List.length_map];rfl)|simp[PX.get]))⟩
   have h2 : ¬ u.get 0 > 0 := of_decide_eq_false h2
   conv=>whnf
   refine brk_i (fun h3 => ?_) (fun h3 => ?_)
   ·have h3 : u.get 0 < 0 := of_decide_eq_true h3
    have hv : tireF c.rest false (u.get 0) = u.get 0 + 1 := by simp [tireF, h2, h3]
    rw [hv] at hnx
    conv=>whnf
    repeat' (first
     | (refine arith_in (wrap_i64 (by (try dsimp only); omega)) ?_; conv=>whnf)
     | (refine elemK_nat (by assumption) ?_; conv=>whnf)
     | (refine ownK_whole (by first | rfl | assumption | (simp [Els.len]; done) | (simp [Els.len]; omega)) ?_; conv=>whnf)
     | (refine chk_i (by first | (exact decide_eq_true (by (try simp only [List.length_map]); omega)) | (simp [Els.len, Els.cons, V.cells, Els.toV, injL]; done) | (simp [Els.len, Els.cons, V.cells, Els.toV, injL]; omega)) ?_; conv=>whnf)
     | fail)
    exact ⟨u.set 0 (u.get 0 + 1), ⟨hnx.symm, by constructor <;> simp only [Tired.set, Tired.get] <;> omega⟩, (Wk.sub (by repeat' first|exact trivial|refine⟨?_,?_⟩|rfl|(simp only[List.length_map];rfl)|simp[PX.get]) (by repeat' first|exact trivial|refine⟨?_,?_⟩|rfl|(simp only[List.length_map];rfl)|simp[PX.get]))⟩
   have h3 : ¬ u.get 0 < 0 := of_decide_eq_false h3
   have hv : tireF c.rest false (u.get 0) = u.get 0 := by simp [tireF, h2, h3]
   rw [hv] at hnx
   conv=>whnf
   repeat' (first
    | (refine arith_in (wrap_i64 (by (try dsimp only); omega)) ?_; conv=>whnf)
    | (refine elemK_nat (by assumption) ?_; conv=>whnf)
    | (refine ownK_whole (by first | rfl | assumption | (simp [Els.len]; done) | (simp [Els.len]; omega)) ?_; conv=>whnf)
    | (refine chk_i (by first | (exact decide_eq_true (by (try simp only [List.length_map]); omega)) | (simp [Els.len, Els.cons, V.cells, Els.toV, injL]; done) | (simp [Els.len, Els.cons, V.cells, Els.toV, injL]; omega)) ?_; conv=>whnf)
    | fail)
   exact ⟨u.set 0 (u.get 0), ⟨hnx.symm, by constructor <;> simp only [Tired.set, Tired.get] <;> omega⟩, (Wk.sub (by repeat' first|exact trivial|refine⟨?_,?_⟩|rfl|(simp only[List.length_map];rfl)|simp[PX.get]) (by repeat' first|exact trivial|refine⟨?_,?_⟩|rfl|(simp only[List.length_map];rfl)|simp[PX.get]))⟩
  ·conv=>whnf
   refine brk_i (fun _ => ?_) (fun h => absurd hi (by have := of_decide_eq_false h; omega))
   conv=>whnf
   refine CallA_v (fn63 group _ hg) rfl rfl ?_
   conv=>whnf
   refine brk_i (fun h1 => ?_) (fun h1 => ?_)
   ·rw [h1] at hnx
    conv=>whnf
    repeat' (first
     | (refine arith_in (wrap_i64 (by (try dsimp only); omega)) ?_; conv=>whnf)
     | (refine elemK_nat (by assumption) ?_; conv=>whnf)
     | (refine ownK_whole (by first | rfl | assumption | (simp [Els.len]; done) | (simp [Els.len]; omega)) ?_; conv=>whnf)
     | (refine chk_i (by first | (exact decide_eq_true (by (try simp only [List.length_map]); omega)) | (simp [Els.len, Els.cons, V.cells, Els.toV, injL]; done) | (simp [Els.len, Els.cons, V.cells, Els.toV, injL]; omega)) ?_; conv=>whnf)
     | fail)
    exact ⟨u.set 1 (u.get 1 + 1), ⟨hnx.symm, by constructor <;> simp only [Tired.set, Tired.get] <;> omega⟩, (Wk.sub (by repeat' first|exact trivial|refine⟨?_,?_⟩|rfl|(simp only[List.length_map];rfl)|simp[PX.get]) (by repeat' first|exact trivial|refine⟨?_,?_⟩|rfl|(simp only[List.length_map];rfl)|simp[PX.get]))⟩
   rw [h1] at hnx
   conv=>whnf
   refine brk_i (fun h2 => ?_) (fun h2 => ?_)
   ·have h2 : u.get 1 > 0 := of_decide_eq_true h2
    have hv : tireF c.rest false (u.get 1) = 0 - c.rest + 1 := by simp only [tireF, h2]; simp; omega
    rw [hv] at hnx
    conv=>whnf
    repeat' (first
     | (refine arith_in (wrap_i64 (by (try dsimp only); omega)) ?_; conv=>whnf)
     | (refine elemK_nat (by assumption) ?_; conv=>whnf)
     | (refine ownK_whole (by first | rfl | assumption | (simp [Els.len]; done) | (simp [Els.len]; omega)) ?_; conv=>whnf)
     | (refine chk_i (by first | (exact decide_eq_true (by (try simp only [List.length_map]); omega)) | (simp [Els.len, Els.cons, V.cells, Els.toV, injL]; done) | (simp [Els.len, Els.cons, V.cells, Els.toV, injL]; omega)) ?_; conv=>whnf)
     | fail)
    exact ⟨u.set 1 (0 - c.rest + 1), ⟨hnx.symm, by constructor <;> simp only [Tired.set, Tired.get] <;> omega⟩, (Wk.sub (by repeat' first|exact trivial|refine⟨?_,?_⟩|rfl|(simp only[List.length_map];rfl)|simp[PX.get]) (by repeat' first|exact trivial|refine⟨?_,?_⟩|rfl|(simp only[List.length_map];rfl)|simp[PX.get]))⟩
   have h2 : ¬ u.get 1 > 0 := of_decide_eq_false h2
   conv=>whnf
   refine brk_i (fun h3 => ?_) (fun h3 => ?_)
   ·have h3 : u.get 1 < 0 := of_decide_eq_true h3
    have hv : tireF c.rest false (u.get 1) = u.get 1 + 1 := by simp [tireF, h2, h3]
    rw [hv] at hnx
    conv=>whnf
    repeat' (first
     | (refine arith_in (wrap_i64 (by (try dsimp only); omega)) ?_; conv=>whnf)
     | (refine elemK_nat (by assumption) ?_; conv=>whnf)
     | (refine ownK_whole (by first | rfl | assumption | (simp [Els.len]; done) | (simp [Els.len]; omega)) ?_; conv=>whnf)
     | (refine chk_i (by first | (exact decide_eq_true (by (try simp only [List.length_map]); omega)) | (simp [Els.len, Els.cons, V.cells, Els.toV, injL]; done) | (simp [Els.len, Els.cons, V.cells, Els.toV, injL]; omega)) ?_; conv=>whnf)
     | fail)
    exact ⟨u.set 1 (u.get 1 + 1), ⟨hnx.symm, by constructor <;> simp only [Tired.set, Tired.get] <;> omega⟩, (Wk.sub (by repeat' first|exact trivial|refine⟨?_,?_⟩|rfl|(simp only[List.length_map];rfl)|simp[PX.get]) (by repeat' first|exact trivial|refine⟨?_,?_⟩|rfl|(simp only[List.length_map];rfl)|simp[PX.get]))⟩
   have h3 : ¬ u.get 1 < 0 := of_decide_eq_false h3
   have hv : tireF c.rest false (u.get 1) = u.get 1 := by simp [tireF, h2, h3]
   rw [hv] at hnx
   conv=>whnf
   repeat' (first
    | (refine arith_in (wrap_i64 (by (try dsimp only); omega)) ?_; conv=>whnf)
    | (refine elemK_nat (by assumption) ?_; conv=>whnf)
    | (refine ownK_whole (by first | rfl | assumption | (simp [Els.len]; done) | (simp [Els.len]; omega)) ?_; conv=>whnf)
    | (refine chk_i (by first | (exact decide_eq_true (by (try simp only [List.length_map]); omega)) | (simp [Els.len, Els.cons, V.cells, Els.toV, injL]; done) | (simp [Els.len, Els.cons, V.cells, Els.toV, injL]; omega)) ?_; conv=>whnf)
    | fail)
   exact ⟨u.set 1 (u.get 1), ⟨hnx.symm, by constructor <;> simp only [Tired.set, Tired.get] <;> omega⟩, (Wk.sub (by repeat' first|exact trivial|refine⟨?_,?_⟩|rfl|(simp only[List.length_map];rfl)|simp[PX.get]) (by repeat' first|exact trivial|refine⟨?_,?_⟩|rfl|(simp only[List.length_map];rfl)|simp[PX.get]))⟩
  ·conv=>whnf
   refine brk_i (fun _ => ?_) (fun h => absurd hi (by have := of_decide_eq_false h; omega))
   conv=>whnf
   refine CallA_v (fn63 group _ hg) rfl rfl ?_
   conv=>whnf
   refine brk_i (fun h1 => ?_) (fun h1 => ?_)
   ·rw [h1] at hnx
    conv=>whnf
    repeat' (first
     | (refine arith_in (wrap_i64 (by (try dsimp only); omega)) ?_; conv=>whnf)
     | (refine elemK_nat (by assumption) ?_; conv=>whnf)
     | (refine ownK_whole (by first | rfl | assumption | (simp [Els.len]; done) | (simp [Els.len]; omega)) ?_; conv=>whnf)
     | (refine chk_i (by first | (exact decide_eq_true (by (try simp only [List.length_map]); omega)) | (simp [Els.len, Els.cons, V.cells, Els.toV, injL]; done) | (simp [Els.len, Els.cons, V.cells, Els.toV, injL]; omega)) ?_; conv=>whnf)
     | fail)
    exact ⟨u.set 2 (u.get 2 + 1), ⟨hnx.symm, by constructor <;> simp only [Tired.set, Tired.get] <;> omega⟩, (Wk.sub (by repeat' first|exact trivial|refine⟨?_,?_⟩|rfl|(simp only[List.length_map];rfl)|simp[PX.get]) (by repeat' first|exact trivial|refine⟨?_,?_⟩|rfl|(simp only[List.length_map];rfl)|simp[PX.get]))⟩
   rw [h1] at hnx
   conv=>whnf
   refine brk_i (fun h2 => ?_) (fun h2 => ?_)
   ·have h2 : u.get 2 > 0 := of_decide_eq_true h2
    have hv : tireF c.rest false (u.get 2) = 0 - c.rest + 1 := by simp only [tireF, h2]; simp; omega
    rw [hv] at hnx
    conv=>whnf
    repeat' (first
     | (refine arith_in (wrap_i64 (by (try dsimp only); omega)) ?_; conv=>whnf)
     | (refine elemK_nat (by assumption) ?_; conv=>whnf)
     | (refine ownK_whole (by first | rfl | assumption | (simp [Els.len]; done) | (simp [Els.len]; omega)) ?_; conv=>whnf)
     | (refine chk_i (by first | (exact decide_eq_true (by (try simp only [List.length_map]); omega)) | (simp [Els.len, Els.cons, V.cells, Els.toV, injL]; done) | (simp [Els.len, Els.cons, V.cells, Els.toV, injL]; omega)) ?_; conv=>whnf)
     | fail)
    exact ⟨u.set 2 (0 - c.rest + 1), ⟨hnx.symm, by constructor <;> simp only [Tired.set, Tired.get] <;> omega⟩, (Wk.sub (by repeat' first|exact trivial|refine⟨?_,?_⟩|rfl|(simp only[List.length_map];rfl)|simp[PX.get]) (by repeat' first|exact trivial|refine⟨?_,?_⟩|rfl|(simp only[List.length_map];rfl)|simp[PX.get]))⟩
   have h2 : ¬ u.get 2 > 0 := of_decide_eq_false h2
   conv=>whnf
   refine brk_i (fun h3 => ?_) (fun h3 => ?_)
   ·have h3 : u.get 2 < 0 := of_decide_eq_true h3
    have hv : tireF c.rest false (u.get 2) = u.get 2 + 1 := by simp [tireF, h2, h3]
    rw [hv] at hnx
    conv=>whnf
    repeat' (first
     | (refine arith_in (wrap_i64 (by (try dsimp only); omega)) ?_; conv=>whnf)
     | (refine elemK_nat (by assumption) ?_; conv=>whnf)
     | (refine ownK_whole (by first | rfl | assumption | (simp [Els.len]; done) | (simp [Els.len]; omega)) ?_; conv=>whnf)
     | (refine chk_i (by first | (exact decide_eq_true (by (try simp only [List.length_map]); omega)) | (simp [Els.len, Els.cons, V.cells, Els.toV, injL]; done) | (simp [Els.len, Els.cons, V.cells, Els.toV, injL]; omega)) ?_; conv=>whnf)
     | fail)
    exact ⟨u.set 2 (u.get 2 + 1), ⟨hnx.symm, by constructor <;> simp only [Tired.set, Tired.get] <;> omega⟩, (Wk.sub (by repeat' first|exact trivial|refine⟨?_,?_⟩|rfl|(simp only[List.length_map];rfl)|simp[PX.get]) (by repeat' first|exact trivial|refine⟨?_,?_⟩|rfl|(simp only[List.length_map];rfl)|simp[PX.get]))⟩
   have h3 : ¬ u.get 2 < 0 := of_decide_eq_false h3
   have hv : tireF c.rest false (u.get 2) = u.get 2 := by simp [tireF, h2, h3]
   rw [hv] at hnx
   conv=>whnf
   repeat' (first
    | (refine arith_in (wrap_i64 (by (try dsimp only); omega)) ?_; conv=>whnf)
    | (refine elemK_nat (by assumption) ?_; conv=>whnf)
    | (refine ownK_whole (by first | rfl | assumption | (simp [Els.len]; done) | (simp [Els.len]; omega)) ?_; conv=>whnf)
    | (refine chk_i (by first | (exact decide_eq_true (by (try simp only [List.length_map]); omega)) | (simp [Els.len, Els.cons, V.cells, Els.toV, injL]; done) | (simp [Els.len, Els.cons, V.cells, Els.toV, injL]; omega)) ?_; conv=>whnf)
    | fail)
   exact ⟨u.set 2 (u.get 2), ⟨hnx.symm, by constructor <;> simp only [Tired.set, Tired.get] <;> omega⟩, (Wk.sub (by repeat' first|exact trivial|refine⟨?_,?_⟩|rfl|(simp only[List.length_map];rfl)|simp[PX.get]) (by repeat' first|exact trivial|refine⟨?_,?_⟩|rfl|(simp only[List.length_map];rfl)|simp[PX.get]))⟩
  ·conv=>whnf
   refine brk_i (fun _ => ?_) (fun h => absurd hi (by have := of_decide_eq_false h; omega))
   conv=>whnf
   refine CallA_v (fn63 group _ hg) rfl rfl ?_
   conv=>whnf
   refine brk_i (fun h1 => ?_) (fun h1 => ?_)
   ·rw [h1] at hnx
    conv=>whnf
    repeat' (first
     | (refine arith_in (wrap_i64 (by (try dsimp only); omega)) ?_; conv=>whnf)
     | (refine elemK_nat (by assumption) ?_; conv=>whnf)
     | (refine ownK_whole (by first | rfl | assumption | (simp [Els.len]; done) | (simp [Els.len]; omega)) ?_; conv=>whnf)
     | (refine chk_i (by first | (exact decide_eq_true (by (try simp only [List.length_map]); omega)) | (simp [Els.len, Els.cons, V.cells, Els.toV, injL]; done) | (simp [Els.len, Els.cons, V.cells, Els.toV, injL]; omega)) ?_; conv=>whnf)
     | fail)
    exact ⟨u.set 3 (u.get 3 + 1), ⟨hnx.symm, by constructor <;> simp only [Tired.set, Tired.get] <;> omega⟩, (Wk.sub (by repeat' first|exact trivial|refine⟨?_,?_⟩|rfl|(simp only[List.length_map];rfl)|simp[PX.get]) (by repeat' first|exact trivial|refine⟨?_,?_⟩|rfl|(simp only[List.length_map];rfl)|simp[PX.get]))⟩
   rw [h1] at hnx
   conv=>whnf
   refine brk_i (fun h2 => ?_) (fun h2 => ?_)
   ·have h2 : u.get 3 > 0 := of_decide_eq_true h2
    have hv : tireF c.rest false (u.get 3) = 0 - c.rest + 1 := by simp only [tireF, h2]; simp; omega
    rw [hv] at hnx
    conv=>whnf
    repeat' (first
     | (refine arith_in (wrap_i64 (by (try dsimp only); omega)) ?_; conv=>whnf)
     | (refine elemK_nat (by assumption) ?_; conv=>whnf)
     | (refine ownK_whole (by first | rfl | assumption | (simp [Els.len]; done) | (simp [Els.len]; omega)) ?_; conv=>whnf)
     | (refine chk_i (by first | (exact decide_eq_true (by (try simp only [List.length_map]); omega)) | (simp [Els.len, Els.cons, V.cells, Els.toV, injL]; done) | (simp [Els.len, Els.cons, V.cells, Els.toV, injL]; omega)) ?_; conv=>whnf)
     | fail)
    exact ⟨u.set 3 (0 - c.rest + 1), ⟨hnx.symm, by constructor <;> simp only [Tired.set, Tired.get] <;> omega⟩, (Wk.sub (by repeat' first|exact trivial|refine⟨?_,?_⟩|rfl|(simp only[List.length_map];rfl)|simp[PX.get]) (by repeat' first|exact trivial|refine⟨?_,?_⟩|rfl|(simp only[List.length_map];rfl)|simp[PX.get]))⟩
   have h2 : ¬ u.get 3 > 0 := of_decide_eq_false h2
   conv=>whnf
   refine brk_i (fun h3 => ?_) (fun h3 => ?_)
   ·have h3 : u.get 3 < 0 := of_decide_eq_true h3
    have hv : tireF c.rest false (u.get 3) = u.get 3 + 1 := by simp [tireF, h2, h3]
    rw [hv] at hnx
    conv=>whnf
    repeat' (first
     | (refine arith_in (wrap_i64 (by (try dsimp only); omega)) ?_; conv=>whnf)
     | (refine elemK_nat (by assumption) ?_; conv=>whnf)
     | (refine ownK_whole (by first | rfl | assumption | (simp [Els.len]; done) | (simp [Els.len]; omega)) ?_; conv=>whnf)
     | (refine chk_i (by first | (exact decide_eq_true (by (try simp only [List.length_map]); omega)) | (simp [Els.len, Els.cons, V.cells, Els.toV, injL]; done) | (simp [Els.len, Els.cons, V.cells, Els.toV, injL]; omega)) ?_; conv=>whnf)
     | fail)
    exact ⟨u.set 3 (u.get 3 + 1), ⟨hnx.symm, by constructor <;> simp only [Tired.set, Tired.get] <;> omega⟩, (Wk.sub (by repeat' first|exact trivial|refine⟨?_,?_⟩|rfl|(simp only[List.length_map];rfl)|simp[PX.get]) (by repeat' first|exact trivial|refine⟨?_,?_⟩|rfl|(simp only[List.length_map];rfl)|simp[PX.get]))⟩
   have h3 : ¬ u.get 3 < 0 := of_decide_eq_false h3
   have hv : tireF c.rest false (u.get 3) = u.get 3 := by simp [tireF, h2, h3]
   rw [hv] at hnx
   conv=>whnf
   repeat' (first
    | (refine arith_in (wrap_i64 (by (try dsimp only); omega)) ?_; conv=>whnf)
    | (refine elemK_nat (by assumption) ?_; conv=>whnf)
    | (refine ownK_whole (by first | rfl | assumption | (simp [Els.len]; done) | (simp [Els.len]; omega)) ?_; conv=>whnf)
    | (refine chk_i (by first | (exact decide_eq_true (by (try simp only [List.length_map]); omega)) | (simp [Els.len, Els.cons, V.cells, Els.toV, injL]; done) | (simp [Els.len, Els.cons, V.cells, Els.toV, injL]; omega)) ?_; conv=>whnf)
    | fail)
   exact ⟨u.set 3 (u.get 3), ⟨hnx.symm, by constructor <;> simp only [Tired.set, Tired.get] <;> omega⟩, (Wk.sub (by repeat' first|exact trivial|refine⟨?_,?_⟩|rfl|(simp only[List.length_map];rfl)|simp[PX.get]) (by repeat' first|exact trivial|refine⟨?_,?_⟩|rfl|(simp only[List.length_map];rfl)|simp[PX.get]))⟩
  ·conv=>whnf
   refine brk_i (fun _ => ?_) (fun h => absurd hi (by have := of_decide_eq_false h; omega))
   conv=>whnf
   refine CallA_v (fn63 group _ hg) rfl rfl ?_
   conv=>whnf
   refine brk_i (fun h1 => ?_) (fun h1 => ?_)
   ·rw [h1] at hnx
    conv=>whnf
    repeat' (first
     | (refine arith_in (wrap_i64 (by (try dsimp only); omega)) ?_; conv=>whnf)
     | (refine elemK_nat (by assumption) ?_; conv=>whnf)
     | (refine ownK_whole (by first | rfl | assumption | (simp [Els.len]; done) | (simp [Els.len]; omega)) ?_; conv=>whnf)
     | (refine chk_i (by first | (exact decide_eq_true (by (try simp only [List.length_map]); omega)) | (simp [Els.len, Els.cons, V.cells, Els.toV, injL]; done) | (simp [Els.len, Els.cons, V.cells, Els.toV, injL]; omega)) ?_; conv=>whnf)
     | fail)
    exact ⟨u.set 4 (u.get 4 + 1), ⟨hnx.symm, by constructor <;> simp only [Tired.set, Tired.get] <;> omega⟩, (Wk.sub (by repeat' first|exact trivial|refine⟨?_,?_⟩|rfl|(simp only[List.length_map];rfl)|simp[PX.get]) (by repeat' first|exact trivial|refine⟨?_,?_⟩|rfl|(simp only[List.length_map];rfl)|simp[PX.get]))⟩
   rw [h1] at hnx
   conv=>whnf
   refine brk_i (fun h2 => ?_) (fun h2 => ?_)
   ·have h2 : u.get 4 > 0 := of_decide_eq_true h2
    have hv : tireF c.rest false (u.get 4) = 0 - c.rest + 1 := by simp only [tireF, h2]; simp; omega
    rw [hv] at hnx
    conv=>whnf
    repeat' (first
     | (refine arith_in (wrap_i64 (by (try dsimp only); omega)) ?_; conv=>whnf)
     | (refine elemK_nat (by assumption) ?_; conv=>whnf)
     | (refine ownK_whole (by first | rfl | assumption | (simp [Els.len]; done) | (simp [Els.len]; omega)) ?_; conv=>whnf)
     | (refine chk_i (by first | (exact decide_eq_true (by (try simp only [List.length_map]); omega)) | (simp [Els.len, Els.cons, V.cells, Els.toV, injL]; done) | (simp [Els.len, Els.cons, V.cells, Els.toV, injL]; omega)) ?_; conv=>whnf)
     | fail)
    exact ⟨u.set 4 (0 - c.rest + 1), ⟨hnx.symm, by constructor <;> simp only [Tired.set, Tired.get] <;> omega⟩, (Wk.sub (by repeat' first|exact trivial|refine⟨?_,?_⟩|rfl|(simp only[List.length_map];rfl)|simp[PX.get]) (by repeat' first|exact trivial|refine⟨?_,?_⟩|rfl|(simp only[List.length_map];rfl)|simp[PX.get]))⟩
   have h2 : ¬ u.get 4 > 0 := of_decide_eq_false h2
   conv=>whnf
   refine brk_i (fun h3 => ?_) (fun h3 => ?_)
   ·have h3 : u.get 4 < 0 := of_decide_eq_true h3
    have hv : tireF c.rest false (u.get 4) = u.get 4 + 1 := by simp [tireF, h2, h3]
    rw [hv] at hnx
    conv=>whnf
    repeat' (first
     | (refine arith_in (wrap_i64 (by (try dsimp only); omega)) ?_; conv=>whnf)
     | (refine elemK_nat (by assumption) ?_; conv=>whnf)
     | (refine ownK_whole (by first | rfl | assumption | (simp [Els.len]; done) | (simp [Els.len]; omega)) ?_; conv=>whnf)
     | (refine chk_i (by first | (exact decide_eq_true (by (try simp only [List.length_map]); omega)) | (simp [Els.len, Els.cons, V.cells, Els.toV, injL]; done) | (simp [Els.len, Els.cons, V.cells, Els.toV, injL]; omega)) ?_; conv=>whnf)
     | fail)
    exact ⟨u.set 4 (u.get 4 + 1), ⟨hnx.symm, by constructor <;> simp only [Tired.set, Tired.get] <;> omega⟩, (Wk.sub (by repeat' first|exact trivial|refine⟨?_,?_⟩|rfl|(simp only[List.length_map];rfl)|simp[PX.get]) (by repeat' first|exact trivial|refine⟨?_,?_⟩|rfl|(simp only[List.length_map];rfl)|simp[PX.get]))⟩
   have h3 : ¬ u.get 4 < 0 := of_decide_eq_false h3
   have hv : tireF c.rest false (u.get 4) = u.get 4 := by simp [tireF, h2, h3]
   rw [hv] at hnx
   conv=>whnf
   repeat' (first
    | (refine arith_in (wrap_i64 (by (try dsimp only); omega)) ?_; conv=>whnf)
    | (refine elemK_nat (by assumption) ?_; conv=>whnf)
    | (refine ownK_whole (by first | rfl | assumption | (simp [Els.len]; done) | (simp [Els.len]; omega)) ?_; conv=>whnf)
    | (refine chk_i (by first | (exact decide_eq_true (by (try simp only [List.length_map]); omega)) | (simp [Els.len, Els.cons, V.cells, Els.toV, injL]; done) | (simp [Els.len, Els.cons, V.cells, Els.toV, injL]; omega)) ?_; conv=>whnf)
    | fail)
   exact ⟨u.set 4 (u.get 4), ⟨hnx.symm, by constructor <;> simp only [Tired.set, Tired.get] <;> omega⟩, (Wk.sub (by repeat' first|exact trivial|refine⟨?_,?_⟩|rfl|(simp only[List.length_map];rfl)|simp[PX.get]) (by repeat' first|exact trivial|refine⟨?_,?_⟩|rfl|(simp only[List.length_map];rfl)|simp[PX.get]))⟩
 ·intro u he
  obtain ⟨he, hb⟩ := he
  conv=>whnf
  refine brk_i (fun h => absurd h (by simp)) (fun _ => ?_)
  conv=>whnf
  rw [← he]
  exact RetA_view 0 rfl ⟨⟨rfl, rfl⟩, rfl⟩
end Go.PX
namespace Go.PX
open Go.Proofs
def manAt (c : WCase) (m : Int) : Man := (c.men[m.toNat]?).getD ⟨⟨#[]⟩, 0, []⟩
def inSet (set m : Int) : Bool := !decide (bitsI .and .i64 (set.fdiv (2 ^ (min m.toNat 64))) 1 = 0)
theorem wa104 (c : WCase) (set : Int) (s : Slot) (k : Nat) (x : Man) (hx : c.men[k]? = some x) : FnV Try.prog 104 [i64 k, .ref [crewD c set], .ref s.cells] (.bool (decide (x.kind ≥ s.least))) := by
 refine fnV_of mixed tysOk Try.func104 rfl (ft := ft104) 3 (by decide +kernel) (by rfl) fun {σ} Y st => ?_
 conv=>whnf
 refine elemK_nat hx ?_
 conv=>whnf
 exact RetA_view 0 rfl ⟨⟨rfl, rfl⟩, rfl⟩
theorem wa108 (t : Tired) (k : Nat) (hk : k < 5) : FnV Try.prog 108 [i64 k, .ref t.cells] (.bool (decide (t.get k < 0))) := by
 refine fnV_of mixed tysOk Try.func108 rfl (ft := ft108) 2 (by decide +kernel) (by rfl) fun {σ} Y st => ?_
 conv=>whnf
 have h5 : k = 0 ∨ k = 1 ∨ k = 2 ∨ k = 3 ∨ k = 4 := by omega
 rcases h5 with rfl | rfl | rfl | rfl | rfl
 ·conv=>whnf
  exact RetA_view 0 rfl ⟨⟨rfl, rfl⟩, rfl⟩
 ·conv=>whnf
  exact RetA_view 0 rfl ⟨⟨rfl, rfl⟩, rfl⟩
 ·conv=>whnf
  exact RetA_view 0 rfl ⟨⟨rfl, rfl⟩, rfl⟩
 ·conv=>whnf
  exact RetA_view 0 rfl ⟨⟨rfl, rfl⟩, rfl⟩
 ·conv=>whnf
  exact RetA_view 0 rfl ⟨⟨rfl, rfl⟩, rfl⟩
theorem wa107 (c : WCase) (set : Int) (t : Tired) (k : Nat) (hk : k < 5) : FnV Try.prog 107 [i64 k, .ref t.cells, .ref [crewD c set]] (.bool (decide (t.get k ≥ c.run))) := by
 refine fnV_of mixed tysOk Try.func107 rfl (ft := ft107) 3 (by decide +kernel) (by rfl) fun {σ} Y st => ?_
 conv=>whnf
 have h5 : k = 0 ∨ k = 1 ∨ k = 2 ∨ k = 3 ∨ k = 4 := by omega
 rcases h5 with rfl | rfl | rfl | rfl | rfl
 ·conv=>whnf
  exact RetA_view 0 rfl ⟨⟨rfl, rfl⟩, rfl⟩
 ·conv=>whnf
  exact RetA_view 0 rfl ⟨⟨rfl, rfl⟩, rfl⟩
 ·conv=>whnf
  exact RetA_view 0 rfl ⟨⟨rfl, rfl⟩, rfl⟩
 ·conv=>whnf
  exact RetA_view 0 rfl ⟨⟨rfl, rfl⟩, rfl⟩
 ·conv=>whnf
  exact RetA_view 0 rfl ⟨⟨rfl, rfl⟩, rfl⟩
theorem wa105 (c : WCase) (set : Int) (t : Tired) (k : Nat) (x : Man) (hx : c.men[k]? = some x) (hn : x.no.length < 4000000000000000000) : FnV Try.prog 105 [i64 k, .ref [crewD c set], .ref t.cells] (.bool (!inSet set k || decide (t.slot ∈ x.no))) := by
 refine fnV_of mixed tysOk Try.func105 rfl (ft := ft105) 3 (by decide +kernel) (by rfl) fun {σ} Y st => ?_
 conv=>whnf
 have hb : decide (bitsI .and .i64 (set.fdiv (2 ^ min (k : Int).toNat IntKind.i64.bits)) 1 = 0) = !inSet set k := by
  unfold inSet
  rw [Bool.not_not]; rfl
 rw [hb]
 cases hs : inSet set k
 ·conv=>whnf
  exact RetA_view 0 rfl ⟨⟨rfl, rfl⟩, rfl⟩
 conv=>whnf
 refine elemK_nat hx ?_
 conv=>whnf
 refine DrawCall_v (fn63 x.no t.slot hn) rfl rfl ?_
 conv=>whnf
 exact RetA_view 0 rfl ⟨⟨rfl, rfl⟩, rfl⟩
end Go.PX
namespace Go.PX
open Go.Proofs
def whyF (c : WCase) (set : Int) (t : Tired) (s : Slot) (group : List Int) : Int × Int :=
 if (group.length : Int) ≠ s.men then (1, 0)
 else if !group.any (fun m => decide ((manAt c m).kind ≥ s.least)) then (2, 0)
 else match group.find? (fun m => !inSet set m || decide (t.slot ∈ (manAt c m).no)) with
  | some m => (3, m)
  | none => match group.find? (fun m => decide (t.get m.toNat ≥ c.run)) with
   | some m => (4, m)
   | none => match group.find? (fun m => decide (t.get m.toNat < 0)) with
    | some m => (5, m)
    | none => (0, 0)
def RowIn (c : WCase) (group : List Int) : Prop := ∀ m ∈ group, 0 ≤ m ∧ m < c.men.length
theorem ascF_len {many : Int} : ∀ {l : List Int} {last : Int}, ascF many last l = 0 → l = [] ∨ (l.length : Int) + last < many
 | [], _, _ => .inl rfl
 | i :: r, last, h => by
  rw [ascF] at h
  split at h
  case isFalse => cases h
  rename_i h1
  split at h
  ·cases h
  rename_i h2
  rw [inB_iff] at h1
  right
  rcases ascF_len h with rfl | h3
  ·simp; omega
  ·simp only [List.length_cons]; omega
theorem find_index {α : Type} {p : α → Bool} : ∀ {l : List α} (i : Nat), (l.find? p = none → indexOf p l i = -1) ∧ (∀ m, l.find? p = some m → ∃ j : Nat, indexOf p l i = ((i + j : Nat) : Int) ∧ l[j]? = some m)
 | [], i => ⟨fun _ => rfl, fun m h => by simp at h⟩
 | x :: r, i => by
  obtain ⟨h1, h2⟩ := find_index (p := p) (l := r) (i + 1)
  by_cases hp : p x = true
  ·refine ⟨fun h => by simp [hp] at h, fun m h => ?_⟩
   simp [hp] at h
   exact ⟨0, by simp [indexOf, hp], by simp [h]⟩
  ·refine ⟨fun h => ?_, fun m h => ?_⟩
   ·simp [hp] at h
    have := h1 (by simpa using h)
    simp only [indexOf, hp, if_false, Bool.false_eq_true]
    exact this
   ·simp [hp] at h
    obtain ⟨j, h3, h4⟩ := h2 m h
    refine ⟨j + 1, ?_, by simpa using h4⟩
    simp only [indexOf, hp, if_false, Bool.false_eq_true]
    rw [show (i : Int) + 1 = ((i + 1 : Nat) : Int) from by omega, h3]
    omega
theorem wa91 (c : WCase) (hR : WR c) (set : Int) (t : Tired) (s : Slot) (hs : c.slots[t.slot.toNat]? = some s) (ht : 0 ≤ t.slot) (group : List Int) (hg : RowIn c group) (hgl : group.length < 4000000000000000000) :
  FnV Try.prog 91 [crewD c set, t.d, intsD group] (.tup [i64 (whyF c set t s group).1, i64 (whyF c set t s group).2]) := by
 refine fnV_of mixed tysOk Try.func91 rfl (ft := ft91) 3 (by decide +kernel) (by rfl) fun {σ} Y st => ?_
 conv=>whnf
 rw [show decide (0 ≤ t.slot) = true from decide_eq_true ht, show (List.map Slot.cells c.slots)[t.slot.toNat]? = some s.cells from by simp [hs]]
 conv=>whnf
 unfold whyF
 refine brk_i (fun h0 => ?_) (fun h0 => ?_)
 ·have h0 : (group.length : Int) ≠ s.men := by simpa using h0
  conv=>whnf
  rw [if_pos h0]
  exact RetA_view 0 rfl ⟨⟨rfl, rfl⟩, rfl⟩
 have h0 : (group.length : Int) = s.men := by simpa using h0
 rw [if_neg (by simpa using h0)]
 have hel : ∀ m ∈ group, ∃ (k : Nat) (x : Man), m = (k : Int) ∧ c.men[k]? = some x ∧ manAt c m = x ∧ k < 5 := by
  intro m hm
  obtain ⟨h1, h2⟩ := hg m hm
  have hmen := hR.men
  have hk : m.toNat < c.men.length := by omega
  refine ⟨m.toNat, c.men[m.toNat], by omega, by simp [hk], ?_, by omega⟩
  simp [manAt, hk]
 conv=>whnf
 refine CallA_view (ds := [intsD group, .clo 104 [.ref [crewD c set], .ref s.cells]]) (fn86 group 104 [.ref [crewD c set], .ref s.cells] (fun m => decide ((manAt c m).kind ≥ s.least)) hgl fun m hm => by
  obtain ⟨k, x, rfl, hx, hxe, _⟩ := hel m hm
  rw [hxe]
  exact fun {σ} => wa104 c set s k x hx) rfl 1 rfl ?_
 conv=>whnf
 refine brk_i (fun h1 => ?_) (fun h1 => ?_)
 ·conv=>whnf
  rw [if_pos h1]
  exact RetA_view 0 rfl ⟨⟨rfl, rfl⟩, rfl⟩
 rw [if_neg (by simpa using h1)]
 conv=>whnf
 generalize hf1 : group.find? (fun m => !inSet set m || decide (t.slot ∈ (manAt c m).no)) = f1
 generalize hf2 : group.find? (fun m => decide (t.get m.toNat ≥ c.run)) = f2
 generalize hf3 : group.find? (fun m => decide (t.get m.toNat < 0)) = f3
 refine LoopA_p (T := tys) tysOk (by exact drawsB_spec mixed tysOk (by decide +kernel)) (α := Nat) (fun i => ⟨[(2, .d (intsD group)), (38, .sl 38 2 0 3), (39, .d (i64 3)), (40, .d (i64 i))], [(3, .box (.dd [crewD c set])), (4, .box (.dd t.cells)), (38, .arr 2 (.vv [[.d (i64 3), .clo 105 [.ptr 3 0, .ptr 4 0]], [.d (i64 4), .clo 107 [.ptr 4 0, .ptr 3 0]], [.d (i64 5), .clo 108 [.ptr 4 0]]]))], st⟩)
  (fun i => i ≤ 3 ∧ (1 ≤ i → f1 = none) ∧ (2 ≤ i → f2 = none) ∧ (3 ≤ i → f3 = none)) (fun i => 3 - i) 0 (Wk.sub (by repeat' first|exact trivial|refine⟨?_,?_⟩|rfl|(simp only[List.length_map];rfl)|simp[PX.get]) (by repeat' first|exact trivial|refine⟨?_,?_⟩|rfl|(simp only[List.length_map];rfl)|simp[PX.get])) (by omega) ?_
 intro i ⟨hi, hi1, hi2, hi3⟩
 have h4 : i = 0 ∨ i = 1 ∨ i = 2 ∨ i = 3 := by omega
 rcases h4 with rfl | rfl | rfl | rfl
 ·conv=>whnf
  have hI := find_index (p := fun m => !inSet set m || decide (t.slot ∈ (manAt c m).no)) (l := group) 0
  refine CallA_view (ds := [intsD group, .clo 105 [.ref [crewD c set], .ref t.cells]]) (fn109 group 105 [.ref [crewD c set], .ref t.cells] (fun m => !inSet set m || decide (t.slot ∈ (manAt c m).no)) hgl fun m hm => by
   obtain ⟨k, x, rfl, hx, hxe, _⟩ := hel m hm
   rw [hxe]
   exact fun {σ} => wa105 c set t k x hx (by
    have h6 := ascF_len ((hR.man x (List.mem_of_getElem? hx)).2)
    have h7 := hR.slots
    rcases h6 with h6 | h6
    ·rw [h6]; simp
    ·omega)) rfl 1 rfl ?_
  cases f1 with
  | none =>
   have hv : indexOf (fun m => !inSet set m || decide (t.slot ∈ (manAt c m).no)) group 0 = -1 := hI.1 hf1
   rw [hv]
   conv=>whnf
   refine arith_in (wrap_i64 (by (try dsimp only); omega)) ?_
   conv=>whnf
   exact ⟨1, by omega, ⟨by omega, fun _ => rfl, by omega, by omega⟩, (Wk.sub (by repeat' first|exact trivial|refine⟨?_,?_⟩|rfl|(simp only[List.length_map];rfl)|simp[PX.get]) (by repeat' first|exact trivial|refine⟨?_,?_⟩|rfl|(simp only[List.length_map];rfl)|simp[PX.get]))⟩
  | some m =>
   obtain ⟨j, hj, hgj⟩ := hI.2 m hf1
   rw [Nat.zero_add] at hj
   have hv : indexOf (fun m => !inSet set m || decide (t.slot ∈ (manAt c m).no)) group 0 = (j : Int) := hj
   rw [hv]
   conv=>whnf
   refine elemK_nat hgj ?_
   conv=>whnf
   exact RetA_view 0 rfl ⟨⟨rfl, rfl⟩, rfl⟩
 ·conv=>whnf
  cases hi1 (by omega)
  have hI := find_index (p := fun m => decide (t.get m.toNat ≥ c.run)) (l := group) 0
  refine CallA_view (ds := [intsD group, .clo 107 [.ref t.cells, .ref [crewD c set]]]) (fn109 group 107 [.ref t.cells, .ref [crewD c set]] (fun m => decide (t.get m.toNat ≥ c.run)) hgl fun m hm => by
   obtain ⟨k, x, rfl, hx, hxe, hk⟩ := hel m hm
   exact fun {σ} => wa107 c set t k hk) rfl 1 rfl ?_
  cases f2 with
  | none =>
   have hv : indexOf (fun m => decide (t.get m.toNat ≥ c.run)) group 0 = -1 := hI.1 hf2
   rw [hv]
   conv=>whnf
   refine arith_in (wrap_i64 (by (try dsimp only); omega)) ?_
   conv=>whnf
   exact ⟨2, by omega, ⟨by omega, fun _ => rfl, fun _ => rfl, by omega⟩, (Wk.sub (by repeat' first|exact trivial|refine⟨?_,?_⟩|rfl|(simp only[List.length_map];rfl)|simp[PX.get]) (by repeat' first|exact trivial|refine⟨?_,?_⟩|rfl|(simp only[List.length_map];rfl)|simp[PX.get]))⟩
  | some m =>
   obtain ⟨j, hj, hgj⟩ := hI.2 m hf2
   rw [Nat.zero_add] at hj
   have hv : indexOf (fun m => decide (t.get m.toNat ≥ c.run)) group 0 = (j : Int) := hj
   rw [hv]
   conv=>whnf
   refine elemK_nat hgj ?_
   conv=>whnf
   exact RetA_view 0 rfl ⟨⟨rfl, rfl⟩, rfl⟩
 ·conv=>whnf
  cases hi1 (by omega)
  cases hi2 (by omega)
  have hI := find_index (p := fun m => decide (t.get m.toNat < 0)) (l := group) 0
  refine CallA_view (ds := [intsD group, .clo 108 [.ref t.cells]]) (fn109 group 108 [.ref t.cells] (fun m => decide (t.get m.toNat < 0)) hgl fun m hm => by
   obtain ⟨k, x, rfl, hx, hxe, hk⟩ := hel m hm
   exact fun {σ} => wa108 t k hk) rfl 1 rfl ?_
  cases f3 with
  | none =>
   have hv : indexOf (fun m => decide (t.get m.toNat < 0)) group 0 = -1 := hI.1 hf3
   rw [hv]
   conv=>whnf
   refine arith_in (wrap_i64 (by (try dsimp only); omega)) ?_
   conv=>whnf
   exact ⟨3, by omega, ⟨by omega, fun _ => rfl, fun _ => rfl, fun _ => rfl⟩, (Wk.sub (by repeat' first|exact trivial|refine⟨?_,?_⟩|rfl|(simp only[List.length_map];rfl)|simp[PX.get]) (by repeat' first|exact trivial|refine⟨?_,?_⟩|rfl|(simp only[List.length_map];rfl)|simp[PX.get]))⟩
  | some m =>
   obtain ⟨j, hj, hgj⟩ := hI.2 m hf3
   rw [Nat.zero_add] at hj
   have hv : indexOf (fun m => decide (t.get m.toNat < 0)) group 0 = (j : Int) := hj
   rw [hv]
   conv=>whnf
   refine elemK_nat hgj ?_
   conv=>whnf
   exact RetA_view 0 rfl ⟨⟨rfl, rfl⟩, rfl⟩
 ·cases hi1 (by omega)
  cases hi2 (by omega)
  cases hi3 (by omega)
  conv=>whnf
  exact RetA_view 0 rfl ⟨⟨rfl, rfl⟩, rfl⟩
end Go.PX
namespace Go.PX
open Go.Proofs
def slotAt (c : WCase) (t : Tired) : Slot := (c.slots[t.slot.toNat]?).getD ⟨0, 0⟩
def whyT (c : WCase) (set : Int) (t : Tired) (group : List Int) : Int × Int := whyF c set t (slotAt c t) group
def walkF (c : WCase) (set : Int) : Tired → List (List Int) → Int → (Int × Int × Int) × Tired
 | t, [], _ => ((-1, 0, 0), t)
 | t, r :: rest, i => if (whyT c set t r).1 = 0 then walkF c set (behindF c t r) rest (i + 1) else ((i, whyT c set t r), t)
structure TG (c : WCase) (t : Tired) : Prop where
 slot : 0 ≤ t.slot ∧ t.slot < c.slots.length
 bd : TB t 100
theorem TG.zero {c : WCase} (h : WR c) : TG c Tired.zero := ⟨by have := h.slots; simp [Tired.zero]; omega, by constructor <;> simp [Tired.zero]⟩
theorem set_get (t : Tired) (x : Int) {n j : Nat} (hn : n < 5) (hj : j < 5) : (t.set n x).get j = if j = n then x else t.get j := by
 have h1 : n = 0 ∨ n = 1 ∨ n = 2 ∨ n = 3 ∨ n = 4 := by omega
 have h2 : j = 0 ∨ j = 1 ∨ j = 2 ∨ j = 3 ∨ j = 4 := by omega
 rcases h1 with rfl | rfl | rfl | rfl | rfl <;> rcases h2 with rfl | rfl | rfl | rfl | rfl <;> rfl
theorem set_slot (t : Tired) (n : Nat) (x : Int) : (t.set n x).slot = t.slot := by
 unfold Tired.set; split <;> rfl
theorem tireTo_get {rest : Int} {group : List Int} {t : Tired} : ∀ {n j : Nat}, n ≤ 5 → j < 5 → (tireTo rest group n t).get j = if j < n then tireF rest (decide ((j : Int) ∈ group)) (t.get j) else t.get j
 | 0, j, _, _ => by simp [tireTo]
 | n + 1, j, hn, hj => by
  rw [tireTo, set_get _ _ (by omega) hj]
  by_cases h : j = n
  ·subst h
   rw [if_pos rfl, if_pos (by omega), tireTo_get (by omega) hj, if_neg (by omega)]
  ·rw [if_neg h, tireTo_get (by omega) hj]
   by_cases h2 : j < n
   ·rw [if_pos h2, if_pos (by omega)]
   ·rw [if_neg h2, if_neg (by omega)]
theorem tireTo_slot {rest : Int} {group : List Int} {t : Tired} : ∀ {n : Nat}, (tireTo rest group n t).slot = t.slot
 | 0 => rfl
 | n + 1 => by rw [tireTo, set_slot, tireTo_slot]
theorem TB.get {t : Tired} {k : Int} (h : TB t k) {j : Nat} (hj : j < 5) : -k ≤ t.get j ∧ t.get j ≤ k := by
 have h2 : j = 0 ∨ j = 1 ∨ j = 2 ∨ j = 3 ∨ j = 4 := by omega
 rcases h2 with rfl | rfl | rfl | rfl | rfl
 ·exact h.m0
 ·exact h.m1
 ·exact h.m2
 ·exact h.m3
 ·exact h.m4
theorem TB.of {t : Tired} {k : Int} (h : ∀ j, j < 5 → -k ≤ t.get j ∧ t.get j ≤ k) : TB t k :=
 ⟨h 0 (by decide), h 1 (by decide), h 2 (by decide), h 3 (by decide), h 4 (by decide)⟩
theorem behind_TB {c : WCase} (hR : WR c) {t : Tired} {group : List Int} {k : Int} (hk : 3 ≤ k) (h : TB t k) : TB (behindF c t group) (k + 1) := by
 have hm := hR.men
 have hr := hR.rest
 refine .of fun j hj => ?_
 unfold behindF
 rw [tireTo_get (by omega) hj]
 have h1 := h.get hj
 have h2 : (Tired.mk ((t.slot + 1).tmod c.slots.length) t.m0 t.m1 t.m2 t.m3 t.m4).get j = t.get j := by
  have h2 : j = 0 ∨ j = 1 ∨ j = 2 ∨ j = 3 ∨ j = 4 := by omega
  rcases h2 with rfl | rfl | rfl | rfl | rfl <;> rfl
 show -(k + 1) ≤ (if j < c.men.length then tireF c.rest (decide ((j : Int) ∈ group)) ((Tired.mk ((t.slot + 1).tmod c.slots.length) t.m0 t.m1 t.m2 t.m3 t.m4).get j) else (Tired.mk ((t.slot + 1).tmod c.slots.length) t.m0 t.m1 t.m2 t.m3 t.m4).get j) ∧ (if j < c.men.length then tireF c.rest (decide ((j : Int) ∈ group)) ((Tired.mk ((t.slot + 1).tmod c.slots.length) t.m0 t.m1 t.m2 t.m3 t.m4).get j) else (Tired.mk ((t.slot + 1).tmod c.slots.length) t.m0 t.m1 t.m2 t.m3 t.m4).get j) ≤ k + 1
 rw [h2]
 unfold tireF
 split
 ·split
  ·omega
  ·split
   ·omega
   ·split <;> omega
 ·omega
theorem behind_slot {c : WCase} (hR : WR c) {t : Tired} {group : List Int} (h : 0 ≤ t.slot) : 0 ≤ (behindF c t group).slot ∧ (behindF c t group).slot < c.slots.length := by
 have hs := hR.slots
 unfold behindF
 rw [tireTo_slot]
 show 0 ≤ (t.slot + 1).tmod _ ∧ (t.slot + 1).tmod _ < _
 exact ⟨Int.tmod_nonneg _ (by omega), Int.tmod_lt_of_pos _ (by omega)⟩
end Go.PX
namespace Go.PX
open Go.Proofs
def walkD (p : (Int × Int × Int) × Tired) : D := .tup [i64 p.1.1, i64 p.1.2.1, i64 p.1.2.2, p.2.d]
theorem wa64 (c : WCase) (hR : WR c) (set : Int) (t : Tired) (ht : 0 ≤ t.slot ∧ t.slot < c.slots.length) (hb : TB t 100) (rota : List (List Int)) (hg : ∀ r ∈ rota, RowIn c r ∧ r.length < 4000000000000000000) (hl : rota.length ≤ 40) :
  FnV Try.prog 64 [crewD c set, t.d, rotaD rota] (walkD (walkF c set t rota 0)) := by
 refine fnV_of mixed tysOk Try.func64 rfl (ft := ft64) 3 (by decide +kernel) (by rfl) fun {σ} Y st => ?_
 conv=>whnf
 refine LoopA_i (T := tys) tysOk (by exact drawsB_spec mixed tysOk (by decide +kernel)) rota (fun i (u : Tired) => ⟨[(0, .d (crewD c set)), (4, .ptr 4 0), (9, .ptr 9 0), (12, .d (rotaD rota)), (13, .d (i64 rota.length)), (14, .d (i64 i))], [(4, .box (.dd u.cells)), (9, .box (.dd Tired.zero.cells))], st⟩)
  (fun i r u => walkF c set t rota 0 = walkF c set u r i ∧ (0 ≤ u.slot ∧ u.slot < c.slots.length) ∧ TB u (100 + i)) t (Wk.sub (by repeat' first|exact trivial|refine⟨?_,?_⟩|rfl|(simp only[List.length_map];rfl)|simp[PX.get]) (by repeat' first|exact trivial|refine⟨?_,?_⟩|rfl|(simp only[List.length_map];rfl)|simp[PX.get])) ⟨rfl, ht, by simpa using hb⟩ ?_ ?_
 ·intro i x r u hx hi hr he
  obtain ⟨he, hs, hub⟩ := he
  rw [walkF] at he
  have hgx := hg x (List.mem_of_getElem? hx)
  obtain ⟨s, hsl⟩ : ∃ s, c.slots[u.slot.toNat]? = some s := ⟨c.slots[u.slot.toNat]'(by omega), by simp⟩
  have hw : whyT c set u x = whyF c set u s x := by simp [whyT, slotAt, hsl]
  rw [hw] at he
  conv=>whnf
  refine brk_i (fun _ => ?_) (fun h => absurd hi (by have := of_decide_eq_false h; omega))
  conv=>whnf
  refine elemK_nat hx ?_
  conv=>whnf
  refine CallA_v (ds := [crewD c set, u.d, intsD x]) (wa91 c hR set u s hsl hs.1 x hgx.1 hgx.2) rfl rfl ?_
  conv=>whnf
  refine brk_i (fun h1 => ?_) (fun h1 => ?_)
  ·have h1 : (whyF c set u s x).1 ≠ 0 := by simpa using h1
   rw [he, if_neg h1]
   conv=>whnf
   exact RetA_view 0 rfl ⟨⟨rfl, rfl⟩, rfl⟩
  have h1 : (whyF c set u s x).1 = 0 := by simpa using h1
  rw [if_pos h1] at he
  conv=>whnf
  have hto : TOk u := ⟨by have := hR.slots; omega, by have := hub.m0; omega, by have := hub.m1; omega, by have := hub.m2; omega, by have := hub.m3; omega, by have := hub.m4; omega⟩
  refine CallA_v (ds := [crewD c set, u.d, intsD x]) (wa92 c hR set u hto x hgx.2) rfl rfl ?_
  conv=>whnf
  refine arith_in (wrap_i64 (by (try dsimp only); omega)) ?_
  conv=>whnf
  refine ⟨behindF c u x, ⟨he, behind_slot hR hs.1, ?_⟩, (Wk.sub (by repeat' first|exact trivial|refine⟨?_,?_⟩|rfl|(simp only[List.length_map];rfl)|simp[PX.get]) (by repeat' first|exact trivial|refine⟨?_,?_⟩|rfl|(simp only[List.length_map];rfl)|simp[PX.get]))⟩
  have := behind_TB hR (group := x) (k := 100 + i) (by omega) hub
  rw [show (100 : Int) + ((i + 1 : Nat) : Int) = 100 + (i : Int) + 1 by omega]
  exact this
 ·intro u he
  obtain ⟨he, _, _⟩ := he
  rw [walkF] at he
  conv=>whnf
  refine brk_i (fun h => absurd h (by simp)) (fun _ => ?_)
  conv=>whnf
  rw [he]
  exact RetA_view 0 rfl ⟨⟨rfl, rfl⟩, rfl⟩
end Go.PX
namespace Go.PX
open Go.Proofs
theorem ent_ok {c : WCase} {rota : List (List Int)} (h : entE c rota = 0) : WR c ∧ rota.length ≤ 40 ∧ (∀ r ∈ rota, ascF c.men.length (-1) r = 0) := by
 unfold entE at h
 split at h
 ·rename_i h0
  split at h
  ·cases h
  ·rename_i h1
   refine ⟨wR h0, by omega, ?_⟩
   revert h
   clear h1 h0
   induction rota with
   | nil => intro _ r hr; cases hr
   | cons x l ih =>
    intro h r hr
    rw [firstErr] at h
    split at h
    ·rename_i h2
     rcases List.mem_cons.1 hr with rfl | hr
     ·exact h2
     ·exact ih h r hr
    ·rename_i h2; exact absurd h h2
 ·rename_i h0; exact absurd h h0
theorem asc_in {many : Int} : ∀ {l : List Int} {last : Int}, ascF many last l = 0 → ∀ m ∈ l, 0 ≤ m ∧ m < many
 | [], _, _ => by simp
 | i :: r, last, h => by
  rw [ascF] at h
  split at h
  case isFalse => cases h
  rename_i h1
  split at h
  ·cases h
  rw [inB_iff] at h1
  intro m hm
  rcases List.mem_cons.1 hm with rfl | hm
  ·omega
  ·exact asc_in h m hm
theorem rows_ok {c : WCase} {rota : List (List Int)} (h : entE c rota = 0) : ∀ r ∈ rota, RowIn c r ∧ r.length < 4000000000000000000 := fun r hr => by
 obtain ⟨hR, hl, hall⟩ := ent_ok h
 refine ⟨asc_in (hall r hr), ?_⟩
 have hm := hR.men
 rcases ascF_len (hall r hr) with h1 | h1
 ·rw [h1]; simp
 ·omega
def badF (c : WCase) (rota : List (List Int)) : Int × Int × Int × Int :=
 if entE c rota = 0 then ((walkF c (allMen c) .zero rota 0).1.1, (walkF c (allMen c) .zero rota 0).1.2.1, (walkF c (allMen c) .zero rota 0).1.2.2, 0) else (0, 0, 0, entE c rota)
theorem wa17 (c : WCase) (rota : List (List Int)) : FnV Try.prog 17 [c.d, rotaD rota] (.tup [i64 (badF c rota).1, i64 (badF c rota).2.1, i64 (badF c rota).2.2.1, i64 (badF c rota).2.2.2]) := by
 refine fnV_of mixed tysOk Try.func17 rfl (ft := ft17) 2 (by decide +kernel) (by rfl) fun {σ} Y st => ?_
 conv=>whnf
 refine CallA_v (wa63 c rota) rfl rfl ?_
 conv=>whnf
 unfold badF
 by_cases h0 : entE c rota = 0
 ·obtain ⟨hR, hl, _⟩ := ent_ok h0
  have hz := TG.zero hR
  rw [h0]
  simp only [if_true]
  conv=>whnf
  refine CallA_v (ds := [crewD c (allMen c), Tired.zero.d, rotaD rota]) (wa64 c hR (allMen c) .zero hz.slot hz.bd rota (rows_ok h0) hl) rfl rfl ?_
  conv=>whnf
  exact RetA_view 0 rfl ⟨⟨rfl, rfl⟩, rfl⟩
 ·rw [if_neg h0, if_neg h0]
  conv=>whnf
  refine brk_i (fun _ => ?_) (fun h1 => absurd h1 (by simp [h0]))
  conv=>whnf
  exact RetA_view 0 rfl ⟨⟨rfl, rfl⟩, rfl⟩
end Go.PX
namespace Go.PX
open Go.Proofs
def goodE (c : WCase) (rota : List (List Int)) : Int :=
 if entE c rota = 0 then (if (walkF c (allMen c) .zero rota 0).1.1 ≥ 0 then 9 else 0) else entE c rota
def goodT (c : WCase) (rota : List (List Int)) : Tired := (walkF c (allMen c) .zero rota 0).2
theorem wa66 (c : WCase) (rota : List (List Int)) : FnV Try.prog 66 [c.d, rotaD rota] (.tup [if goodE c rota = 0 then crewD c (allMen c) else .nilp, if goodE c rota = 0 then (goodT c rota).d else Tired.zero.d, i64 (goodE c rota)]) := by
 refine fnV_of mixed tysOk Try.func66 rfl (ft := ft66) 2 (by decide +kernel) (by rfl) fun {σ} Y st => ?_
 conv=>whnf
 refine CallA_v (wa63 c rota) rfl rfl ?_
 conv=>whnf
 by_cases h0 : entE c rota = 0
 ·obtain ⟨hR, hl, _⟩ := ent_ok h0
  have hz := TG.zero hR
  have hg : goodE c rota = if (walkF c (allMen c) .zero rota 0).1.1 ≥ 0 then 9 else 0 := by simp [goodE, h0]
  rw [hg]
  rw [h0]
  simp only [if_true]
  conv=>whnf
  refine CallA_v (ds := [crewD c (allMen c), Tired.zero.d, rotaD rota]) (wa64 c hR (allMen c) .zero hz.slot hz.bd rota (rows_ok h0) hl) rfl rfl ?_
  conv=>whnf
  refine brk_i (fun h1 => ?_) (fun h1 => ?_)
  ·have h1 : (walkF c (allMen c) .zero rota 0).1.1 ≥ 0 := of_decide_eq_true h1
   conv=>whnf
   rw [if_pos h1]
   exact RetA_view 0 rfl ⟨⟨rfl, rfl⟩, rfl⟩
  have h1 : ¬ (walkF c (allMen c) .zero rota 0).1.1 ≥ 0 := of_decide_eq_false h1
  conv=>whnf
  rw [if_neg h1]
  exact RetA_view 0 rfl ⟨⟨rfl, rfl⟩, rfl⟩
 ·have hg : goodE c rota = entE c rota := by simp [goodE, h0]
  rw [hg]
  rw [if_neg h0, if_neg h0]
  conv=>whnf
  refine brk_i (fun _ => ?_) (fun h1 => absurd h1 (by simp [h0]))
  conv=>whnf
  exact RetA_view 0 rfl ⟨⟨rfl, rfl⟩, rfl⟩
end Go.PX
namespace Go.PX
open Go.Proofs
end Go.PX
namespace Go.PX
open Go.Proofs
def bump (l : List Int) (m : Int) : List Int := l.set m.toNat (l.getD m.toNat 0 + 1)
def stoodL (n : Nat) (rota : List (List Int)) : List Int := rota.foldl (fun l r => r.foldl bump l) (List.replicate n 0)
theorem bump_len (l : List Int) (m : Int) : (bump l m).length = l.length := by simp [bump]
theorem wa19 (c : WCase) (rota : List (List Int)) : FnV Try.prog 19 [c.d, rotaD rota] (.tup [if goodE c rota = 0 then intsD (stoodL c.men.length rota) else .nils, i64 (goodE c rota)]) := by
 refine fnV_of mixed tysOk Try.func19 rfl (ft := ft19) 2 (by decide +kernel) (by rfl) fun {σ} Y st => ?_
 conv=>whnf
 refine CallA_v (wa66 c rota) rfl rfl ?_
 conv=>whnf
 by_cases h0 : goodE c rota = 0
 ·have hE : entE c rota = 0 := by
   unfold goodE at h0
   split at h0
   ·assumption
   ·exact h0
  obtain ⟨hR, hl, hall⟩ := ent_ok hE
  have hm := hR.men
  rw [h0]
  simp only [if_true]
  conv=>whnf
  refine chk_i (by simp; rfl) ?_
  conv=>whnf
  refine chk_i (decide_eq_true (by simp only [List.length_map]; omega)) ?_
  conv=>whnf
  have hin : ∀ r ∈ rota, ∀ m ∈ r, 0 ≤ m ∧ m < c.men.length := fun r hr => (rows_ok hE r hr).1
  refine LoopA_i (T := tys) tysOk (by exact drawsB_spec mixed tysOk (by decide +kernel)) rota (fun i (acc : List Int) => ⟨[(9, .sl 27 1 0 c.men.length), (28, .d (rotaD rota)), (29, .d (i64 rota.length)), (30, .d (i64 i))], [(27, .arr 1 (.dd (acc.map fun n => [i64 n])))], st⟩)
   (fun i r acc => acc.length = c.men.length ∧ (∀ x ∈ acc, 0 ≤ x ∧ x ≤ 1000 * i) ∧ stoodL c.men.length rota = r.foldl (fun l r => r.foldl bump l) acc ∧ ∀ x ∈ r, x ∈ rota) (List.replicate c.men.length 0) ?wk ⟨by simp, by simp, rfl, fun x h => h⟩ ?_ ?_
  case wk => exact (Wk.sub (by repeat' first|exact trivial|refine⟨?_,?_⟩|rfl|(simp only[List.length_map];rfl)|simp[PX.get]) ⟨(by first | rfl | (simp only [List.length_map]; rfl) | simp [PX.get]), trivial⟩)
  ·intro i x r acc hx hi hr he
   obtain ⟨ha, hb, he, hsub⟩ := he
   rw [List.foldl_cons] at he
   conv=>whnf
   refine brk_i (fun _ => ?_) (fun h => absurd hi (by have := of_decide_eq_false h; omega))
   conv=>whnf
   refine elemK_nat hx ?_
   conv=>whnf
   have hxm : x ∈ rota := hsub x (by simp)
   have hxl : x.length ≤ 5 := by
    rcases ascF_len (hall x hxm) with h1 | h1
    ·rw [h1]; simp
    ·omega
   refine LoopA_i (T := tys) tysOk (by exact drawsB_spec mixed tysOk (by decide +kernel)) x (fun k (ac : List Int) => ⟨[(9, .sl 27 1 0 c.men.length), (28, .d (rotaD rota)), (29, .d (i64 rota.length)), (30, .d (i64 i)), (34, .d (intsD x)), (35, .d (i64 x.length)), (36, .d (i64 k))], [(27, .arr 1 (.dd (ac.map fun n => [i64 n])))], st⟩)
    (fun k r2 ac => ac.length = c.men.length ∧ (∀ y ∈ ac, 0 ≤ y ∧ y ≤ 1000 * (i : Int) + k) ∧ stoodL c.men.length rota = r.foldl (fun l r => r.foldl bump l) (r2.foldl bump ac)) acc ?wk ⟨ha, by simpa using hb, he⟩ ?_ ?_
   case wk => exact (Wk.sub (by repeat' first|exact trivial|refine⟨?_,?_⟩|rfl|(simp only[List.length_map];rfl)|simp[PX.get]) ⟨(by first | rfl | (simp only [List.length_map]; rfl) | simp [PX.get]), trivial⟩)
   ·intro k m r2 ac hm2 hk hr2 hi2
    obtain ⟨ha2, hb2, he2⟩ := hi2
    rw [List.foldl_cons] at he2
    obtain ⟨hm0, hm1⟩ := hin x hxm m (List.mem_of_getElem? hm2)
    have hmn : m.toNat < ac.length := by omega
    have hv : ac[m.toNat]? = some ac[m.toNat] := List.getElem?_eq_getElem hmn
    obtain ⟨hv0, hv1⟩ := hb2 ac[m.toNat] (List.getElem_mem ..)
    conv=>whnf
    refine brk_i (fun _ => ?_) (fun h => absurd hk (by have := of_decide_eq_false h; omega))
    conv=>whnf
    refine elemK_nat hm2 ?_
    conv=>whnf
    have hbd : (decide (0 ≤ m) && decide (m < (c.men.length : Int))) = true := by simp; omega
    refine chk_i hbd ?_
    conv=>whnf
    refine cellK_i [i64 ac[m.toNat]] (by simp [hv]) ?_
    conv=>whnf
    refine arith_in (wrap_i64 (by (try dsimp only); omega)) ?_
    conv=>whnf
    refine chk_i hbd ?_
    conv=>whnf
    refine cellK_i [i64 ac[m.toNat]] (by simp [hv]) ?_
    conv=>whnf
    refine arith_in (wrap_i64 (by (try dsimp only); omega)) ?_
    conv=>whnf
    refine ⟨bump ac m, ⟨by rw [bump_len]; exact ha2, fun y hy => ?_, he2⟩, (Wk.sub ⟨rfl, rfl, rfl, rfl, rfl, rfl, rfl, trivial⟩ ⟨?_, trivial⟩)⟩
    ·unfold bump at hy
     rcases List.mem_or_eq_of_mem_set hy with hy | rfl
     ·have := hb2 y hy; omega
     ·simp only [List.getD_eq_getElem?_getD, hv, Option.getD_some]; omega
    ·simp only [PX.get, bump, List.map_set, List.getD_eq_getElem?_getD, hv, Option.getD_some, Nat.zero_add]
     rfl
   ·intro ac hi2
    obtain ⟨ha2, hb2, he2⟩ := hi2
    conv=>whnf
    refine brk_i (fun h => absurd h (by simp)) (fun _ => ?_)
    conv=>whnf
    refine arith_in (wrap_i64 (by (try dsimp only); omega)) ?_
    conv=>whnf
    refine ⟨ac, ⟨ha2, fun y hy => ?_, he2, fun z hz => hsub z (by simp [hz])⟩, (Wk.sub (by repeat' first|exact trivial|refine⟨?_,?_⟩|rfl|(simp only[List.length_map];rfl)|simp[PX.get]) ⟨(by first | rfl | (simp only [List.length_map]; rfl) | simp [PX.get]), trivial⟩)⟩
    have := hb2 y hy
    omega
  ·intro acc he
   obtain ⟨ha, _, he, _⟩ := he
   conv=>whnf
   refine brk_i (fun h => absurd h (by simp)) (fun _ => ?_)
   conv=>whnf
   refine RetA_view 1 (ds := [intsD acc, i64 0]) ?_ ⟨⟨?_, rfl⟩, rfl⟩
   ·have e2 : c.men.length.ble c.men.length = true := by rw [Nat.ble_eq]; exact Nat.le_refl _
    simp [viewL, viewV, objD, PX.get, intsD, e2, List.take_of_length_le, ha]
   ·have he : stoodL c.men.length rota = acc := he
    simp [packD, he, h0]
 ·rw [if_neg h0, if_neg h0]
  conv=>whnf
  refine brk_i (fun _ => ?_) (fun h1 => absurd h1 (by simp [h0]))
  conv=>whnf
  rw [if_neg h0]
  exact RetA_view 0 rfl ⟨⟨rfl, rfl⟩, rfl⟩
end Go.PX
namespace Go.PX
def delL : List Nat → List Wr
 | [] => []
 | i :: r => .del i :: delL r
theorem applyWs_delL {σ : Type} : ∀ (l : List Nat) (st : St σ), applyWs st (delL l) = ⟨st.env, cutL st.heap l, st.s⟩
 | [], st => rfl
 | i :: r, st => by
  show applyWs (applyW st (.del i)) (delL r) = _
  rw [applyWs_delL r]; rfl
theorem applyWs_append {σ : Type} : ∀ (a b : List Wr) (st : St σ), applyWs st (a ++ b) = applyWs (applyWs st a) b
 | [], b, st => rfl
 | w :: a, b, st => applyWs_append a b (applyW st w)
section
variable {P : Program} {σ : Type}
theorem Good.frzPart {cx : Cx σ} {r : Option Nat} {m : List Nat} {L : Loc} {F : Nat → Nat} {st : St σ} {a : Act} {w : World} (hg : Good cx r m L F st a w) {h : Heap} (hsub : SubT h st.heap) (n : Nat) :
  ∃ F1, Good cx r m L F1 (applyWs st (delL (keysOf h))) a w ∧ Tr F w F1 w ∧ ∀ args vals ds, viewL (objD h n) args = some ds → RepVL cx.yv L F w args vals → RepDL F1 w ds vals := by
 have hok : HeapOk cx L F h st.s w := (hg.sub (e := st.env) (h := h) (fun _ _ h => h) hsub).heap
 have tr := frzAll_tr hok
 have hF1C : ∀ b, cx.C st.s b → frzAll L F h w b = F b := fun b hb => frzAll_C hok hb
 have hF1o : ∀ id o, get st.heap id = some o → id ∉ keysOf h → Backed L id o → frzAll L F h w (L.ρ id) = F (L.ρ id) := by
  intro id o hi hn hb
  refine frzAll_other ?_
  rintro ⟨j, p, hj, hbj, hij⟩
  have := hg.heap.inj j id p o (hsub j p hj) hi hbj hb hij
  subst this
  exact hn (keysOf_mem hj)
 have hfr := frzAll_fresh hok
 have hobj := objD_t hok n
 generalize frzAll L F h w = F1 at tr hF1C hF1o hfr hobj
 rw [applyWs_delL]
 have hget : ∀ i o, get (cutL st.heap (keysOf h)) i = some o → i ∉ keysOf h ∧ get st.heap i = some o := by
  intro i o hi
  rw [get_cutL] at hi
  split at hi
  ·cases hi
  ·rename_i hn; exact ⟨hn, hi⟩
 refine ⟨F1, ⟨⟨cx.stable hg.heap.hg tr hfr fun b hb => ⟨rfl, hF1C b hb⟩, hg.heap.csz, hfr, ?_, ?_, ?_⟩, ?_, hg.dfr, hg.mks, hg.mnd, hg.lk, hg.pin, hg.tsz⟩, tr, fun args vals ds hv hr => viewL_t tr hobj args vals ds hv hr⟩
 ·intro i o hi
  exact RepO.mono tr i o (fun _ _ => ⟨rfl, rfl⟩) ⟨rfl, rfl⟩ (fun _ => rfl) (hg.heap.obj i o (hget i o hi).2)
 ·intro i o hi hb
  obtain ⟨hn, h0⟩ := hget i o hi
  rw [hF1o i o h0 hn hb]
  exact hg.heap.own i o h0 hb
 ·intro i j o p hi hj hbi hbj he
  exact hg.heap.inj i j o p (hget i o hi).2 (hget j p hj).2 hbi hbj he
 ·intro t v ht
  obtain ⟨x, hx, hr⟩ := hg.env t v ht
  exact ⟨x, hx, RepV.mono tr v x (fun _ _ => ⟨rfl, rfl⟩) hr⟩
theorem outCall_fz {f : FuncId} {ds : List D} {res : D} (hf : FnV P f ds res) (n : Nat) {e : Env} {h : Heap} {d : Option Nat} {args : List V} (hv : viewL (objD h n) args = some ds) (hd : Nat.ble (d.getD 0) 10000 = true) :
  OutCall P e h d f args (delL (keysOf h) ++ wset d (.d res)) := by
 have ho := outCall_v (P := P) hf (e := []) (h := []) (d := d) (args := inj ds) rfl hd
 refine ⟨ho.1, fun {σ} cx hld r m L F st a w vals he hh hg hdt hr => ?_⟩
 obtain ⟨F1, hg1, tr1, hvw⟩ := hg.frzPart hh n
 rw [applyWs_append]
 refine (ho.2 cx hld r m L F1 (applyWs st (delL (keysOf h))) a w vals (fun _ _ h => by cases h) (fun _ _ h => by cases h) hg1 hdt (RepVL.inj.2 (hvw _ _ _ hv hr))).mono ?_
 rintro en w' ⟨x, rfl, L', F', hg', tr'⟩
 exact ⟨x, rfl, L', F', hg', Tr.trans tr1 tr'⟩
theorem CallA_fz {Y : Hd σ} {f : FuncId} {ds : List D} {res : D} (hf : FnV P f ds res) (n : Nat) {e : Env} {h : Heap} {s : σ} {d : Option Nat} {args : List V} (ids : List Nat) (hv : viewL (objD (keepT ids h) n) args = some ds) (hd : Nat.ble (d.getD 0) 10000 = true)
  {K : St σ → Prop} (hk : applyK (delL (keysOf (keepT ids h)) ++ wset d (.d res)) e h fun e h => K ⟨e, h, s⟩) : CallA P Y ⟨e, h, s⟩ d f args K := by
 have ho := outCall_fz (P := P) hf n (e := e) (h := keepT ids h) (d := d) (args := args) hv hd
 refine CallA_out (ws := delL (keysOf (keepT ids h)) ++ wset d (.d res)) ⟨ho.1, fun {σ} cx hld r m L F st a w vals he hh hg hdt hr => ?_⟩ hk
 exact ho.2 cx hld r m L F st a w vals he (fun i o hi => hh i o (sub_keepT ids h i o hi)) hg hdt hr
theorem DrawCall_fz {f : FuncId} {ds : List D} {res : D} (hf : FnV P f ds res) (n : Nat) {e : Env} {h : Heap} {d : Option Nat} {args : List V} (hv : viewL (objD h n) args = some ds) (hd : Nat.ble (d.getD 0) 10000 = true)
  {K : List Wr → Prop} (hk : K (delL (keysOf h) ++ wset d (.d res))) : DrawCall P e h d f args K := ⟨_, hk, outCall_fz hf n hv hd⟩
end
end Go.PX
namespace Go.PX
theorem viewLL_app {g : Nat → Option DO} {vs : List (List V)} {ds : List (List D)} (h : viewLL g vs = some ds) : ∀ (es : List (List D)), viewLL g (injL es ++ vs) = some (es ++ ds)
 | [] => h
 | e :: r => by
  show viewLL g (inj e :: (injL r ++ vs)) = _
  rw [viewLL, viewLL_app h r]
  have : viewL g (inj e) = some e := by
   have := viewL_app (g := g) (a := e) (r := []) (r' := []) rfl
   simpa using this
  rw [this]; rfl
theorem viewLL_one {g : Nat → Option DO} {v : List V} {d : List D} (h : viewL g v = some d) : viewLL g [v] = some [d] := by
 rw [viewLL, h]; rfl
theorem nameBL_inj (i : Nat) : ∀ l : List D, nameBL i (inj l) = false
 | [] => rfl
 | d :: r => by
  show (nameB i (.d d) || nameBL i (inj r)) = false
  rw [nameBL_inj i r]; rfl
theorem nameBL_append (i : Nat) : ∀ a b : List V, nameBL i (a ++ b) = (nameBL i a || nameBL i b)
 | [], b => rfl
 | v :: a, b => by
  show (nameB i v || nameBL i (a ++ b)) = ((nameB i v || nameBL i a) || nameBL i b)
  rw [nameBL_append i a b, Bool.or_assoc]
theorem nameBL_injL (i : Nat) (vs : List (List V)) : ∀ es : List (List D), nameBL i ((injL es ++ vs).flatten) = nameBL i vs.flatten
 | [] => rfl
 | e :: r => by
  show nameBL i (inj e ++ (injL r ++ vs).flatten) = _
  rw [nameBL_append, nameBL_inj, nameBL_injL i vs r]; rfl
section
variable {σ : Type}
theorem delL_heap {e : Env} {h : Heap} {s : σ} (l : List Nat) : applyWs (⟨e, h, s⟩ : St σ) (delL l) = ⟨e, cutL h l, s⟩ := applyWs_delL l _
theorem Wk.frzArr {e : Env} {h : Heap} {s : σ} (n : Nat) (ids : List Nat) (k : Nat) {sz : Nat} {vs : List (List V)} {ds : List (List D)} (hk : get (cutL h (keysOf (keepT ids h))) k = some (.arr sz (.vv vs))) (hv : viewLL (objD (keepT ids h) n) vs = some ds) :
  Wk (⟨e, h, s⟩ : St σ) ⟨e, put (cutL h (keysOf (keepT ids h))) k (.arr sz (.dd ds)), s⟩ := by
 intro cx r m L F a w hg
 obtain ⟨F1, hg1, tr, hvw⟩ := hg.frzPart (h := keepT ids h) (sub_keepT ids h) n
 rw [delL_heap] at hg1
 have h0 : RepO cx.yv L F w k (.arr sz (.vv vs)) := by
  rw [get_cutL] at hk
  split at hk
  ·cases hk
  ·exact hg.heap.obj k _ hk
 obtain ⟨f1, f2, f3⟩ := viewLL_flat hv
 have hnew : RepO cx.yv L F1 w k (.arr sz (.dd ds)) := by
  obtain ⟨c1, c2, c3⟩ := h0
  have hl : (Els.dd ds).toV.length = ds.length := by rw [← Els.len_eq]; rfl
  have hflat : (Els.dd ds).toV.flatten = inj ds.flatten := by
   show (injL ds).flatten = _
   clear hl f1 f2 f3 hv
   induction ds with
   | nil => rfl
   | cons d r ih =>
    show inj d ++ (injL r).flatten = _
    rw [ih, List.flatten_cons, inj_append]
  refine ⟨c1, ?_, ?_⟩
  ·have h3 := f3 sz c2
   intro x hx
   show x.length = sz
   have : ∀ (l : List (List D)), (∀ d ∈ l, d.length = sz) → ∀ x ∈ injL l, x.length = sz := by
    intro l
    induction l with
    | nil => intro _ x hx; cases hx
    | cons d r ih =>
     intro hd x hx
     rcases List.mem_cons.1 hx with rfl | hx
     ·rw [inj_length]; exact hd d (by simp)
     ·exact ih (fun d hd' => hd d (by simp [hd'])) x hx
   exact this ds h3 x hx
  ·rcases c3 with ⟨c4, c5⟩ | ⟨c, T, c4, c5, c6, c7⟩
   ·left
    refine ⟨?_, c5⟩
    have hvs : vs = [] := c4
    have : ds = [] := by
     have : ds.length = 0 := by rw [f2, hvs]; rfl
     exact List.length_eq_zero_iff.1 this
    rw [this]; rfl
   ·right
    have e1 : (Els.vv vs).toV = vs := rfl
    rw [e1] at c6 c7
    refine ⟨c, T, c4, c5, by rw [hl, f2]; exact c6, ?_⟩
    rw [hflat, hl, f2]
    exact RepVL.inj.2 (hvw _ _ _ f1 c7)
 have key : ∀ i q, get (put (cutL h (keysOf (keepT ids h))) k (.arr sz (.dd ds))) i = some q → (i = k ∧ q = .arr sz (.dd ds)) ∨ get (cutL h (keysOf (keepT ids h))) i = some q := by
  intro i q hi
  rw [get_put] at hi
  split at hi
  ·rename_i e1; cases hi; exact .inl ⟨e1, rfl⟩
  ·exact .inr hi
 refine ⟨L, F1, ⟨⟨hg1.heap.hg, hg1.heap.csz, hg1.heap.fresh, fun i q hi => ?_, fun i q hi hbk => ?_, fun i j q p hi hj hbi hbj e => ?_⟩, hg1.env, hg1.dfr, hg1.mks, hg1.mnd, hg1.lk, hg1.pin, hg1.tsz⟩, tr⟩
 ·rcases key i q hi with ⟨rfl, rfl⟩ | hi
  ·exact hnew
  ·exact hg1.heap.obj i q hi
 ·rcases key i q hi with ⟨rfl, rfl⟩ | hi
  ·exact hg1.heap.own i _ hk hbk
  ·exact hg1.heap.own i q hi hbk
 ·rcases key i q hi with ⟨e1, e2⟩ | hi1 <;> rcases key j p hj with ⟨e3, e4⟩ | hj1
  ·rw [e1, e3]
  ·subst e1; subst e2
   exact hg1.heap.inj _ _ _ _ hk hj1 hbi hbj e
  ·subst e3; subst e4
   exact hg1.heap.inj _ _ _ _ hi1 hk hbi hbj e
  ·exact hg1.heap.inj _ _ _ _ hi1 hj1 hbi hbj e
end
end Go.PX
namespace Go.PX
open Go.RowKit
theorem ahead_of {ops : Array Oper} {listed : Array Bool} (hcl : ∀ (j : Nat) (o : Oper), listed.getD j false = true → ops[j]? = some o → ∀ e ∈ o.after, Region.binds .any e = true → listed.getD e.on false = true) {ots : List OT} (hb : okBack 0 ops.toList = true) (hA : okAhead ots 0 ops.toList ots = true) (hlen : ops.toList.length = ots.length) :
  ∀ (n j : Nat) (o : Oper) (t : OT), j < n → ops[j]? = some o → ots[j]? = some t → (∀ e ∈ o.after, Region.binds .any e = true → listed.getD e.on false = true) → ∀ i, i < j → i ∉ t.prs → listed.getD i false = true
 | 0, _, _, _, hj, _, _, _, _, _, _ => by omega
 | n + 1, j, o, t, hj, ho, ht, hl, i, hi, hn => by
  rcases okAhead_spec hA j o t (by simpa using ho) ht i (by omega) with h1 | ⟨e, he, hbd, hor⟩
  ·exact absurd h1 hn
  have hlt := okBack_spec hb j o (by simpa using ho) e he hbd
  rcases hor with rfl | ⟨hlt', u, hu, hiu⟩
  ·exact hl e he hbd
  ·have hjs : j < ops.size := (Array.getElem?_eq_some_iff.1 ho).1
   have hes : ops[e.on]? = some ops[e.on] := Array.getElem?_eq_getElem (by omega)
   exact ahead_of hcl hb hA hlen n e.on _ u (by omega) hes hu (hcl e.on _ (hl e he hbd) hes) i hlt' hiu
structure TodoB (ops : Array Oper) (b : Nat) (l : List Rec) (listed : Array Bool) : Prop where
 mem : ∀ i, ((∃ q ∈ l, q.idx = i) ∨ (b ≤ i ∧ i < ops.size)) ↔ listed.getD i true = false
 size : listed.size = ops.size
 closed : ∀ (j : Nat) (o : Oper), listed.getD j false = true → ops[j]? = some o → ∀ e ∈ o.after, Region.binds .any e = true → listed.getD e.on false = true
def linB (ots : List OT) (b : Nat) : Bool := (ots.drop b).all fun t => t.prs.isEmpty
theorem linB_spec {ots : List OT} {b : Nat} (h : linB ots b = true) {j : Nat} {t : OT} (hj : b ≤ j) (ht : ots[j]? = some t) : t.prs = [] := by
 have h1 := List.all_eq_true.1 h t (by
  refine List.mem_of_getElem? (i := j - b) ?_
  rw [List.getElem?_drop, show b + (j - b) = j by omega]; exact ht)
 simpa using h1
section
variable {P : Program} {σ : Type} {cx : Cx σ} {r : Option Nat} {m : List Nat}
theorem wpAny_pre (hld : LaidCx P cx) {ops : Array Oper} {rt : RT} (hst : okDraw ops.toList rt = true) {b : Nat} (hbs : b ≤ ops.size) (hlin : linB rt.ots b = true) {Q : Exit → Act → World → Prop} {f' : Fs} {s : σ} {n0 : Nat} {F0 : Nat → Nat} {w0 : World} {k : Nat}
  (hd : ∀ o ∈ ops.toList, ∀ d, o.dst = some d → d < n0)
  (hfin : ∀ a w L F (st : St σ) listed, fsOf st = f' → st.s = s → Good cx r m L F st a w → Tr F0 w0 F w → a.tmps.size = n0 → TodoB ops b [] listed → wpAnyIn (fr r) 0 P .any ops Q k listed a w) :
  ∀ (n : Nat) {l : List Rec} {listed : Array Bool} {st : St σ} {a : Act} {w : World} {L : Loc} {F : Nat → Nat}, l.length = n → (∀ q ∈ l, q.idx < b) →
  Rs P ops rt.ots l → Good cx r m L F st a w → st.s = s → Tr F0 w0 F w → a.tmps.size = n0 → (∀ q ∈ l, ∀ id ∈ wNews q.ws, Unn (fsOf st) id) → RunR l (fsOf st) f' → TodoB ops b l listed →
  wpAnyIn (fr r) 0 P .any ops Q (k + n) listed a w := by
 simp only [okDraw, Bool.and_eq_true] at hst
 obtain ⟨⟨⟨⟨hlen, hback⟩, hahead⟩, hpairs⟩, hmade⟩ := hst
 have hlen := Nat.eq_of_beq_eq_true hlen
 intro n
 induction n with
 | zero =>
  intro l listed st a w L F hn0 hlb hrs hg hs tr hn hu hrun ht
  have hl : l = [] := List.length_eq_zero_iff.1 hn0
  subst hl
  have hrun : f' = fsOf st := hrun
  exact hfin a w L F st listed hrun.symm hs hg tr hn ht
 | succ n ih =>
  intro l listed st a w L F hn0 hlb hrs hg hs tr hn hu hrun ht
  have hfirst : ∃ q l', l = q :: l' := by
   cases l with
   | nil => simp at hn0
   | cons q l' => exact ⟨q, l', rfl⟩
  refine ⟨fun hr => ?_, fun j hj => ?_⟩
  ·exfalso
   obtain ⟨q, l', rfl⟩ := hfirst
   have hqb := hlb q (List.mem_cons_self ..)
   have hi := (ht.mem q.idx).1 (.inl ⟨q, List.mem_cons_self .., rfl⟩)
   have hmem : q.idx ∈ Region.ready .any ops listed := by
    rw [mem_ready]
    refine ⟨hi, ops[q.idx]'(by omega), Array.getElem?_eq_getElem (by omega), fun e he hb => ?_⟩
    have hlt := okBack_spec hback q.idx (ops[q.idx]'(by omega)) (by simp) e he hb
    refine getD_false_of (by rw [ht.size]; omega) fun hf => ?_
    rcases (ht.mem e.on).2 hf with ⟨q', hq', he'⟩ | ⟨h1, _⟩
    ·rcases List.mem_cons.1 hq' with h | h
     ·subst h; omega
     ·have := ((List.pairwise_cons.1 hrs.pw).1 _ h).lt
      omega
    ·omega
   rw [hr] at hmem
   cases hmem
  ·obtain ⟨hjl, oj, hoj, hedges⟩ := mem_ready.1 hj
   have hjs : j < ops.size := (Array.getElem?_eq_some_iff.1 hoj).1
   have hq0 : ∃ q ∈ l, q.idx = j := by
    rcases (ht.mem j).2 hjl with h | ⟨h, _⟩
    ·exact h
    ·exfalso
     obtain ⟨q, l', rfl⟩ := hfirst
     have hqb := hlb q (List.mem_cons_self ..)
     have hot : rt.ots[j]? = some (rt.ots[j]'(by rw [← hlen]; simpa using hjs)) := List.getElem?_eq_getElem _
     have h1 := ahead_of ht.closed hback hahead hlen (j + 1) j oj _ (by omega) hoj hot hedges q.idx (by omega) (by rw [linB_spec hlin h hot]; simp)
     have h2 := getD_true_of h1
     rw [(ht.mem q.idx).1 (.inl ⟨q, List.mem_cons_self .., rfl⟩)] at h2
     cases h2
   obtain ⟨q, hq, rfl⟩ := hq0
   obtain ⟨l1, l2, rfl⟩ := List.append_of_mem hq
   have hpw := List.pairwise_append.1 hrs.pw
   obtain ⟨t, hqt, hqp⟩ := hrs.prs q hq
   have hfree : ∀ p ∈ l1, Free p q := by
    intro p hp
    have hpr := hpw.2.2 p hp q (List.mem_cons_self ..)
    refine hpr.free (Classical.byContradiction fun hn' => ?_)
    rw [hqp] at hn'
    have := ahead_of ht.closed hback hahead hlen (q.idx + 1) q.idx oj t (by omega) hoj hqt hedges p.idx hpr.lt hn'
    have h3 := getD_true_of this
    rw [(ht.mem p.idx).1 (.inl ⟨p, List.mem_append_left _ hp, rfl⟩)] at h3
    cases h3
   obtain ⟨hsub, hrest⟩ := RunR.front hfree hrun
   have hns := hrs.news q hq
   have hreal : fsOf (applyWs st q.ws) = appFs (fsOf st) q.ws := fs_real q.ws st hns (hu q hq)
   refine hrs.snd q hq cx hld r m L F st a w hsub.1 hsub.2 hg (fun o ho k hk => ?_) _ _ fun a' L' F' w' hsz hg' tr' => ?_
   ·rw [hn]
    exact hd o (by simpa using Array.mem_of_getElem? ho) k hk
   ·have hmem : ∀ p, p ∈ l1 ++ l2 → p ∈ l1 ++ q :: l2 := fun p hp => by
     rcases List.mem_append.1 hp with h | h
     ·exact List.mem_append_left _ h
     ·exact List.mem_append_right _ (List.mem_cons_of_mem _ h)
    have hne : ∀ p ∈ l1 ++ l2, p.idx ≠ q.idx := by
     intro p hp
     rcases List.mem_append.1 hp with h | h
     ·have := (hpw.2.2 p h q (List.mem_cons_self ..)).lt; omega
     ·have := ((List.pairwise_cons.1 hpw.2.1).1 p h).lt; omega
    refine ih (l := l1 ++ l2) (by simp at hn0 ⊢; omega) (fun p hp => hlb p (hmem p hp)) ⟨?_, fun p hp => hrs.snd p (hmem p hp), fun p hp => hrs.news p (hmem p hp), fun p hp => hrs.prs p (hmem p hp)⟩ hg' ((applyWs_s _ _).trans hs) (Tr.trans tr tr') (hsz.trans hn) ?_ (by rw [hreal]; exact hrest) ⟨fun i => ?_, ?_, ?_⟩
    ·exact List.pairwise_append.2 ⟨hpw.1, (List.pairwise_cons.1 hpw.2.1).2, fun x hx y hy => hpw.2.2 x hx y (List.mem_cons_of_mem _ hy)⟩
    ·intro p hp id hid
     rw [hreal]
     refine (hu p (hmem p hp) id hid).appFs ?_ ?_
     ·rcases List.mem_append.1 hp with h | h
      ·exact (hfree p h).l.news id hid
      ·exact ((List.pairwise_cons.1 hpw.2.1).1 p h).names id hid
     ·rcases List.mem_append.1 hp with h | h
      ·exact (hfree p h).l.objs id (wNews_objs hid)
      ·exact ((List.pairwise_cons.1 hpw.2.1).1 p h).objs id hid
    ·by_cases hij : q.idx = i
     ·subst hij
      have hlt : q.idx < listed.size := by rw [ht.size]; exact (Array.getElem?_eq_some_iff.1 hoj).1
      have hqb := hlb q hq
      constructor
      ·rintro (⟨p, hp, he⟩ | ⟨h, _⟩)
       ·exact absurd he (hne p hp)
       ·omega
      ·intro h; simp [hlt] at h
     ·rw [getD_set_ne true hij, ← ht.mem i]
      constructor
      ·rintro (⟨p, hp, he⟩ | h)
       ·exact .inl ⟨p, hmem p hp, he⟩
       ·exact .inr h
      ·rintro (⟨p, hp, he⟩ | h)
       ·refine .inl ⟨p, ?_, he⟩
        rcases List.mem_append.1 hp with h | h
        ·exact List.mem_append_left _ h
        ·rcases List.mem_cons.1 h with rfl | h
         ·exact absurd he hij
         ·exact List.mem_append_right _ h
       ·exact .inr h
    ·rw [Array.size_setIfInBounds]; exact ht.size
    ·intro k o' hk ho' e he hb
     by_cases hkj : q.idx = k
     ·subst hkj
      rw [hoj] at ho'
      cases ho'
      exact getD_set_true (hedges e he hb)
     ·rw [getD_set_ne false hkj] at hk
      exact getD_set_true (ht.closed k o' hk ho' e he hb)
theorem wpAny_lin {ops : Array Oper} {rt : RT} (hst : okDraw ops.toList rt = true) {b : Nat} (hlin : linB rt.ots b = true) {Q : Exit → Act → World → Prop} :
  ∀ (n i : Nat) {listed : Array Bool} {a : Act} {w : World}, i + n = ops.size → b ≤ i → TodoB ops i [] listed → wpOpsIn (fr r) 0 P ops Q (List.range' i n) a w → wpAnyIn (fr r) 0 P .any ops Q n listed a w := by
 simp only [okDraw, Bool.and_eq_true] at hst
 obtain ⟨⟨⟨⟨hlen, hback⟩, hahead⟩, hpairs⟩, hmade⟩ := hst
 have hlen := Nat.eq_of_beq_eq_true hlen
 intro n
 induction n with
 | zero =>
  intro i listed a w hi hb ht h
  refine ⟨?_, h⟩
  cases hr : Region.ready .any ops listed with
  | nil => rfl
  | cons j _ =>
   have hj : j ∈ Region.ready .any ops listed := by rw [hr]; exact List.mem_cons_self ..
   rcases (ht.mem j).2 (mem_ready.1 hj).1 with ⟨q, hq, _⟩ | ⟨h1, h2⟩
   ·cases hq
   ·omega
 | succ n ih =>
  intro i listed a w hi hb ht h
  rw [List.range'_succ, wpOpsIn_cons] at h
  refine ⟨fun hr => ?_, fun j hj => ?_⟩
  ·exfalso
   have hu := (ht.mem i).1 (.inr ⟨Nat.le_refl _, by omega⟩)
   have hmem : i ∈ Region.ready .any ops listed := by
    rw [mem_ready]
    refine ⟨hu, ops[i]'(by omega), Array.getElem?_eq_getElem (by omega), fun e he hbd => ?_⟩
    have hlt := okBack_spec hback i (ops[i]'(by omega)) (by simp) e he hbd
    refine getD_false_of (by rw [ht.size]; omega) fun hf => ?_
    rcases (ht.mem e.on).2 hf with ⟨q', hq', _⟩ | ⟨h1, _⟩
    ·cases hq'
    ·omega
   rw [hr] at hmem
   cases hmem
  ·obtain ⟨hjl, oj, hoj, hedges⟩ := mem_ready.1 hj
   have hjs : j < ops.size := (Array.getElem?_eq_some_iff.1 hoj).1
   have hji : j = i := by
    rcases (ht.mem j).2 hjl with ⟨q, hq, _⟩ | ⟨h1, _⟩
    ·cases hq
    rcases Nat.lt_or_ge i j with h2 | h2
    ·exfalso
     have hot : rt.ots[j]? = some (rt.ots[j]'(by rw [← hlen]; simpa using hjs)) := List.getElem?_eq_getElem _
     have h3 := ahead_of ht.closed hback hahead hlen (j + 1) j oj _ (by omega) hoj hot hedges i h2 (by rw [linB_spec hlin (by omega) hot]; simp)
     have h4 := getD_true_of h3
     rw [(ht.mem i).1 (.inr ⟨Nat.le_refl _, by omega⟩)] at h4
     cases h4
    ·omega
   subst hji
   refine wpOpIn_mono (fun a' w' h' => ih (j + 1) (by omega) (by omega) ⟨fun k => ?_, ?_, ?_⟩ h') h
   ·by_cases hkj : j = k
    ·subst hkj
     have : j < listed.size := by rw [ht.size]; exact hjs
     constructor
     ·rintro (⟨q, hq, _⟩ | ⟨h1, _⟩)
      ·cases hq
      ·omega
     ·intro h; simp [this] at h
    ·rw [getD_set_ne true hkj, ← ht.mem k]
     constructor
     ·rintro (⟨q, hq, _⟩ | ⟨h1, h2⟩)
      ·cases hq
      ·exact .inr ⟨by omega, h2⟩
     ·rintro (⟨q, hq, _⟩ | ⟨h1, h2⟩)
      ·cases hq
      ·exact .inr ⟨by omega, h2⟩
   ·rw [Array.size_setIfInBounds]; exact ht.size
   ·intro k o' hk ho' e he hb
    by_cases hkj : j = k
    ·subst hkj
     rw [hoj] at ho'
     cases ho'
     exact getD_set_true (hedges e he hb)
    ·rw [getD_set_ne false hkj] at hk
     exact getD_set_true (ht.closed k o' hk ho' e he hb)
end
section
variable {P : Program} {T : Tys} {ft : FT} {σ : Type} {Y : Hd σ}
theorem RegionA_seq (hm : P.follows .mixedOrders = true) (hT : TysOk P T) (rt : RT) (b : Nat) {id : Nat} {ops : Array Oper} (hst : okDraw ops.toList rt = true) (hlin : (Nat.ble b ops.toList.length && linB rt.ots b) = true) {e : Env} {h : Heap} {s : σ} {K : AExit → St σ → Prop}
  (hk : awayK rt.made e h fun e h => wpD P T rt.made ops.toList ((ops.toList.zip rt.ots).take b) [] e h fun e h => wpOps P T Y ops.toList (ops.toList.drop b) e h s fun e h s => forceE (keepT ft.ks e) fun e => K .normal ⟨e, h, s⟩) : RegionA P ft Y id ops ⟨e, h, s⟩ K := by
 refine ⟨fun cx hY r m L F a w hg hc => ?_⟩
 rw [Bool.and_eq_true] at hlin
 have hbs : b ≤ ops.size := by have := Nat.le_of_ble_eq_true hlin.1; simpa using this
 have hst' := hst
 simp only [okDraw, Bool.and_eq_true] at hst'
 obtain ⟨⟨⟨⟨hlen, hback⟩, hahead⟩, hpairs⟩, hmade⟩ := hst'
 have hlen := Nat.eq_of_beq_eq_true hlen
 have hd := opsOk_of hc
 obtain ⟨e1, h1, L1, hk, hg1, hu⟩ := awayK_t rt.made (fun d hd' => by
  have := List.all_eq_true.1 hmade d hd'
  exact Nat.le_of_ble_eq_true this) hg hk (fun _ => False) (fun _ h => h.elim)
 obtain ⟨R, eN, hN, k1, k2, k3, k4, k5, k6⟩ := wpD_t hT hpairs ((ops.toList.zip rt.ots).take b) [] (fun j p hp => by
  rw [List.getElem?_take] at hp
  split at hp
  ·have := List.getElem?_zip_eq_some.1 hp
   simpa using this
  ·cases hp) (fun k q hq => by simp at hq) List.Pairwise.nil hk
 simp only [List.nil_append] at k4 k5
 have hRl : R.length = b := by
  rw [k3, List.length_take, List.length_zip, hlen]
  have : ops.toList.length = ops.size := by simp
  omega
 have hidx : ∀ q ∈ R, q.idx < b := fun q hq => by
  obtain ⟨k, hk', hkq⟩ := List.mem_iff_getElem.1 hq
  have := (k4 k q (by rw [List.getElem?_eq_getElem hk', hkq])).1
  omega
 have tr0 : Tr F w F { w with drawn := w.drawn + 1 } := Tr.drew _
 refine wpIn_mono (wpIn_region_any (id := id) (Q := OpsPostP Y cx r m F w a.tmps.size (fun e h s => forceE (keepT ft.ks e) fun e => K .normal ⟨e, h, s⟩)) hm ?_) fun ex a' w' hq => ?_
 ·have hfu : ops.size = (ops.size - b) + b := by omega
  rw [hfu]
  refine wpAny_pre (cx := cx) hY.laid (r := r) (m := m) (s := s) (n0 := a.tmps.size) (F0 := F) (w0 := w) (f' := ⟨get eN, get hN⟩) hst hbs hlin.2 hd (fun a' w' L' F' st listed hf hs hg' tr hn ht => ?_) b (l := R) (st := ⟨e1, h1, s⟩) hRl hidx
   ⟨k5, fun q hq => ?_, fun q hq => ?_, fun q hq => ?_⟩ (hg1.same (w' := { w with drawn := w.drawn + 1 }) rfl rfl rfl rfl) rfl tr0 rfl (fun q hq x hx => hu x (.inl (k6 q hq x hx))) k2 ⟨fun i => ?_, by simp; omega, fun j o hj => ?_⟩
  ·have he : get st.env = get eN := congrArg Fs.env hf
   have hh : get st.heap = get hN := congrArg Fs.heap hf
   have hg2 := hg'.sub (e := eN) (h := hN) (fun x v hx => by rw [he]; exact hx) (fun x v hx => by rw [hh]; exact hx)
   rw [hs] at hg2
   refine wpAny_lin hst hlin.2 (ops.size - b) b (by omega) (Nat.le_refl _) ht ?_
   have := wpOps_sound hT hY (ops.toList.drop b) b (fun j => by simp) hg2 hn (fun o ho => hd o (List.mem_of_mem_drop ho)) tr k1
   simpa using this
  ·obtain ⟨k, hk', hkq⟩ := List.mem_iff_getElem.1 hq
   exact (k4 k q (by rw [List.getElem?_eq_getElem hk', hkq])).2.snd
  ·obtain ⟨k, hk', hkq⟩ := List.mem_iff_getElem.1 hq
   exact (k4 k q (by rw [List.getElem?_eq_getElem hk', hkq])).2.news
  ·obtain ⟨k, hk', hkq⟩ := List.mem_iff_getElem.1 hq
   obtain ⟨o, t, h1, h2, h3, _⟩ := (k4 k q (by rw [List.getElem?_eq_getElem hk', hkq])).2.op
   exact ⟨t, h2, h3⟩
  ·rw [← hfu, Array.getD_eq_getD_getElem?, Array.getElem?_replicate]
   constructor
   ·rintro (⟨q, hq, rfl⟩ | ⟨h1, h2⟩)
    ·have := hidx q hq
     rw [if_pos (by omega)]; rfl
    ·rw [if_pos h2]; rfl
   ·intro hi
    by_cases hi' : i < b
    ·exact .inl ⟨R[i], List.getElem_mem .., (k4 i R[i] (List.getElem?_eq_getElem (by omega))).1⟩
    ·by_cases hi2 : i < ops.size
     ·exact .inr ⟨by omega, hi2⟩
     ·rw [if_neg hi2] at hi; simp at hi
  ·rw [← hfu, Array.getD_eq_getD_getElem?, Array.getElem?_replicate] at hj
   split at hj <;> cases hj
 ·rcases hq with ⟨e', h', s', L', F', hex, hk, hg', tr, hs⟩ | hp
  case inr => exact .inr hp
  rw [forceE_eq] at hk
  exact .inl ⟨.normal, _, m, L', F', hex, hk, hg'.sub (sub_keepT ft.ks e') (fun _ _ h => h), tr, hs⟩
end
end Go.PX
namespace Go.PX
open Go.RowKit
def stepAt {σ : Type} (P : Program) (T : Tys) (Y : Hd σ) (ops : List Oper) (o : Option Oper) (e : Env) (h : Heap) (s : σ) (go : Env → Heap → σ → Prop) : Prop :=
 match o with
 | some ⟨dst, op, _, _, _, guard⟩ => guardK ops e guard (fun w => applyK w e h fun e h => stepK P T Y dst op e h s go) (fun w => applyK w e h fun e h => applyK (wset dst (.d (.tup []))) e h fun e h => go e h s)
 | none => False
def isTrue : List Bool → Nat → Bool
 | [], _ => true
 | b :: _, 0 => b
 | _ :: r, n + 1 => isTrue r n
def allTrue (ls : List Bool) : List Nat → Bool
 | [] => true
 | i :: r => isTrue ls i && allTrue ls r
def readyL (ls : List Bool) : Nat → List (List Nat) → List Bool → List Nat
 | _, [], _ => []
 | _, _, [] => []
 | i, d :: ds, b :: bs => match b, allTrue ls d with
  | false, true => i :: readyL ls (i + 1) ds bs
  | _, _ => readyL ls (i + 1) ds bs
def setT : List Bool → Nat → List Bool
 | [], _ => []
 | _ :: r, 0 => true :: r
 | b :: r, n + 1 => b :: setT r n
noncomputable def allR (l : List Nat) (f : Nat → Prop) : Prop :=
 List.rec (motive := fun _ => Prop) True (fun i _ ih => f i ∧ ih) l
theorem allR_iff {f : Nat → Prop} : ∀ {l : List Nat}, allR l f ↔ ∀ i ∈ l, f i
 | [] => by simp [allR]
 | i :: r => by
  have := allR_iff (f := f) (l := r)
  simp only [allR] at this ⊢
  rw [this]
  simp
noncomputable def wpAnyA {σ : Type} (P : Program) (T : Tys) (Y : Hd σ) (ops : List Oper) (deps : List (List Nat)) (n : Nat) : List Bool → Env → Heap → σ → (Env → Heap → σ → Prop) → Prop :=
 Nat.rec (motive := fun _ => List Bool → Env → Heap → σ → (Env → Heap → σ → Prop) → Prop) (fun _ e h s K => K e h s)
  (fun _ ih ls e h s K => allR (readyL ls 0 deps ls) fun i => stepAt P T Y ops ops[i]? e h s fun e h s => ih (setT ls i) e h s K) n
def depsOk : List Oper → List (List Nat) → Bool
 | [], [] => true
 | o :: r, d :: ds => d.all (fun i => o.after.toList.any fun e => Region.binds .any e && Nat.beq e.on i) && depsOk r ds
 | _, _ => false
theorem depsOk_spec : ∀ {l : List Oper} {ds : List (List Nat)}, depsOk l ds = true → l.length = ds.length ∧ ∀ (i : Nat) (o : Oper) (d : List Nat), l[i]? = some o → ds[i]? = some d → ∀ j ∈ d, ∃ e ∈ o.after, Region.binds .any e = true ∧ e.on = j
 | [], [], _ => ⟨rfl, fun i o d h => by simp at h⟩
 | [], _ :: _, h => by simp [depsOk] at h
 | _ :: _, [], h => by simp [depsOk] at h
 | o :: r, d :: ds, h => by
  simp only [depsOk, Bool.and_eq_true, List.all_eq_true] at h
  obtain ⟨h1, h2⟩ := depsOk_spec h.2
  refine ⟨by simp [h1], fun i o' d' ho hd j hj => ?_⟩
  cases i with
  | zero =>
   simp at ho hd
   subst ho; subst hd
   have := h.1 j hj
   simp only [List.any_eq_true, Bool.and_eq_true] at this
   obtain ⟨e, he, hb, hq⟩ := this
   exact ⟨e, by simpa using he, hb, Nat.eq_of_beq_eq_true hq⟩
  | succ i => exact h2 i o' d' (by simpa using ho) (by simpa using hd) j hj
theorem isTrue_iff : ∀ {ls : List Bool} {i : Nat}, isTrue ls i = ls.toArray.getD i true
 | [], i => by simp [isTrue, Array.getD_eq_getD_getElem?]
 | b :: r, 0 => by simp [isTrue, Array.getD_eq_getD_getElem?]
 | b :: r, n + 1 => by
  have := isTrue_iff (ls := r) (i := n)
  simp only [isTrue, this, Array.getD_eq_getD_getElem?]
  simp
theorem allTrue_of {ls : List Bool} : ∀ {d : List Nat}, (∀ j ∈ d, isTrue ls j = true) → allTrue ls d = true
 | [], _ => rfl
 | i :: r, h => by
  have h1 := allTrue_of (ls := ls) (d := r) fun j hj => h j (List.mem_cons_of_mem _ hj)
  simp [allTrue, h i (by simp), h1]
theorem mem_readyL {ls : List Bool} : ∀ {ds : List (List Nat)} {bs : List Bool} {k i : Nat} {d : List Nat}, ds[i]? = some d → bs[i]? = some false → allTrue ls d = true → k + i ∈ readyL ls k ds bs
 | [], _, _, i, d, h, _, _ => by simp at h
 | _ :: _, [], _, i, d, _, h, _ => by simp at h
 | x :: ds, b :: bs, k, i, d, hd, hb, ha => by
  cases i with
  | zero =>
   simp at hd hb
   subst hd; subst hb
   simp [readyL, ha]
  | succ i =>
   have := mem_readyL (ls := ls) (ds := ds) (bs := bs) (k := k + 1) (i := i) (by simpa using hd) (by simpa using hb) ha
   rw [show k + (i + 1) = k + 1 + i by omega]
   simp only [readyL]
   split
   ·exact List.mem_cons_of_mem _ this
   ·exact this
theorem setT_eq : ∀ {ls : List Bool} {i : Nat}, setT ls i = ls.set i true
 | [], i => by simp [setT]
 | b :: r, 0 => rfl
 | b :: r, n + 1 => by simp [setT, setT_eq (ls := r)]
def unl : List Bool → Nat
 | [] => 0
 | true :: r => unl r
 | false :: r => unl r + 1
theorem unl_set : ∀ {ls : List Bool} {i : Nat}, ls[i]? = some false → unl (ls.set i true) + 1 = unl ls
 | [], i, h => by simp at h
 | b :: r, 0, h => by
  simp at h; subst h
  simp [unl]
 | b :: r, i + 1, h => by
  have := unl_set (ls := r) (i := i) (by simpa using h)
  cases b <;> simp [unl, this]
theorem unl_pos : ∀ {ls : List Bool}, 0 < unl ls → ∃ i : Nat, ls[i]? = some false ∧ ∀ j : Nat, j < i → ls[j]? = some true
 | [], h => by simp [unl] at h
 | false :: r, _ => ⟨0, rfl, fun j hj => by omega⟩
 | true :: r, h => by
  obtain ⟨i, h1, h2⟩ := unl_pos (ls := r) (by simpa [unl] using h)
  refine ⟨i + 1, by simpa using h1, fun j hj => ?_⟩
  cases j with
  | zero => rfl
  | succ j => simpa using h2 j (by omega)
theorem unl_zero : ∀ {ls : List Bool}, unl ls = 0 → ∀ i : Nat, ls[i]? ≠ some false
 | [], _, i => by simp
 | false :: r, h, i => by simp [unl] at h
 | true :: r, h, i => by
  cases i with
  | zero => simp
  | succ i => simpa using unl_zero (ls := r) (by simpa [unl] using h) i
section
variable {P : Program} {T : Tys} {σ : Type} {Y : Hd σ} {cx : Cx σ} {r : Option Nat} {m : List Nat}
theorem getD_true_at {ls : List Bool} {i : Nat} : ls.toArray.getD i true = false ↔ ls[i]? = some false := by
 rw [Array.getD_eq_getD_getElem?]
 simp only [List.getElem?_toArray]
 cases ls[i]? with
 | none => simp
 | some b => simp
theorem getD_false_at {ls : List Bool} {i : Nat} : ls.toArray.getD i false = true ↔ ls[i]? = some true := by
 rw [Array.getD_eq_getD_getElem?]
 simp only [List.getElem?_toArray]
 cases ls[i]? with
 | none => simp
 | some b => simp
theorem wpAnyA_sound (hT : TysOk P T) (hY : Handles P Y cx) {ops : Array Oper} {deps : List (List Nat)} (hback : okBack 0 ops.toList = true) (hdeps : depsOk ops.toList deps = true) {F0 : Nat → Nat} {w0 : World} {n0 : Nat} (hd : ∀ o ∈ ops.toList, ∀ d, o.dst = some d → d < n0) {K : Env → Heap → σ → Prop} :
  ∀ (n : Nat) {ls : List Bool} {e : Env} {h : Heap} {s : σ} {L : Loc} {F : Nat → Nat} {a : Act} {w : World}, ls.length = ops.size → unl ls = n → Good cx r m L F ⟨e, h, s⟩ a w → a.tmps.size = n0 → Tr F0 w0 F w →
   wpAnyA P T Y ops.toList deps n ls e h s K → wpAnyIn (fr r) 0 P .any ops (OpsPostP Y cx r m F0 w0 n0 K) n ls.toArray a w := by
 obtain ⟨hdl, hds⟩ := depsOk_spec hdeps
 have hdl : ops.size = deps.length := by simpa using hdl
 intro n
 induction n with
 | zero =>
  intro ls e h s L F a w hl hu hg hs tr hk
  refine ⟨?_, .inl ⟨e, h, s, L, F, rfl, hk, hg, tr, hs⟩⟩
  cases hr : Region.ready .any ops ls.toArray with
  | nil => rfl
  | cons i _ =>
   have : i ∈ Region.ready .any ops ls.toArray := by rw [hr]; exact List.mem_cons_self ..
   have := getD_true_at.1 (mem_ready.1 this).1
   exact absurd this (unl_zero hu i)
 | succ n ih =>
  intro ls e h s L F a w hl hu hg hs tr hk
  refine ⟨fun hr => ?_, fun i hi => ?_⟩
  ·exfalso
   obtain ⟨i, h1, h2⟩ := unl_pos (ls := ls) (by omega)
   have his : i < ops.size := by rw [← hl]; exact (List.getElem?_eq_some_iff.1 h1).1
   have : i ∈ Region.ready .any ops ls.toArray := by
    rw [mem_ready]
    refine ⟨getD_true_at.2 h1, ops[i], Array.getElem?_eq_getElem his, fun e he hb => ?_⟩
    have hlt := okBack_spec hback i ops[i] (by simp) e he hb
    exact getD_false_at.2 (h2 e.on (by omega))
   rw [hr] at this
   cases this
  ·obtain ⟨hjl, oj, hoj, hedges⟩ := mem_ready.1 hi
   have his : i < ops.size := (Array.getElem?_eq_some_iff.1 hoj).1
   have hli := getD_true_at.1 hjl
   have hk : allR (readyL ls 0 deps ls) fun i => stepAt P T Y ops.toList ops.toList[i]? e h s fun e h s => wpAnyA P T Y ops.toList deps n (setT ls i) e h s K := hk
   have hdi : deps[i]? = some (deps[i]'(by omega)) := List.getElem?_eq_getElem _
   have hki := allR_iff.1 hk i (by
    have := mem_readyL (ls := ls) (ds := deps) (bs := ls) (k := 0) (i := i) hdi hli (allTrue_of fun j hj => by
     obtain ⟨e, he, hb, rfl⟩ := hds i oj _ (by simpa using hoj) hdi j hj
     have := hedges e he hb
     rw [isTrue_iff]
     have := getD_false_at.1 this
     rw [Array.getD_eq_getD_getElem?]
     simp [this])
    simpa using this)
   have hot : ops.toList[i]? = some oj := by simpa using hoj
   rw [hot] at hki
   obtain ⟨dst, op, ty, pos, after, guard⟩ := oj
   refine wpOp_sound hT hY hoj hg (fun d hdst => by rw [hs]; exact hd _ (List.mem_of_getElem? hot) d hdst) hki (fun e' h' s' L' F' a' w' hg' hs' tr' hk' => ?_) fun e' a' w' hp => .inr (hp.trans tr hs)
   have hset : ls.toArray.setIfInBounds i true = (setT ls i).toArray := by rw [setT_eq]; simp
   rw [hset]
   refine ih (by rw [setT_eq]; simpa using hl) ?_ hg' (hs'.trans hs) (Tr.trans tr tr') hk'
   rw [setT_eq]
   have := unl_set hli
   omega
variable {ft : FT}
theorem RegionA_all (hm : P.follows .mixedOrders = true) (hT : TysOk P T) (deps : List (List Nat)) {id : Nat} {ops : Array Oper} (hst : (okBack 0 ops.toList && depsOk ops.toList deps) = true) {e : Env} {h : Heap} {s : σ} {K : AExit → St σ → Prop}
  (hk : wpAnyA P T Y ops.toList deps deps.length (deps.map fun _ => false) e h s fun e h s => forceE (keepT ft.ks e) fun e => K .normal ⟨e, h, s⟩) : RegionA P ft Y id ops ⟨e, h, s⟩ K := by
 refine ⟨fun cx hY r m L F a w hg hc => ?_⟩
 rw [Bool.and_eq_true] at hst
 obtain ⟨hdl, _⟩ := depsOk_spec hst.2
 have hdl : ops.size = deps.length := by simpa using hdl
 refine wpIn_mono (wpIn_region_any (id := id) (Q := OpsPostP Y cx r m F w a.tmps.size (fun e h s => forceE (keepT ft.ks e) fun e => K .normal ⟨e, h, s⟩)) hm ?_) fun ex a' w' hq => ?_
 ·have hrep : Array.replicate ops.size false = (deps.map fun _ => false).toArray := by
   rw [hdl]
   have : ∀ l : List (List Nat), (l.map fun _ => false) = List.replicate l.length false := by
    intro l
    induction l with
    | nil => rfl
    | cons x r ih => rw [List.map_cons, ih]; rfl
   rw [this]; simp
  have hunl : ∀ l : List (List Nat), unl (l.map fun _ => false) = l.length := by
   intro l
   induction l with
   | nil => rfl
   | cons x r ih => simp [unl, ih]
  rw [hrep, hdl]
  exact wpAnyA_sound hT hY hst.1 hst.2 (opsOk_of hc) deps.length (by simp [hdl]) (hunl deps) (hg.same (w' := { w with drawn := w.drawn + 1 }) rfl rfl rfl rfl) rfl (Tr.drew _) hk
 ·rcases hq with ⟨e', h', s', L', F', hex, hk, hg', tr, hs⟩ | hp
  case inr => exact .inr hp
  rw [forceE_eq] at hk
  exact .inl ⟨.normal, _, m, L', F', hex, hk, hg'.sub (sub_keepT ft.ks e') (fun _ _ h => h), tr, hs⟩
end
end Go.PX
