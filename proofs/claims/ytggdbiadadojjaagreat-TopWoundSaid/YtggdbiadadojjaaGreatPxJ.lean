import Derived.Test.YtggdbiadadojjaaGreatPxI
import Derived.Test.YtggdbiadadojjaaGreatPxH
set_option linter.all false
set_option maxRecDepth 10000
namespace Go.PX
open Go.Proofs
def firstErr {α : Type} (f : α → Int) : List α → Int
 | [] => 0
 | x :: r => if f x = 0 then firstErr f r else f x
def entE (c : WCase) (rota : List (List Int)) : Int :=
 if (checkW c).2.2 = 0 then (if rota.length > 40 then 3 else firstErr (ascF c.men.length (-1)) rota) else (checkW c).2.2
def crewCells (c : WCase) (set : Int) : List D := [mansD c.men, slotsD c.slots, i64 c.run, i64 c.rest, i64 set]
def crewD (c : WCase) (set : Int) : D := .ref (crewCells c set)
def allMen (c : WCase) : Int := 2 ^ c.men.length - 1
structure WR (c : WCase) : Prop where
 men : 1 ≤ c.men.length ∧ c.men.length ≤ 5
 slots : 1 ≤ c.slots.length ∧ c.slots.length ≤ 6
 run : 1 ≤ c.run ∧ c.run ≤ 3
 rest : 1 ≤ c.rest ∧ c.rest ≤ 3
 slot : ∀ s ∈ c.slots, (1 ≤ s.men ∧ s.men ≤ 2) ∧ (0 ≤ s.least ∧ s.least ≤ 3)
 man : ∀ m ∈ c.men, (0 ≤ m.kind ∧ m.kind ≤ 3) ∧ ascF c.slots.length (-1) m.no = 0
 zero : checkW c = (0, 0, 0)
theorem wR {c : WCase} (h : (checkW c).2.2 = 0) : WR c := by
 have hz := h
 unfold checkW at h
 split at h
 case isFalse => cases h
 rename_i h0
 split at h
 case isFalse => cases h
 rename_i h1
 simp only [Bool.and_eq_true, inB_iff] at h0 h1
 dsimp only at h
 by_cases h2 : (firstE slotF [] c.slots 0).2 = 0
 ·rw [if_pos h2] at h
  unfold checkM at h
  dsimp only at h
  by_cases h3 : (firstE (manF c.slots.length) [] c.men 0).2 = 0
  ·have hs := firstE_all h2
   have hm := firstE_all h3
   refine ⟨by omega, by omega, h1.1, h1.2, fun s hs' => ?_, fun m hm' => ?_, ?_⟩
   ·obtain ⟨b, hb⟩ := hs s hs'
    unfold slotF at hb
    split at hb
    case isFalse => cases hb
    rename_i h4
    simpa only [Bool.and_eq_true, inB_iff] using h4
   ·obtain ⟨b, hb⟩ := hm m hm'
    unfold manF at hb
    split at hb
    case isFalse => cases hb
    split at hb
    ·cases hb
    split at hb
    case isFalse => cases hb
    rename_i h4
    exact ⟨by simpa only [inB_iff] using h4, hb⟩
   ·simp [checkW, checkM, h2, h3, inB_iff, h0, h1]
  ·rw [if_neg h3] at h; exact absurd h h3
 ·rw [if_neg h2] at h; exact absurd h h2
theorem wa63 (c : WCase) (rota : List (List Int)) : FnV Tryz.prog 54 [c.d, rotaD rota] (.tup [if entE c rota = 0 then crewD c (allMen c) else .nilp, i64 (entE c rota)]) := by
 refine fnV_of mixed tysOk Tryz.func54 rfl (ft := ft54) 2 (by decide +kernel) (by rfl) fun {σ} Y st => ?_
 conv=>whnf
 refine CallA_v (wa15 c) rfl rfl ?_
 conv=>whnf
 refine brk_i (fun h0 => ?_) (fun h0 => ?_)
 ·have h0 : (checkW c).2.2 ≠ 0 := by simpa using h0
  conv=>whnf
  have : entE c rota = (checkW c).2.2 := by simp [entE, h0]
  rw [this, if_neg h0]
  exact RetA_view 0 rfl ⟨⟨rfl, rfl⟩, rfl⟩
 have h0 : (checkW c).2.2 = 0 := by simpa using h0
 have hR := wR h0
 conv=>whnf
 refine brk_i (fun h1 => ?_) (fun h1 => ?_)
 ·have h1 : rota.length > 40 := by simp at h1; omega
  conv=>whnf
  have : entE c rota = 3 := by simp [entE, h0, h1]
  rw [this]
  exact RetA_view 0 rfl ⟨⟨rfl, rfl⟩, rfl⟩
 have h1 : ¬ rota.length > 40 := by simp at h1; omega
 have hE : entE c rota = firstErr (ascF c.men.length (-1)) rota := by simp [entE, h0, h1]
 rw [hE]
 conv=>whnf
 refine LoopA_i (T := tys) tysOk (by exact drawsB_spec mixed tysOk (by decide +kernel)) rota (fun i (_ : Unit) => ⟨[(2, .ptr 2 0), (25, .d (rotaD rota)), (26, .d (i64 rota.length)), (27, .d (i64 i))], [(2, .box (.dd c.cells))], st⟩) (fun i r _ => firstErr (ascF c.men.length (-1)) rota = firstErr (ascF c.men.length (-1)) r) () (Wk.sub ⟨(by first | rfl | (simp only [List.length_map]; rfl) | simp [PX.get]), (by first | rfl | (simp only [List.length_map]; rfl) | simp [PX.get]), (by first | rfl | (simp only [List.length_map]; rfl) | simp [PX.get]), (by first | rfl | (simp only [List.length_map]; rfl) | simp [PX.get]), trivial⟩ ⟨(by first | rfl | (simp only [List.length_map]; rfl) | simp [PX.get]), trivial⟩) rfl ?_ ?_
 ·intro i x r _ hx hi hr he
  rw [firstErr] at he
  have hm := hR.men
  conv=>whnf
  refine brk_i (fun _ => ?_) (fun h => absurd hi (by simpa using h))
  conv=>whnf
  refine elemK_nat hx ?_
  conv=>whnf
  refine CallA_v (wa59 x _ (by simp only [List.length_map]; omega)) rfl rfl ?_
  generalize hF : ascF (List.map Man.cells c.men).length (-1) x = E
  rw [List.length_map] at hF
  conv=>whnf
  refine brk_i (fun h7 => ?_) (fun h7 => ?_)
  ·have h7 : E ≠ 0 := by simpa using h7
   conv=>whnf
   rw [he, hF, if_neg h7, if_neg h7]
   exact RetA_view 0 rfl ⟨⟨rfl, rfl⟩, rfl⟩
  have h7 : E = 0 := by simpa using h7
  rw [hF, if_pos h7] at he
  conv=>whnf
  refine arith_in (wrap_i64 (by (try dsimp only); omega)) ?_
  conv=>whnf
  exact ⟨(), he, (Wk.sub ⟨(by first | rfl | (simp only [List.length_map]; rfl) | simp [PX.get]), (by first | rfl | (simp only [List.length_map]; rfl) | simp [PX.get]), (by first | rfl | (simp only [List.length_map]; rfl) | simp [PX.get]), (by first | rfl | (simp only [List.length_map]; rfl) | simp [PX.get]), trivial⟩ ⟨(by first | rfl | (simp only [List.length_map]; rfl) | simp [PX.get]), trivial⟩)⟩
 intro _ he
 rw [firstErr] at he
 rw [he]
 conv=>whnf
 refine brk_i (fun h => absurd h (by simp)) (fun _ => ?_)
 conv=>whnf
 have hm := hR.men
 have h5 : (c.men.length = 1 ∨ c.men.length = 2 ∨ c.men.length = 3 ∨ c.men.length = 4 ∨ c.men.length = 5) := by omega
 have hp : (1 : Int) ≤ 2 ^ c.men.length ∧ (2 : Int) ^ c.men.length ≤ 32 := by rcases h5 with h | h | h | h | h <;> rw [h] <;> decide
 refine arith_to (2 ^ c.men.length) (by
  have : min (↑(List.map Man.cells c.men).length : Int).toNat IntKind.i64.bits = c.men.length := by
   rw [List.length_map]
   have : IntKind.i64.bits = 64 := rfl
   omega
  rw [this]; omega) (wrap_i64 (by omega)) ?_
 conv=>whnf
 refine arith_to (allMen c) rfl (wrap_i64 (by unfold allMen; omega)) ?_
 conv=>whnf
 exact RetA_view 1 rfl ⟨⟨rfl, rfl⟩, rfl⟩
end Go.PX
namespace Go.PX
open Go.Proofs
structure Tired where
 slot : Int
 m0 : Int
 m1 : Int
 m2 : Int
 m3 : Int
 m4 : Int
 deriving DecidableEq
def Tired.cells (t : Tired) : List D := [i64 t.slot, i64 t.m0, i64 t.m1, i64 t.m2, i64 t.m3, i64 t.m4]
def Tired.d (t : Tired) : D := .agg t.cells
def Tired.zero : Tired := ⟨0, 0, 0, 0, 0, 0⟩
def Tired.get (t : Tired) : Nat → Int
 | 0 => t.m0
 | 1 => t.m1
 | 2 => t.m2
 | 3 => t.m3
 | _ => t.m4
def Tired.set (t : Tired) (i : Nat) (x : Int) : Tired :=
 match i with
 | 0 => { t with m0 := x }
 | 1 => { t with m1 := x }
 | 2 => { t with m2 := x }
 | 3 => { t with m3 := x }
 | _ => { t with m4 := x }
def tireF (rest : Int) (is : Bool) (n : Int) : Int :=
 if is then n + 1 else if n > 0 then 1 - rest else if n < 0 then n + 1 else n
def tireTo (rest : Int) (group : List Int) : Nat → Tired → Tired
 | 0, t => t
 | n + 1, t => (tireTo rest group n t).set n (tireF rest (decide ((n : Int) ∈ group)) ((tireTo rest group n t).get n))
def behindF (c : WCase) (t : Tired) (group : List Int) : Tired :=
 tireTo c.rest group c.men.length { t with slot := (t.slot + 1).tmod c.slots.length }
structure TOk (t : Tired) : Prop where
 slot : 0 ≤ t.slot ∧ t.slot ≤ 1000
 m0 : -1000 ≤ t.m0 ∧ t.m0 ≤ 1000
 m1 : -1000 ≤ t.m1 ∧ t.m1 ≤ 1000
 m2 : -1000 ≤ t.m2 ∧ t.m2 ≤ 1000
 m3 : -1000 ≤ t.m3 ∧ t.m3 ≤ 1000
 m4 : -1000 ≤ t.m4 ∧ t.m4 ≤ 1000
structure TB (t : Tired) (k : Int) : Prop where
 m0 : -k ≤ t.m0 ∧ t.m0 ≤ k
 m1 : -k ≤ t.m1 ∧ t.m1 ≤ k
 m2 : -k ≤ t.m2 ∧ t.m2 ≤ k
 m3 : -k ≤ t.m3 ∧ t.m3 ≤ k
 m4 : -k ≤ t.m4 ∧ t.m4 ≤ k
theorem wa92 (c : WCase) (hR : WR c) (set : Int) (t : Tired) (ht : TOk t) (group : List Int) (hg : group.length < 4000000000000000000) : FnV Tryz.prog 104 [crewD c set, t.d, intsD group] (behindF c t group).d := by
 refine fnV_of mixed tysOk Tryz.func104 rfl (ft := ft104) 3 (by decide +kernel) (by rfl) fun {σ} Y st => ?_
 conv=>whnf
 obtain ⟨hts, ht0, ht1, ht2, ht3, ht4⟩ := ht
 have hm := hR.men
 have hs := hR.slots
 have hr := hR.rest
 refine arith_in (wrap_i64 (by (try dsimp only); omega)) ?_
 conv=>whnf
 refine chk_i (decide_eq_true (by rw [List.length_map]; omega)) ?_
 conv=>whnf
 rw [List.length_map]
 generalize hu : Tired.mk ((t.slot + 1).tmod c.slots.length) t.m0 t.m1 t.m2 t.m3 t.m4 = u0
 have hu0 : TB u0 1000 := by subst hu; exact ⟨ht0, ht1, ht2, ht3, ht4⟩
 have hB : behindF c t group = tireTo c.rest group c.men.length u0 := by subst hu; rfl
 rw [hB]
 refine LoopA_i (T := tys) tysOk (by exact drawsB_spec mixed tysOk (by decide +kernel)) c.men (fun i (u : Tired) => ⟨[(0, .d (crewD c set)), (2, .d (intsD group)), (4, .ptr 4 0), (6, .ptr 6 0), (25, .d (i64 c.men.length)), (26, .d (i64 i))], [(4, .box (.dd u.cells)), (6, .box (.dd Tired.zero.cells))], st⟩) (fun i r u => u = tireTo c.rest group i u0 ∧ TB u (1000 + i)) u0 (by subst hu; exact (Wk.sub ⟨(by first | rfl | (simp only [List.length_map]; rfl) | simp [PX.get]), (by first | rfl | (simp only [List.length_map]; rfl) | simp [PX.get]), (by first | rfl | (simp only [List.length_map]; rfl) | simp [PX.get]), (by first | rfl | (simp only [List.length_map]; rfl) | simp [PX.get]), (by first | rfl | (simp only [List.length_map]; rfl) | simp [PX.get]), (by first | rfl | (simp only [List.length_map]; rfl) | simp [PX.get]), trivial⟩ ⟨(by first | rfl | (simp only [List.length_map]; rfl) | simp [PX.get]), (by first | rfl | (simp only [List.length_map]; rfl) | simp [PX.get]), trivial⟩)) ⟨rfl, by simpa using hu0⟩ ?_ ?_
 ·intro i x r u hx hi hr' he
  obtain ⟨he, hb⟩ := he
  have h5 : i = 0 ∨ i = 1 ∨ i = 2 ∨ i = 3 ∨ i = 4 := by omega
  have hnx : (tireTo c.rest group (i + 1) u0) = u.set i (tireF c.rest (decide ((i : Int) ∈ group)) (u.get i)) := by rw [tireTo, he]
  obtain ⟨hb0, hb1, hb2, hb3, hb4⟩ := hb
  rcases h5 with rfl | rfl | rfl | rfl | rfl
  ·conv=>whnf
   refine brk_i (fun _ => ?_) (fun h => absurd hi (by have := of_decide_eq_false h; omega))
   conv=>whnf
   refine CallA_v (fn63 group _ hg) rfl rfl ?_
   conv=>whnf
   refine brk_i (fun h1 => ?_) (fun h1 => ?_)
   ·rw [h1] at hnx
    conv=>whnf
    repeat' (first
     | (refine arith_in (wrap_i64 (by (try dsimp only); omega)) ?_; conv=>whnf)
     | (refine elemK_nat (by assumption) ?_; conv=>whnf)
     | (refine ownK_whole (by first | rfl | assumption | (simp [Els.len]; done) | (simp [Els.len]; omega)) ?_; conv=>whnf)
     | (refine chk_i (by first | (exact decide_eq_true (by (try simp only [List.length_map]); omega)) | (simp [Els.len, Els.cons, V.cells, Els.toV, injL]; done) | (simp [Els.len, Els.cons, V.cells, Els.toV, injL]; omega)) ?_; conv=>whnf)
     | fail)
    exact ⟨u.set 0 (u.get 0 + 1), ⟨hnx.symm, by constructor <;> simp only [Tired.set, Tired.get] <;> omega⟩, (Wk.sub ⟨(by first | rfl | (simp only [List.length_map]; rfl) | simp [PX.get]), (by first | rfl | (simp only [List.length_map]; rfl) | simp [PX.get]), (by first | rfl | (simp only [List.length_map]; rfl) | simp [PX.get]), (by first | rfl | (simp only [List.length_map]; rfl) | simp [PX.get]), (by first | rfl | (simp only [List.length_map]; rfl) | simp [PX.get]), (by first | rfl | (simp only [List.length_map]; rfl) | simp [PX.get]), trivial⟩ ⟨(by first | rfl | (simp only [List.length_map]; rfl) | simp [PX.get]), (by first | rfl | (simp only [List.length_map]; rfl) | simp [PX.get]), trivial⟩)⟩
   rw [h1] at hnx
   conv=>whnf
   refine brk_i (fun h2 => ?_) (fun h2 => ?_)
   ·have h2 : u.get 0 > 0 := of_decide_eq_true h2
    have hv : tireF c.rest false (u.get 0) = 0 - c.rest + 1 := by simp only [tireF, h2]; simp; omega
    rw [hv] at hnx
    conv=>whnf
    repeat' (first
     | (refine arith_in (wrap_i64 (by (try dsimp only); omega)) ?_; conv=>whnf)
     | (refine elemK_nat (by assumption) ?_; conv=>whnf)
     | (refine ownK_whole (by first | rfl | assumption | (simp [Els.len]; done) | (simp [Els.len]; omega)) ?_; conv=>whnf)
     | (refine chk_i (by first | (exact decide_eq_true (by (try simp only [List.length_map]); omega)) | (simp [Els.len, Els.cons, V.cells, Els.toV, injL]; done) | (simp [Els.len, Els.cons, V.cells, Els.toV, injL]; omega)) ?_; conv=>whnf)
     | fail)
    exact ⟨u.set 0 (0 - c.rest + 1), ⟨hnx.symm, by constructor <;> simp only [Tired.set, Tired.get] <;> omega⟩, (Wk.sub ⟨(by first | rfl | (simp only [List.length_map]; rfl) | simp [PX.get]), (by first | rfl | (simp only [List.length_map]; rfl) | simp [PX.get]), (by first | rfl | (simp only [List.length_map]; rfl) | simp [PX.get]), (by first | rfl | (simp only [List.length_map]; rfl) | simp [PX.get]), (by first | rfl | (simp only [List.length_map]; rfl) | simp [PX.get]), (by first | rfl | (simp only [List.length_map]; rfl) | simp [PX.get]), trivial⟩ ⟨(by first | rfl | (simp only [List.length_map]; rfl) | simp [PX.get]), (by first | rfl | (simp only [List.length_map]; rfl) | simp [PX.get]), trivial⟩)⟩
   have h2 : ¬ u.get 0 > 0 := of_decide_eq_false h2
   conv=>whnf
   refine brk_i (fun h3 => ?_) (fun h3 => ?_)
   ·have h3 : u.get 0 < 0 := of_decide_eq_true h3
    have hv : tireF c.rest false (u.get 0) = u.get 0 + 1 := by simp [tireF, h2, h3]
    rw [hv] at hnx
    conv=>whnf
    repeat' (first
     | (refine arith_in (wrap_i64 (by (try dsimp only); omega)) ?_; conv=>whnf)
     | (refine elemK_nat (by assumption) ?_; conv=>whnf)
     | (refine ownK_whole (by first | rfl | assumption | (simp [Els.len]; done) | (simp [Els.len]; omega)) ?_; conv=>whnf)
     | (refine chk_i (by first | (exact decide_eq_true (by (try simp only [List.length_map]); omega)) | (simp [Els.len, Els.cons, V.cells, Els.toV, injL]; done) | (simp [Els.len, Els.cons, V.cells, Els.toV, injL]; omega)) ?_; conv=>whnf)
     | fail)
    exact ⟨u.set 0 (u.get 0 + 1), ⟨hnx.symm, by constructor <;> simp only [Tired.set, Tired.get] <;> omega⟩, (Wk.sub ⟨(by first | rfl | (simp only [List.length_map]; rfl) | simp [PX.get]), (by first | rfl | (simp only [List.length_map]; rfl) | simp [PX.get]), (by first | rfl | (simp only [List.length_map]; rfl) | simp [PX.get]), (by first | rfl | (simp only [List.length_map]; rfl) | simp [PX.get]), (by first | rfl | (simp only [List.length_map]; rfl) | simp [PX.get]), (by first | rfl | (simp only [List.length_map]; rfl) | simp [PX.get]), trivial⟩ ⟨(by first | rfl | (simp only [List.length_map]; rfl) | simp [PX.get]), (by first | rfl | (simp only [List.length_map]; rfl) | simp [PX.get]), trivial⟩)⟩
   have h3 : ¬ u.get 0 < 0 := of_decide_eq_false h3
   have hv : tireF c.rest false (u.get 0) = u.get 0 := by simp [tireF, h2, h3]
   rw [hv] at hnx
   conv=>whnf
   repeat' (first
    | (refine arith_in (wrap_i64 (by (try dsimp only); omega)) ?_; conv=>whnf)
    | (refine elemK_nat (by assumption) ?_; conv=>whnf)
    | (refine ownK_whole (by first | rfl | assumption | (simp [Els.len]; done) | (simp [Els.len]; omega)) ?_; conv=>whnf)
    | (refine chk_i (by first | (exact decide_eq_true (by (try simp only [List.length_map]); omega)) | (simp [Els.len, Els.cons, V.cells, Els.toV, injL]; done) | (simp [Els.len, Els.cons, V.cells, Els.toV, injL]; omega)) ?_; conv=>whnf)
    | fail)
   exact ⟨u.set 0 (u.get 0), ⟨hnx.symm, by constructor <;> simp only [Tired.set, Tired.get] <;> omega⟩, (Wk.sub ⟨(by first | rfl | (simp only [List.length_map]; rfl) | simp [PX.get]), (by first | rfl | (simp only [List.length_map]; rfl) | simp [PX.get]), (by first | rfl | (simp only [List.length_map]; rfl) | simp [PX.get]), (by first | rfl | (simp only [List.length_map]; rfl) | simp [PX.get]), (by first | rfl | (simp only [List.length_map]; rfl) | simp [PX.get]), (by first | rfl | (simp only [List.length_map]; rfl) | simp [PX.get]), trivial⟩ ⟨(by first | rfl | (simp only [List.length_map]; rfl) | simp [PX.get]), (by first | rfl | (simp only [List.length_map]; rfl) | simp [PX.get]), trivial⟩)⟩
  ·conv=>whnf
   refine brk_i (fun _ => ?_) (fun h => absurd hi (by have := of_decide_eq_false h; omega))
   conv=>whnf
   refine CallA_v (fn63 group _ hg) rfl rfl ?_
   conv=>whnf
   refine brk_i (fun h1 => ?_) (fun h1 => ?_)
   ·rw [h1] at hnx
    conv=>whnf
    repeat' (first
     | (refine arith_in (wrap_i64 (by (try dsimp only); omega)) ?_; conv=>whnf)
     | (refine elemK_nat (by assumption) ?_; conv=>whnf)
     | (refine ownK_whole (by first | rfl | assumption | (simp [Els.len]; done) | (simp [Els.len]; omega)) ?_; conv=>whnf)
     | (refine chk_i (by first | (exact decide_eq_true (by (try simp only [List.length_map]); omega)) | (simp [Els.len, Els.cons, V.cells, Els.toV, injL]; done) | (simp [Els.len, Els.cons, V.cells, Els.toV, injL]; omega)) ?_; conv=>whnf)
     | fail)
    exact ⟨u.set 1 (u.get 1 + 1), ⟨hnx.symm, by constructor <;> simp only [Tired.set, Tired.get] <;> omega⟩, (Wk.sub ⟨(by first | rfl | (simp only [List.length_map]; rfl) | simp [PX.get]), (by first | rfl | (simp only [List.length_map]; rfl) | simp [PX.get]), (by first | rfl | (simp only [List.length_map]; rfl) | simp [PX.get]), (by first | rfl | (simp only [List.length_map]; rfl) | simp [PX.get]), (by first | rfl | (simp only [List.length_map]; rfl) | simp [PX.get]), (by first | rfl | (simp only [List.length_map]; rfl) | simp [PX.get]), trivial⟩ ⟨(by first | rfl | (simp only [List.length_map]; rfl) | simp [PX.get]), (by first | rfl | (simp only [List.length_map]; rfl) | simp [PX.get]), trivial⟩)⟩
   rw [h1] at hnx
   conv=>whnf
   refine brk_i (fun h2 => ?_) (fun h2 => ?_)
   ·have h2 : u.get 1 > 0 := of_decide_eq_true h2
    have hv : tireF c.rest false (u.get 1) = 0 - c.rest + 1 := by simp only [tireF, h2]; simp; omega
    rw [hv] at hnx
    conv=>whnf
    repeat' (first
     | (refine arith_in (wrap_i64 (by (try dsimp only); omega)) ?_; conv=>whnf)
     | (refine elemK_nat (by assumption) ?_; conv=>whnf)
     | (refine ownK_whole (by first | rfl | assumption | (simp [Els.len]; done) | (simp [Els.len]; omega)) ?_; conv=>whnf)
     | (refine chk_i (by first | (exact decide_eq_true (by (try simp only [List.length_map]); omega)) | (simp [Els.len, Els.cons, V.cells, Els.toV, injL]; done) | (simp [Els.len, Els.cons, V.cells, Els.toV, injL]; omega)) ?_; conv=>whnf)
     | fail)
    exact ⟨u.set 1 (0 - c.rest + 1), ⟨hnx.symm, by constructor <;> simp only [Tired.set, Tired.get] <;> omega⟩, (Wk.sub ⟨(by first | rfl | (simp only [List.length_map]; rfl) | simp [PX.get]), (by first | rfl | (simp only [List.length_map]; rfl) | simp [PX.get]), (by first | rfl | (simp only [List.length_map]; rfl) | simp [PX.get]), (by first | rfl | (simp only [List.length_map]; rfl) | simp [PX.get]), (by first | rfl | (simp only [List.length_map]; rfl) | simp [PX.get]), (by first | rfl | (simp only [List.length_map]; rfl) | simp [PX.get]), trivial⟩ ⟨(by first | rfl | (simp only [List.length_map]; rfl) | simp [PX.get]), (by first | rfl | (simp only [List.length_map]; rfl) | simp [PX.get]), trivial⟩)⟩
   have h2 : ¬ u.get 1 > 0 := of_decide_eq_false h2
   conv=>whnf
   refine brk_i (fun h3 => ?_) (fun h3 => ?_)
   ·have h3 : u.get 1 < 0 := of_decide_eq_true h3
    have hv : tireF c.rest false (u.get 1) = u.get 1 + 1 := by simp [tireF, h2, h3]
    rw [hv] at hnx
    conv=>whnf
    repeat' (first
     | (refine arith_in (wrap_i64 (by (try dsimp only); omega)) ?_; conv=>whnf)
     | (refine elemK_nat (by assumption) ?_; conv=>whnf)
     | (refine ownK_whole (by first | rfl | assumption | (simp [Els.len]; done) | (simp [Els.len]; omega)) ?_; conv=>whnf)
     | (refine chk_i (by first | (exact decide_eq_true (by (try simp only [List.length_map]); omega)) | (simp [Els.len, Els.cons, V.cells, Els.toV, injL]; done) | (simp [Els.len, Els.cons, V.cells, Els.toV, injL]; omega)) ?_; conv=>whnf)
     | fail)
    exact ⟨u.set 1 (u.get 1 + 1), ⟨hnx.symm, by constructor <;> simp only [Tired.set, Tired.get] <;> omega⟩, (Wk.sub ⟨(by first | rfl | (simp only [List.length_map]; rfl) | simp [PX.get]), (by first | rfl | (simp only [List.length_map]; rfl) | simp [PX.get]), (by first | rfl | (simp only [List.length_map]; rfl) | simp [PX.get]), (by first | rfl | (simp only [List.length_map]; rfl) | simp [PX.get]), (by first | rfl | (simp only [List.length_map]; rfl) | simp [PX.get]), (by first | rfl | (simp only [List.length_map]; rfl) | simp [PX.get]), trivial⟩ ⟨(by first | rfl | (simp only [List.length_map]; rfl) | simp [PX.get]), (by first | rfl | (simp only [List.length_map]; rfl) | simp [PX.get]), trivial⟩)⟩
   have h3 : ¬ u.get 1 < 0 := of_decide_eq_false h3
   have hv : tireF c.rest false (u.get 1) = u.get 1 := by simp [tireF, h2, h3]
   rw [hv] at hnx
   conv=>whnf
   repeat' (first
    | (refine arith_in (wrap_i64 (by (try dsimp only); omega)) ?_; conv=>whnf)
    | (refine elemK_nat (by assumption) ?_; conv=>whnf)
    | (refine ownK_whole (by first | rfl | assumption | (simp [Els.len]; done) | (simp [Els.len]; omega)) ?_; conv=>whnf)
    | (refine chk_i (by first | (exact decide_eq_true (by (try simp only [List.length_map]); omega)) | (simp [Els.len, Els.cons, V.cells, Els.toV, injL]; done) | (simp [Els.len, Els.cons, V.cells, Els.toV, injL]; omega)) ?_; conv=>whnf)
    | fail)
   exact ⟨u.set 1 (u.get 1), ⟨hnx.symm, by constructor <;> simp only [Tired.set, Tired.get] <;> omega⟩, (Wk.sub ⟨(by first | rfl | (simp only [List.length_map]; rfl) | simp [PX.get]), (by first | rfl | (simp only [List.length_map]; rfl) | simp [PX.get]), (by first | rfl | (simp only [List.length_map]; rfl) | simp [PX.get]), (by first | rfl | (simp only [List.length_map]; rfl) | simp [PX.get]), (by first | rfl | (simp only [List.length_map]; rfl) | simp [PX.get]), (by first | rfl | (simp only [List.length_map]; rfl) | simp [PX.get]), trivial⟩ ⟨(by first | rfl | (simp only [List.length_map]; rfl) | simp [PX.get]), (by first | rfl | (simp only [List.length_map]; rfl) | simp [PX.get]), trivial⟩)⟩
  ·conv=>whnf
   refine brk_i (fun _ => ?_) (fun h => absurd hi (by have := of_decide_eq_false h; omega))
   conv=>whnf
   refine CallA_v (fn63 group _ hg) rfl rfl ?_
   conv=>whnf
   refine brk_i (fun h1 => ?_) (fun h1 => ?_)
   ·rw [h1] at hnx
    conv=>whnf
    repeat' (first
     | (refine arith_in (wrap_i64 (by (try dsimp only); omega)) ?_; conv=>whnf)
     | (refine elemK_nat (by assumption) ?_; conv=>whnf)
     | (refine ownK_whole (by first | rfl | assumption | (simp [Els.len]; done) | (simp [Els.len]; omega)) ?_; conv=>whnf)
     | (refine chk_i (by first | (exact decide_eq_true (by (try simp only [List.length_map]); omega)) | (simp [Els.len, Els.cons, V.cells, Els.toV, injL]; done) | (simp [Els.len, Els.cons, V.cells, Els.toV, injL]; omega)) ?_; conv=>whnf)
     | fail)
    exact ⟨u.set 2 (u.get 2 + 1), ⟨hnx.symm, by constructor <;> simp only [Tired.set, Tired.get] <;> omega⟩, (Wk.sub ⟨(by first | rfl | (simp only [List.length_map]; rfl) | simp [PX.get]), (by first | rfl | (simp only [List.length_map]; rfl) | simp [PX.get]), (by first | rfl | (simp only [List.length_map]; rfl) | simp [PX.get]), (by first | rfl | (simp only [List.length_map]; rfl) | simp [PX.get]), (by first | rfl | (simp only [List.length_map]; rfl) | simp [PX.get]), (by first | rfl | (simp only [List.length_map]; rfl) | simp [PX.get]), trivial⟩ ⟨(by first | rfl | (simp only [List.length_map]; rfl) | simp [PX.get]), (by first | rfl | (simp only [List.length_map]; rfl) | simp [PX.get]), trivial⟩)⟩
   rw [h1] at hnx
   conv=>whnf
   refine brk_i (fun h2 => ?_) (fun h2 => ?_)
   ·have h2 : u.get 2 > 0 := of_decide_eq_true h2
    have hv : tireF c.rest false (u.get 2) = 0 - c.rest + 1 := by simp only [tireF, h2]; simp; omega
    rw [hv] at hnx
    conv=>whnf
    repeat' (first
     | (refine arith_in (wrap_i64 (by (try dsimp only); omega)) ?_; conv=>whnf)
     | (refine elemK_nat (by assumption) ?_; conv=>whnf)
     | (refine ownK_whole (by first | rfl | assumption | (simp [Els.len]; done) | (simp [Els.len]; omega)) ?_; conv=>whnf)
     | (refine chk_i (by first | (exact decide_eq_true (by (try simp only [List.length_map]); omega)) | (simp [Els.len, Els.cons, V.cells, Els.toV, injL]; done) | (simp [Els.len, Els.cons, V.cells, Els.toV, injL]; omega)) ?_; conv=>whnf)
     | fail)
    exact ⟨u.set 2 (0 - c.rest + 1), ⟨hnx.symm, by constructor <;> simp only [Tired.set, Tired.get] <;> omega⟩, (Wk.sub ⟨(by first | rfl | (simp only [List.length_map]; rfl) | simp [PX.get]), (by first | rfl | (simp only [List.length_map]; rfl) | simp [PX.get]), (by first | rfl | (simp only [List.length_map]; rfl) | simp [PX.get]), (by first | rfl | (simp only [List.length_map]; rfl) | simp [PX.get]), (by first | rfl | (simp only [List.length_map]; rfl) | simp [PX.get]), (by first | rfl | (simp only [List.length_map]; rfl) | simp [PX.get]), trivial⟩ ⟨(by first | rfl | (simp only [List.length_map]; rfl) | simp [PX.get]), (by first | rfl | (simp only [List.length_map]; rfl) | simp [PX.get]), trivial⟩)⟩
   have h2 : ¬ u.get 2 > 0 := of_decide_eq_false h2
   conv=>whnf
   refine brk_i (fun h3 => ?_) (fun h3 => ?_)
   ·have h3 : u.get 2 < 0 := of_decide_eq_true h3
    have hv : tireF c.rest false (u.get 2) = u.get 2 + 1 := by simp [tireF, h2, h3]
    rw [hv] at hnx
    conv=>whnf
    repeat' (first
     | (refine arith_in (wrap_i64 (by (try dsimp only); omega)) ?_; conv=>whnf)
     | (refine elemK_nat (by assumption) ?_; conv=>whnf)
     | (refine ownK_whole (by first | rfl | assumption | (simp [Els.len]; done) | (simp [Els.len]; omega)) ?_; conv=>whnf)
     | (refine chk_i (by first | (exact decide_eq_true (by (try simp only [List.length_map]); omega)) | (simp [Els.len, Els.cons, V.cells, Els.toV, injL]; done) | (simp [Els.len, Els.cons, V.cells, Els.toV, injL]; omega)) ?_; conv=>whnf)
     | fail)
    exact ⟨u.set 2 (u.get 2 + 1), ⟨hnx.symm, by constructor <;> simp only [Tired.set, Tired.get] <;> omega⟩, (Wk.sub ⟨(by first | rfl | (simp only [List.length_map]; rfl) | simp [PX.get]), (by first | rfl | (simp only [List.length_map]; rfl) | simp [PX.get]), (by first | rfl | (simp only [List.length_map]; rfl) | simp [PX.get]), (by first | rfl | (simp only [List.length_map]; rfl) | simp [PX.get]), (by first | rfl | (simp only [List.length_map]; rfl) | simp [PX.get]), (by first | rfl | (simp only [List.length_map]; rfl) | simp [PX.get]), trivial⟩ ⟨(by first | rfl | (simp only [List.length_map]; rfl) | simp [PX.get]), (by first | rfl | (simp only [List.length_map]; rfl) | simp [PX.get]), trivial⟩)⟩
   have h3 : ¬ u.get 2 < 0 := of_decide_eq_false h3
   have hv : tireF c.rest false (u.get 2) = u.get 2 := by simp [tireF, h2, h3]
   rw [hv] at hnx
   conv=>whnf
   repeat' (first
    | (refine arith_in (wrap_i64 (by (try dsimp only); omega)) ?_; conv=>whnf)
    | (refine elemK_nat (by assumption) ?_; conv=>whnf)
    | (refine ownK_whole (by first | rfl | assumption | (simp [Els.len]; done) | (simp [Els.len]; omega)) ?_; conv=>whnf)
    | (refine chk_i (by first | (exact decide_eq_true (by (try simp only [List.length_map]); omega)) | (simp [Els.len, Els.cons, V.cells, Els.toV, injL]; done) | (simp [Els.len, Els.cons, V.cells, Els.toV, injL]; omega)) ?_; conv=>whnf)
    | fail)
   exact ⟨u.set 2 (u.get 2), ⟨hnx.symm, by constructor <;> simp only [Tired.set, Tired.get] <;> omega⟩, (Wk.sub ⟨(by first | rfl | (simp only [List.length_map]; rfl) | simp [PX.get]), (by first | rfl | (simp only [List.length_map]; rfl) | simp [PX.get]), (by first | rfl | (simp only [List.length_map]; rfl) | simp [PX.get]), (by first | rfl | (simp only [List.length_map]; rfl) | simp [PX.get]), (by first | rfl | (simp only [List.length_map]; rfl) | simp [PX.get]), (by first | rfl | (simp only [List.length_map]; rfl) | simp [PX.get]), trivial⟩ ⟨(by first | rfl | (simp only [List.length_map]; rfl) | simp [PX.get]), (by first | rfl | (simp only [List.length_map]; rfl) | simp [PX.get]), trivial⟩)⟩
  ·conv=>whnf
   refine brk_i (fun _ => ?_) (fun h => absurd hi (by have := of_decide_eq_false h; omega))
   conv=>whnf
   refine CallA_v (fn63 group _ hg) rfl rfl ?_
   conv=>whnf
   refine brk_i (fun h1 => ?_) (fun h1 => ?_)
   ·rw [h1] at hnx
    conv=>whnf
    repeat' (first
     | (refine arith_in (wrap_i64 (by (try dsimp only); omega)) ?_; conv=>whnf)
     | (refine elemK_nat (by assumption) ?_; conv=>whnf)
     | (refine ownK_whole (by first | rfl | assumption | (simp [Els.len]; done) | (simp [Els.len]; omega)) ?_; conv=>whnf)
     | (refine chk_i (by first | (exact decide_eq_true (by (try simp only [List.length_map]); omega)) | (simp [Els.len, Els.cons, V.cells, Els.toV, injL]; done) | (simp [Els.len, Els.cons, V.cells, Els.toV, injL]; omega)) ?_; conv=>whnf)
     | fail)
    exact ⟨u.set 3 (u.get 3 + 1), ⟨hnx.symm, by constructor <;> simp only [Tired.set, Tired.get] <;> omega⟩, (Wk.sub ⟨(by first | rfl | (simp only [List.length_map]; rfl) | simp [PX.get]), (by first | rfl | (simp only [List.length_map]; rfl) | simp [PX.get]), (by first | rfl | (simp only [List.length_map]; rfl) | simp [PX.get]), (by first | rfl | (simp only [List.length_map]; rfl) | simp [PX.get]), (by first | rfl | (simp only [List.length_map]; rfl) | simp [PX.get]), (by first | rfl | (simp only [List.length_map]; rfl) | simp [PX.get]), trivial⟩ ⟨(by first | rfl | (simp only [List.length_map]; rfl) | simp [PX.get]), (by first | rfl | (simp only [List.length_map]; rfl) | simp [PX.get]), trivial⟩)⟩
   rw [h1] at hnx
   conv=>whnf
   refine brk_i (fun h2 => ?_) (fun h2 => ?_)
   ·have h2 : u.get 3 > 0 := of_decide_eq_true h2
    have hv : tireF c.rest false (u.get 3) = 0 - c.rest + 1 := by simp only [tireF, h2]; simp; omega
    rw [hv] at hnx
    conv=>whnf
    repeat' (first
     | (refine arith_in (wrap_i64 (by (try dsimp only); omega)) ?_; conv=>whnf)
     | (refine elemK_nat (by assumption) ?_; conv=>whnf)
     | (refine ownK_whole (by first | rfl | assumption | (simp [Els.len]; done) | (simp [Els.len]; omega)) ?_; conv=>whnf)
     | (refine chk_i (by first | (exact decide_eq_true (by (try simp only [List.length_map]); omega)) | (simp [Els.len, Els.cons, V.cells, Els.toV, injL]; done) | (simp [Els.len, Els.cons, V.cells, Els.toV, injL]; omega)) ?_; conv=>whnf)
     | fail)
    exact ⟨u.set 3 (0 - c.rest + 1), ⟨hnx.symm, by constructor <;> simp only [Tired.set, Tired.get] <;> omega⟩, (Wk.sub ⟨(by first | rfl | (simp only [List.length_map]; rfl) | simp [PX.get]), (by first | rfl | (simp only [List.length_map]; rfl) | simp [PX.get]), (by first | rfl | (simp only [List.length_map]; rfl) | simp [PX.get]), (by first | rfl | (simp only [List.length_map]; rfl) | simp [PX.get]), (by first | rfl | (simp only [List.length_map]; rfl) | simp [PX.get]), (by first | rfl | (simp only [List.length_map]; rfl) | simp [PX.get]), trivial⟩ ⟨(by first | rfl | (simp only [List.length_map]; rfl) | simp [PX.get]), (by first | rfl | (simp only [List.length_map]; rfl) | simp [PX.get]), trivial⟩)⟩
   have h2 : ¬ u.get 3 > 0 := of_decide_eq_false h2
   conv=>whnf
   refine brk_i (fun h3 => ?_) (fun h3 => ?_)
   ·have h3 : u.get 3 < 0 := of_decide_eq_true h3
    have hv : tireF c.rest false (u.get 3) = u.get 3 + 1 := by simp [tireF, h2, h3]
    rw [hv] at hnx
    conv=>whnf
    repeat' (first
     | (refine arith_in (wrap_i64 (by (try dsimp only); omega)) ?_; conv=>whnf)
     | (refine elemK_nat (by assumption) ?_; conv=>whnf)
     | (refine ownK_whole (by first | rfl | assumption | (simp [Els.len]; done) | (simp [Els.len]; omega)) ?_; conv=>whnf)
     | (refine chk_i (by first | (exact decide_eq_true (by (try simp only [List.length_map]); omega)) | (simp [Els.len, Els.cons, V.cells, Els.toV, injL]; done) | (simp [Els.len, Els.cons, V.cells, Els.toV, injL]; omega)) ?_; conv=>whnf)
     | fail)
    exact ⟨u.set 3 (u.get 3 + 1), ⟨hnx.symm, by constructor <;> simp only [Tired.set, Tired.get] <;> omega⟩, (Wk.sub ⟨(by first | rfl | (simp only [List.length_map]; rfl) | simp [PX.get]), (by first | rfl | (simp only [List.length_map]; rfl) | simp [PX.get]), (by first | rfl | (simp only [List.length_map]; rfl) | simp [PX.get]), (by first | rfl | (simp only [List.length_map]; rfl) | simp [PX.get]), (by first | rfl | (simp only [List.length_map]; rfl) | simp [PX.get]), (by first | rfl | (simp only [List.length_map]; rfl) | simp [PX.get]), trivial⟩ ⟨(by first | rfl | (simp only [List.length_map]; rfl) | simp [PX.get]), (by first | rfl | (simp only [List.length_map]; rfl) | simp [PX.get]), trivial⟩)⟩
   have h3 : ¬ u.get 3 < 0 := of_decide_eq_false h3
   have hv : tireF c.rest false (u.get 3) = u.get 3 := by simp [tireF, h2, h3]
   rw [hv] at hnx
   conv=>whnf
   repeat' (first
    | (refine arith_in (wrap_i64 (by (try dsimp only); omega)) ?_; conv=>whnf)
    | (refine elemK_nat (by assumption) ?_; conv=>whnf)
    | (refine ownK_whole (by first | rfl | assumption | (simp [Els.len]; done) | (simp [Els.len]; omega)) ?_; conv=>whnf)
    | (refine chk_i (by first | (exact decide_eq_true (by (try simp only [List.length_map]); omega)) | (simp [Els.len, Els.cons, V.cells, Els.toV, injL]; done) | (simp [Els.len, Els.cons, V.cells, Els.toV, injL]; omega)) ?_; conv=>whnf)
    | fail)
   exact ⟨u.set 3 (u.get 3), ⟨hnx.symm, by constructor <;> simp only [Tired.set, Tired.get] <;> omega⟩, (Wk.sub ⟨(by first | rfl | (simp only [List.length_map]; rfl) | simp [PX.get]), (by first | rfl | (simp only [List.length_map]; rfl) | simp [PX.get]), (by first | rfl | (simp only [List.length_map]; rfl) | simp [PX.get]), (by first | rfl | (simp only [List.length_map]; rfl) | simp [PX.get]), (by first | rfl | (simp only [List.length_map]; rfl) | simp [PX.get]), (by first | rfl | (simp only [List.length_map]; rfl) | simp [PX.get]), trivial⟩ ⟨(by first | rfl | (simp only [List.length_map]; rfl) | simp [PX.get]), (by first | rfl | (simp only [List.length_map]; rfl) | simp [PX.get]), trivial⟩)⟩
  ·conv=>whnf
   refine brk_i (fun _ => ?_) (fun h => absurd hi (by have := of_decide_eq_false h; omega))
   conv=>whnf
   refine CallA_v (fn63 group _ hg) rfl rfl ?_
   conv=>whnf
   refine brk_i (fun h1 => ?_) (fun h1 => ?_)
   ·rw [h1] at hnx
    conv=>whnf
    repeat' (first
     | (refine arith_in (wrap_i64 (by (try dsimp only); omega)) ?_; conv=>whnf)
     | (refine elemK_nat (by assumption) ?_; conv=>whnf)
     | (refine ownK_whole (by first | rfl | assumption | (simp [Els.len]; done) | (simp [Els.len]; omega)) ?_; conv=>whnf)
     | (refine chk_i (by first | (exact decide_eq_true (by (try simp only [List.length_map]); omega)) | (simp [Els.len, Els.cons, V.cells, Els.toV, injL]; done) | (simp [Els.len, Els.cons, V.cells, Els.toV, injL]; omega)) ?_; conv=>whnf)
     | fail)
    exact ⟨u.set 4 (u.get 4 + 1), ⟨hnx.symm, by constructor <;> simp only [Tired.set, Tired.get] <;> omega⟩, (Wk.sub ⟨(by first | rfl | (simp only [List.length_map]; rfl) | simp [PX.get]), (by first | rfl | (simp only [List.length_map]; rfl) | simp [PX.get]), (by first | rfl | (simp only [List.length_map]; rfl) | simp [PX.get]), (by first | rfl | (simp only [List.length_map]; rfl) | simp [PX.get]), (by first | rfl | (simp only [List.length_map]; rfl) | simp [PX.get]), (by first | rfl | (simp only [List.length_map]; rfl) | simp [PX.get]), trivial⟩ ⟨(by first | rfl | (simp only [List.length_map]; rfl) | simp [PX.get]), (by first | rfl | (simp only [List.length_map]; rfl) | simp [PX.get]), trivial⟩)⟩
   rw [h1] at hnx
   conv=>whnf
   refine brk_i (fun h2 => ?_) (fun h2 => ?_)
   ·have h2 : u.get 4 > 0 := of_decide_eq_true h2
    have hv : tireF c.rest false (u.get 4) = 0 - c.rest + 1 := by simp only [tireF, h2]; simp; omega
    rw [hv] at hnx
    conv=>whnf
    repeat' (first
     | (refine arith_in (wrap_i64 (by (try dsimp only); omega)) ?_; conv=>whnf)
     | (refine elemK_nat (by assumption) ?_; conv=>whnf)
     | (refine ownK_whole (by first | rfl | assumption | (simp [Els.len]; done) | (simp [Els.len]; omega)) ?_; conv=>whnf)
     | (refine chk_i (by first | (exact decide_eq_true (by (try simp only [List.length_map]); omega)) | (simp [Els.len, Els.cons, V.cells, Els.toV, injL]; done) | (simp [Els.len, Els.cons, V.cells, Els.toV, injL]; omega)) ?_; conv=>whnf)
     | fail)
    exact ⟨u.set 4 (0 - c.rest + 1), ⟨hnx.symm, by constructor <;> simp only [Tired.set, Tired.get] <;> omega⟩, (Wk.sub ⟨(by first | rfl | (simp only [List.length_map]; rfl) | simp [PX.get]), (by first | rfl | (simp only [List.length_map]; rfl) | simp [PX.get]), (by first | rfl | (simp only [List.length_map]; rfl) | simp [PX.get]), (by first | rfl | (simp only [List.length_map]; rfl) | simp [PX.get]), (by first | rfl | (simp only [List.length_map]; rfl) | simp [PX.get]), (by first | rfl | (simp only [List.length_map]; rfl) | simp [PX.get]), trivial⟩ ⟨(by first | rfl | (simp only [List.length_map]; rfl) | simp [PX.get]), (by first | rfl | (simp only [List.length_map]; rfl) | simp [PX.get]), trivial⟩)⟩
   have h2 : ¬ u.get 4 > 0 := of_decide_eq_false h2
   conv=>whnf
   refine brk_i (fun h3 => ?_) (fun h3 => ?_)
   ·have h3 : u.get 4 < 0 := of_decide_eq_true h3
    have hv : tireF c.rest false (u.get 4) = u.get 4 + 1 := by simp [tireF, h2, h3]
    rw [hv] at hnx
    conv=>whnf
    repeat' (first
     | (refine arith_in (wrap_i64 (by (try dsimp only); omega)) ?_; conv=>whnf)
     | (refine elemK_nat (by assumption) ?_; conv=>whnf)
     | (refine ownK_whole (by first | rfl | assumption | (simp [Els.len]; done) | (simp [Els.len]; omega)) ?_; conv=>whnf)
     | (refine chk_i (by first | (exact decide_eq_true (by (try simp only [List.length_map]); omega)) | (simp [Els.len, Els.cons, V.cells, Els.toV, injL]; done) | (simp [Els.len, Els.cons, V.cells, Els.toV, injL]; omega)) ?_; conv=>whnf)
     | fail)
    exact ⟨u.set 4 (u.get 4 + 1), ⟨hnx.symm, by constructor <;> simp only [Tired.set, Tired.get] <;> omega⟩, (Wk.sub ⟨(by first | rfl | (simp only [List.length_map]; rfl) | simp [PX.get]), (by first | rfl | (simp only [List.length_map]; rfl) | simp [PX.get]), (by first | rfl | (simp only [List.length_map]; rfl) | simp [PX.get]), (by first | rfl | (simp only [List.length_map]; rfl) | simp [PX.get]), (by first | rfl | (simp only [List.length_map]; rfl) | simp [PX.get]), (by first | rfl | (simp only [List.length_map]; rfl) | simp [PX.get]), trivial⟩ ⟨(by first | rfl | (simp only [List.length_map]; rfl) | simp [PX.get]), (by first | rfl | (simp only [List.length_map]; rfl) | simp [PX.get]), trivial⟩)⟩
   have h3 : ¬ u.get 4 < 0 := of_decide_eq_false h3
   have hv : tireF c.rest false (u.get 4) = u.get 4 := by simp [tireF, h2, h3]
   rw [hv] at hnx
   conv=>whnf
   repeat' (first
    | (refine arith_in (wrap_i64 (by (try dsimp only); omega)) ?_; conv=>whnf)
    | (refine elemK_nat (by assumption) ?_; conv=>whnf)
    | (refine ownK_whole (by first | rfl | assumption | (simp [Els.len]; done) | (simp [Els.len]; omega)) ?_; conv=>whnf)
    | (refine chk_i (by first | (exact decide_eq_true (by (try simp only [List.length_map]); omega)) | (simp [Els.len, Els.cons, V.cells, Els.toV, injL]; done) | (simp [Els.len, Els.cons, V.cells, Els.toV, injL]; omega)) ?_; conv=>whnf)
    | fail)
   exact ⟨u.set 4 (u.get 4), ⟨hnx.symm, by constructor <;> simp only [Tired.set, Tired.get] <;> omega⟩, (Wk.sub ⟨(by first | rfl | (simp only [List.length_map]; rfl) | simp [PX.get]), (by first | rfl | (simp only [List.length_map]; rfl) | simp [PX.get]), (by first | rfl | (simp only [List.length_map]; rfl) | simp [PX.get]), (by first | rfl | (simp only [List.length_map]; rfl) | simp [PX.get]), (by first | rfl | (simp only [List.length_map]; rfl) | simp [PX.get]), (by first | rfl | (simp only [List.length_map]; rfl) | simp [PX.get]), trivial⟩ ⟨(by first | rfl | (simp only [List.length_map]; rfl) | simp [PX.get]), (by first | rfl | (simp only [List.length_map]; rfl) | simp [PX.get]), trivial⟩)⟩
 ·intro u he
  obtain ⟨he, hb⟩ := he
  conv=>whnf
  refine brk_i (fun h => absurd h (by simp)) (fun _ => ?_)
  conv=>whnf
  rw [← he]
  exact RetA_view 0 rfl ⟨⟨rfl, rfl⟩, rfl⟩
end Go.PX
namespace Go.PX
open Go.Proofs
def manAt (c : WCase) (m : Int) : Man := (c.men[m.toNat]?).getD ⟨⟨#[]⟩, 0, []⟩
def inSet (set m : Int) : Bool := !decide (bitsI .and .i64 (set.fdiv (2 ^ (min m.toNat 64))) 1 = 0)
theorem wa104 (c : WCase) (set : Int) (s : Slot) (k : Nat) (x : Man) (hx : c.men[k]? = some x) : FnV Tryz.prog 120 [i64 k, .ref [crewD c set], .ref s.cells] (.bool (decide (x.kind ≥ s.least))) := by
 refine fnV_of mixed tysOk Tryz.func120 rfl (ft := ft120) 3 (by decide +kernel) (by rfl) fun {σ} Y st => ?_
 conv=>whnf
 refine elemK_nat hx ?_
 conv=>whnf
 exact RetA_view 0 rfl ⟨⟨rfl, rfl⟩, rfl⟩
theorem wa108 (t : Tired) (k : Nat) (hk : k < 5) : FnV Tryz.prog 124 [i64 k, .ref t.cells] (.bool (decide (t.get k < 0))) := by
 refine fnV_of mixed tysOk Tryz.func124 rfl (ft := ft124) 2 (by decide +kernel) (by rfl) fun {σ} Y st => ?_
 conv=>whnf
 have h5 : k = 0 ∨ k = 1 ∨ k = 2 ∨ k = 3 ∨ k = 4 := by omega
 rcases h5 with rfl | rfl | rfl | rfl | rfl
 ·conv=>whnf
  exact RetA_view 0 rfl ⟨⟨rfl, rfl⟩, rfl⟩
 ·conv=>whnf
  exact RetA_view 0 rfl ⟨⟨rfl, rfl⟩, rfl⟩
 ·conv=>whnf
  exact RetA_view 0 rfl ⟨⟨rfl, rfl⟩, rfl⟩
 ·conv=>whnf
  exact RetA_view 0 rfl ⟨⟨rfl, rfl⟩, rfl⟩
 ·conv=>whnf
  exact RetA_view 0 rfl ⟨⟨rfl, rfl⟩, rfl⟩
theorem wa107 (c : WCase) (set : Int) (t : Tired) (k : Nat) (hk : k < 5) : FnV Tryz.prog 123 [i64 k, .ref t.cells, .ref [crewD c set]] (.bool (decide (t.get k ≥ c.run))) := by
 refine fnV_of mixed tysOk Tryz.func123 rfl (ft := ft123) 3 (by decide +kernel) (by rfl) fun {σ} Y st => ?_
 conv=>whnf
 have h5 : k = 0 ∨ k = 1 ∨ k = 2 ∨ k = 3 ∨ k = 4 := by omega
 rcases h5 with rfl | rfl | rfl | rfl | rfl
 ·conv=>whnf
  exact RetA_view 0 rfl ⟨⟨rfl, rfl⟩, rfl⟩
 ·conv=>whnf
  exact RetA_view 0 rfl ⟨⟨rfl, rfl⟩, rfl⟩
 ·conv=>whnf
  exact RetA_view 0 rfl ⟨⟨rfl, rfl⟩, rfl⟩
 ·conv=>whnf
  exact RetA_view 0 rfl ⟨⟨rfl, rfl⟩, rfl⟩
 ·conv=>whnf
  exact RetA_view 0 rfl ⟨⟨rfl, rfl⟩, rfl⟩
theorem wa105 (c : WCase) (set : Int) (t : Tired) (k : Nat) (x : Man) (hx : c.men[k]? = some x) (hn : x.no.length < 4000000000000000000) : FnV Tryz.prog 121 [i64 k, .ref [crewD c set], .ref t.cells] (.bool (!inSet set k || decide (t.slot ∈ x.no))) := by
 refine fnV_of mixed tysOk Tryz.func121 rfl (ft := ft121) 3 (by decide +kernel) (by rfl) fun {σ} Y st => ?_
 conv=>whnf
 have hb : decide (bitsI .and .i64 (set.fdiv (2 ^ min (k : Int).toNat IntKind.i64.bits)) 1 = 0) = !inSet set k := by
  unfold inSet
  rw [Bool.not_not]; rfl
 rw [hb]
 cases hs : inSet set k
 ·conv=>whnf
  exact RetA_view 0 rfl ⟨⟨rfl, rfl⟩, rfl⟩
 conv=>whnf
 refine elemK_nat hx ?_
 conv=>whnf
 refine DrawCall_v (fn63 x.no t.slot hn) rfl rfl ?_
 conv=>whnf
 exact RetA_view 0 rfl ⟨⟨rfl, rfl⟩, rfl⟩
end Go.PX
namespace Go.PX
open Go.Proofs
def whyF (c : WCase) (set : Int) (t : Tired) (s : Slot) (group : List Int) : Int × Int :=
 if (group.length : Int) ≠ s.men then (1, 0)
 else if !group.any (fun m => decide ((manAt c m).kind ≥ s.least)) then (2, 0)
 else match group.find? (fun m => !inSet set m || decide (t.slot ∈ (manAt c m).no)) with
  | some m => (3, m)
  | none => match group.find? (fun m => decide (t.get m.toNat ≥ c.run)) with
   | some m => (4, m)
   | none => match group.find? (fun m => decide (t.get m.toNat < 0)) with
    | some m => (5, m)
    | none => (0, 0)
def RowIn (c : WCase) (group : List Int) : Prop := ∀ m ∈ group, 0 ≤ m ∧ m < c.men.length
theorem ascF_len {many : Int} : ∀ {l : List Int} {last : Int}, ascF many last l = 0 → l = [] ∨ (l.length : Int) + last < many
 | [], _, _ => .inl rfl
 | i :: r, last, h => by
  rw [ascF] at h
  split at h
  case isFalse => cases h
  rename_i h1
  split at h
  ·cases h
  rename_i h2
  rw [inB_iff] at h1
  right
  rcases ascF_len h with rfl | h3
  ·simp; omega
  ·simp only [List.length_cons]; omega
theorem find_index {α : Type} {p : α → Bool} : ∀ {l : List α} (i : Nat), (l.find? p = none → indexOf p l i = -1) ∧ (∀ m, l.find? p = some m → ∃ j : Nat, indexOf p l i = ((i + j : Nat) : Int) ∧ l[j]? = some m)
 | [], i => ⟨fun _ => rfl, fun m h => by simp at h⟩
 | x :: r, i => by
  obtain ⟨h1, h2⟩ := find_index (p := p) (l := r) (i + 1)
  by_cases hp : p x = true
  ·refine ⟨fun h => by simp [hp] at h, fun m h => ?_⟩
   simp [hp] at h
   exact ⟨0, by simp [indexOf, hp], by simp [h]⟩
  ·refine ⟨fun h => ?_, fun m h => ?_⟩
   ·simp [hp] at h
    have := h1 (by simpa using h)
    simp only [indexOf, hp, if_false, Bool.false_eq_true]
    exact this
   ·simp [hp] at h
    obtain ⟨j, h3, h4⟩ := h2 m h
    refine ⟨j + 1, ?_, by simpa using h4⟩
    simp only [indexOf, hp, if_false, Bool.false_eq_true]
    rw [show (i : Int) + 1 = ((i + 1 : Nat) : Int) from by omega, h3]
    omega
theorem wa91 (c : WCase) (hR : WR c) (set : Int) (t : Tired) (s : Slot) (hs : c.slots[t.slot.toNat]? = some s) (ht : 0 ≤ t.slot) (group : List Int) (hg : RowIn c group) (hgl : group.length < 4000000000000000000) :
  FnV Tryz.prog 103 [crewD c set, t.d, intsD group] (.tup [i64 (whyF c set t s group).1, i64 (whyF c set t s group).2]) := by
 refine fnV_of mixed tysOk Tryz.func103 rfl (ft := ft103) 3 (by decide +kernel) (by rfl) fun {σ} Y st => ?_
 conv=>whnf
 rw [show decide (0 ≤ t.slot) = true from decide_eq_true ht, show (List.map Slot.cells c.slots)[t.slot.toNat]? = some s.cells from by simp [hs]]
 conv=>whnf
 unfold whyF
 refine brk_i (fun h0 => ?_) (fun h0 => ?_)
 ·have h0 : (group.length : Int) ≠ s.men := by simpa using h0
  conv=>whnf
  rw [if_pos h0]
  exact RetA_view 0 rfl ⟨⟨rfl, rfl⟩, rfl⟩
 have h0 : (group.length : Int) = s.men := by simpa using h0
 rw [if_neg (by simpa using h0)]
 have hel : ∀ m ∈ group, ∃ (k : Nat) (x : Man), m = (k : Int) ∧ c.men[k]? = some x ∧ manAt c m = x ∧ k < 5 := by
  intro m hm
  obtain ⟨h1, h2⟩ := hg m hm
  have hmen := hR.men
  have hk : m.toNat < c.men.length := by omega
  refine ⟨m.toNat, c.men[m.toNat], by omega, by simp [hk], ?_, by omega⟩
  simp [manAt, hk]
 conv=>whnf
 refine CallA_view (ds := [intsD group, .clo 120 [.ref [crewD c set], .ref s.cells]]) (fn86 group 120 [.ref [crewD c set], .ref s.cells] (fun m => decide ((manAt c m).kind ≥ s.least)) hgl fun m hm => by
  obtain ⟨k, x, rfl, hx, hxe, _⟩ := hel m hm
  rw [hxe]
  exact fun {σ} => wa104 c set s k x hx) rfl 1 rfl ?_
 conv=>whnf
 refine brk_i (fun h1 => ?_) (fun h1 => ?_)
 ·conv=>whnf
  rw [if_pos h1]
  exact RetA_view 0 rfl ⟨⟨rfl, rfl⟩, rfl⟩
 rw [if_neg (by simpa using h1)]
 conv=>whnf
 generalize hf1 : group.find? (fun m => !inSet set m || decide (t.slot ∈ (manAt c m).no)) = f1
 generalize hf2 : group.find? (fun m => decide (t.get m.toNat ≥ c.run)) = f2
 generalize hf3 : group.find? (fun m => decide (t.get m.toNat < 0)) = f3
 refine LoopA_p (T := tys) tysOk (by exact drawsB_spec mixed tysOk (by decide +kernel)) (α := Nat) (fun i => ⟨[(2, .d (intsD group)), (38, .sl 38 2 0 3), (39, .d (i64 3)), (40, .d (i64 i))], [(3, .box (.dd [crewD c set])), (4, .box (.dd t.cells)), (38, .arr 2 (.vv [[.d (i64 3), .clo 121 [.ptr 3 0, .ptr 4 0]], [.d (i64 4), .clo 123 [.ptr 4 0, .ptr 3 0]], [.d (i64 5), .clo 124 [.ptr 4 0]]]))], st⟩)
  (fun i => i ≤ 3 ∧ (1 ≤ i → f1 = none) ∧ (2 ≤ i → f2 = none) ∧ (3 ≤ i → f3 = none)) (fun i => 3 - i) 0 (Wk.sub ⟨(by first | rfl | (simp only [List.length_map]; rfl) | simp [PX.get]), (by first | rfl | (simp only [List.length_map]; rfl) | simp [PX.get]), (by first | rfl | (simp only [List.length_map]; rfl) | simp [PX.get]), (by first | rfl | (simp only [List.length_map]; rfl) | simp [PX.get]), trivial⟩ ⟨(by first | rfl | (simp only [List.length_map]; rfl) | simp [PX.get]), (by first | rfl | (simp only [List.length_map]; rfl) | simp [PX.get]), (by first | rfl | (simp only [List.length_map]; rfl) | simp [PX.get]), trivial⟩) (by omega) ?_
 intro i ⟨hi, hi1, hi2, hi3⟩
 have h4 : i = 0 ∨ i = 1 ∨ i = 2 ∨ i = 3 := by omega
 rcases h4 with rfl | rfl | rfl | rfl
 ·conv=>whnf
  have hI := find_index (p := fun m => !inSet set m || decide (t.slot ∈ (manAt c m).no)) (l := group) 0
  refine CallA_view (ds := [intsD group, .clo 121 [.ref [crewD c set], .ref t.cells]]) (fn109 group 121 [.ref [crewD c set], .ref t.cells] (fun m => !inSet set m || decide (t.slot ∈ (manAt c m).no)) hgl fun m hm => by
   obtain ⟨k, x, rfl, hx, hxe, _⟩ := hel m hm
   rw [hxe]
   exact fun {σ} => wa105 c set t k x hx (by
    have h6 := ascF_len ((hR.man x (List.mem_of_getElem? hx)).2)
    have h7 := hR.slots
    rcases h6 with h6 | h6
    ·rw [h6]; simp
    ·omega)) rfl 1 rfl ?_
  cases f1 with
  | none =>
   have hv : indexOf (fun m => !inSet set m || decide (t.slot ∈ (manAt c m).no)) group 0 = -1 := hI.1 hf1
   rw [hv]
   conv=>whnf
   refine arith_in (wrap_i64 (by (try dsimp only); omega)) ?_
   conv=>whnf
   exact ⟨1, by omega, ⟨by omega, fun _ => rfl, by omega, by omega⟩, (Wk.sub ⟨(by first | rfl | (simp only [List.length_map]; rfl) | simp [PX.get]), (by first | rfl | (simp only [List.length_map]; rfl) | simp [PX.get]), (by first | rfl | (simp only [List.length_map]; rfl) | simp [PX.get]), (by first | rfl | (simp only [List.length_map]; rfl) | simp [PX.get]), trivial⟩ ⟨(by first | rfl | (simp only [List.length_map]; rfl) | simp [PX.get]), (by first | rfl | (simp only [List.length_map]; rfl) | simp [PX.get]), (by first | rfl | (simp only [List.length_map]; rfl) | simp [PX.get]), trivial⟩)⟩
  | some m =>
   obtain ⟨j, hj, hgj⟩ := hI.2 m hf1
   rw [Nat.zero_add] at hj
   have hv : indexOf (fun m => !inSet set m || decide (t.slot ∈ (manAt c m).no)) group 0 = (j : Int) := hj
   rw [hv]
   conv=>whnf
   refine elemK_nat hgj ?_
   conv=>whnf
   exact RetA_view 0 rfl ⟨⟨rfl, rfl⟩, rfl⟩
 ·conv=>whnf
  cases hi1 (by omega)
  have hI := find_index (p := fun m => decide (t.get m.toNat ≥ c.run)) (l := group) 0
  refine CallA_view (ds := [intsD group, .clo 123 [.ref t.cells, .ref [crewD c set]]]) (fn109 group 123 [.ref t.cells, .ref [crewD c set]] (fun m => decide (t.get m.toNat ≥ c.run)) hgl fun m hm => by
   obtain ⟨k, x, rfl, hx, hxe, hk⟩ := hel m hm
   exact fun {σ} => wa107 c set t k hk) rfl 1 rfl ?_
  cases f2 with
  | none =>
   have hv : indexOf (fun m => decide (t.get m.toNat ≥ c.run)) group 0 = -1 := hI.1 hf2
   rw [hv]
   conv=>whnf
   refine arith_in (wrap_i64 (by (try dsimp only); omega)) ?_
   conv=>whnf
   exact ⟨2, by omega, ⟨by omega, fun _ => rfl, fun _ => rfl, by omega⟩, (Wk.sub ⟨(by first | rfl | (simp only [List.length_map]; rfl) | simp [PX.get]), (by first | rfl | (simp only [List.length_map]; rfl) | simp [PX.get]), (by first | rfl | (simp only [List.length_map]; rfl) | simp [PX.get]), (by first | rfl | (simp only [List.length_map]; rfl) | simp [PX.get]), trivial⟩ ⟨(by first | rfl | (simp only [List.length_map]; rfl) | simp [PX.get]), (by first | rfl | (simp only [List.length_map]; rfl) | simp [PX.get]), (by first | rfl | (simp only [List.length_map]; rfl) | simp [PX.get]), trivial⟩)⟩
  | some m =>
   obtain ⟨j, hj, hgj⟩ := hI.2 m hf2
   rw [Nat.zero_add] at hj
   have hv : indexOf (fun m => decide (t.get m.toNat ≥ c.run)) group 0 = (j : Int) := hj
   rw [hv]
   conv=>whnf
   refine elemK_nat hgj ?_
   conv=>whnf
   exact RetA_view 0 rfl ⟨⟨rfl, rfl⟩, rfl⟩
 ·conv=>whnf
  cases hi1 (by omega)
  cases hi2 (by omega)
  have hI := find_index (p := fun m => decide (t.get m.toNat < 0)) (l := group) 0
  refine CallA_view (ds := [intsD group, .clo 124 [.ref t.cells]]) (fn109 group 124 [.ref t.cells] (fun m => decide (t.get m.toNat < 0)) hgl fun m hm => by
   obtain ⟨k, x, rfl, hx, hxe, hk⟩ := hel m hm
   exact fun {σ} => wa108 t k hk) rfl 1 rfl ?_
  cases f3 with
  | none =>
   have hv : indexOf (fun m => decide (t.get m.toNat < 0)) group 0 = -1 := hI.1 hf3
   rw [hv]
   conv=>whnf
   refine arith_in (wrap_i64 (by (try dsimp only); omega)) ?_
   conv=>whnf
   exact ⟨3, by omega, ⟨by omega, fun _ => rfl, fun _ => rfl, fun _ => rfl⟩, (Wk.sub ⟨(by first | rfl | (simp only [List.length_map]; rfl) | simp [PX.get]), (by first | rfl | (simp only [List.length_map]; rfl) | simp [PX.get]), (by first | rfl | (simp only [List.length_map]; rfl) | simp [PX.get]), (by first | rfl | (simp only [List.length_map]; rfl) | simp [PX.get]), trivial⟩ ⟨(by first | rfl | (simp only [List.length_map]; rfl) | simp [PX.get]), (by first | rfl | (simp only [List.length_map]; rfl) | simp [PX.get]), (by first | rfl | (simp only [List.length_map]; rfl) | simp [PX.get]), trivial⟩)⟩
  | some m =>
   obtain ⟨j, hj, hgj⟩ := hI.2 m hf3
   rw [Nat.zero_add] at hj
   have hv : indexOf (fun m => decide (t.get m.toNat < 0)) group 0 = (j : Int) := hj
   rw [hv]
   conv=>whnf
   refine elemK_nat hgj ?_
   conv=>whnf
   exact RetA_view 0 rfl ⟨⟨rfl, rfl⟩, rfl⟩
 ·cases hi1 (by omega)
  cases hi2 (by omega)
  cases hi3 (by omega)
  conv=>whnf
  exact RetA_view 0 rfl ⟨⟨rfl, rfl⟩, rfl⟩
end Go.PX
namespace Go.PX
open Go.Proofs
def slotAt (c : WCase) (t : Tired) : Slot := (c.slots[t.slot.toNat]?).getD ⟨0, 0⟩
def whyT (c : WCase) (set : Int) (t : Tired) (group : List Int) : Int × Int := whyF c set t (slotAt c t) group
def walkF (c : WCase) (set : Int) : Tired → List (List Int) → Int → (Int × Int × Int) × Tired
 | t, [], _ => ((-1, 0, 0), t)
 | t, r :: rest, i => if (whyT c set t r).1 = 0 then walkF c set (behindF c t r) rest (i + 1) else ((i, whyT c set t r), t)
structure TG (c : WCase) (t : Tired) : Prop where
 slot : 0 ≤ t.slot ∧ t.slot < c.slots.length
 bd : TB t 100
theorem TG.zero {c : WCase} (h : WR c) : TG c Tired.zero := ⟨by have := h.slots; simp [Tired.zero]; omega, by constructor <;> simp [Tired.zero]⟩
theorem set_get (t : Tired) (x : Int) {n j : Nat} (hn : n < 5) (hj : j < 5) : (t.set n x).get j = if j = n then x else t.get j := by
 have h1 : n = 0 ∨ n = 1 ∨ n = 2 ∨ n = 3 ∨ n = 4 := by omega
 have h2 : j = 0 ∨ j = 1 ∨ j = 2 ∨ j = 3 ∨ j = 4 := by omega
 rcases h1 with rfl | rfl | rfl | rfl | rfl <;> rcases h2 with rfl | rfl | rfl | rfl | rfl <;> rfl
theorem set_slot (t : Tired) (n : Nat) (x : Int) : (t.set n x).slot = t.slot := by
 unfold Tired.set; split <;> rfl
theorem tireTo_get {rest : Int} {group : List Int} {t : Tired} : ∀ {n j : Nat}, n ≤ 5 → j < 5 → (tireTo rest group n t).get j = if j < n then tireF rest (decide ((j : Int) ∈ group)) (t.get j) else t.get j
 | 0, j, _, _ => by simp [tireTo]
 | n + 1, j, hn, hj => by
  rw [tireTo, set_get _ _ (by omega) hj]
  by_cases h : j = n
  ·subst h
   rw [if_pos rfl, if_pos (by omega), tireTo_get (by omega) hj, if_neg (by omega)]
  ·rw [if_neg h, tireTo_get (by omega) hj]
   by_cases h2 : j < n
   ·rw [if_pos h2, if_pos (by omega)]
   ·rw [if_neg h2, if_neg (by omega)]
theorem tireTo_slot {rest : Int} {group : List Int} {t : Tired} : ∀ {n : Nat}, (tireTo rest group n t).slot = t.slot
 | 0 => rfl
 | n + 1 => by rw [tireTo, set_slot, tireTo_slot]
theorem TB.get {t : Tired} {k : Int} (h : TB t k) {j : Nat} (hj : j < 5) : -k ≤ t.get j ∧ t.get j ≤ k := by
 have h2 : j = 0 ∨ j = 1 ∨ j = 2 ∨ j = 3 ∨ j = 4 := by omega
 rcases h2 with rfl | rfl | rfl | rfl | rfl
 ·exact h.m0
 ·exact h.m1
 ·exact h.m2
 ·exact h.m3
 ·exact h.m4
theorem TB.of {t : Tired} {k : Int} (h : ∀ j, j < 5 → -k ≤ t.get j ∧ t.get j ≤ k) : TB t k :=
 ⟨h 0 (by decide), h 1 (by decide), h 2 (by decide), h 3 (by decide), h 4 (by decide)⟩
theorem behind_TB {c : WCase} (hR : WR c) {t : Tired} {group : List Int} {k : Int} (hk : 3 ≤ k) (h : TB t k) : TB (behindF c t group) (k + 1) := by
 have hm := hR.men
 have hr := hR.rest
 refine .of fun j hj => ?_
 unfold behindF
 rw [tireTo_get (by omega) hj]
 have h1 := h.get hj
 have h2 : (Tired.mk ((t.slot + 1).tmod c.slots.length) t.m0 t.m1 t.m2 t.m3 t.m4).get j = t.get j := by
  have h2 : j = 0 ∨ j = 1 ∨ j = 2 ∨ j = 3 ∨ j = 4 := by omega
  rcases h2 with rfl | rfl | rfl | rfl | rfl <;> rfl
 show -(k + 1) ≤ (if j < c.men.length then tireF c.rest (decide ((j : Int) ∈ group)) ((Tired.mk ((t.slot + 1).tmod c.slots.length) t.m0 t.m1 t.m2 t.m3 t.m4).get j) else (Tired.mk ((t.slot + 1).tmod c.slots.length) t.m0 t.m1 t.m2 t.m3 t.m4).get j) ∧ (if j < c.men.length then tireF c.rest (decide ((j : Int) ∈ group)) ((Tired.mk ((t.slot + 1).tmod c.slots.length) t.m0 t.m1 t.m2 t.m3 t.m4).get j) else (Tired.mk ((t.slot + 1).tmod c.slots.length) t.m0 t.m1 t.m2 t.m3 t.m4).get j) ≤ k + 1
 rw [h2]
 unfold tireF
 split
 ·split
  ·omega
  ·split
   ·omega
   ·split <;> omega
 ·omega
theorem behind_slot {c : WCase} (hR : WR c) {t : Tired} {group : List Int} (h : 0 ≤ t.slot) : 0 ≤ (behindF c t group).slot ∧ (behindF c t group).slot < c.slots.length := by
 have hs := hR.slots
 unfold behindF
 rw [tireTo_slot]
 show 0 ≤ (t.slot + 1).tmod _ ∧ (t.slot + 1).tmod _ < _
 exact ⟨Int.tmod_nonneg _ (by omega), Int.tmod_lt_of_pos _ (by omega)⟩
end Go.PX
namespace Go.PX
open Go.Proofs
def walkD (p : (Int × Int × Int) × Tired) : D := .tup [i64 p.1.1, i64 p.1.2.1, i64 p.1.2.2, p.2.d]
theorem wa64 (c : WCase) (hR : WR c) (set : Int) (t : Tired) (ht : 0 ≤ t.slot ∧ t.slot < c.slots.length) (hb : TB t 100) (rota : List (List Int)) (hg : ∀ r ∈ rota, RowIn c r ∧ r.length < 4000000000000000000) (hl : rota.length ≤ 40) :
  FnV Tryz.prog 87 [crewD c set, t.d, rotaD rota] (walkD (walkF c set t rota 0)) := by
 refine fnV_of mixed tysOk Tryz.func87 rfl (ft := ft87) 3 (by decide +kernel) (by rfl) fun {σ} Y st => ?_
 conv=>whnf
 refine LoopA_i (T := tys) tysOk (by exact drawsB_spec mixed tysOk (by decide +kernel)) rota (fun i (u : Tired) => ⟨[(0, .d (crewD c set)), (4, .ptr 4 0), (9, .ptr 9 0), (12, .d (rotaD rota)), (13, .d (i64 rota.length)), (14, .d (i64 i))], [(4, .box (.dd u.cells)), (9, .box (.dd Tired.zero.cells))], st⟩)
  (fun i r u => walkF c set t rota 0 = walkF c set u r i ∧ (0 ≤ u.slot ∧ u.slot < c.slots.length) ∧ TB u (100 + i)) t (Wk.sub ⟨(by first | rfl | (simp only [List.length_map]; rfl) | simp [PX.get]), (by first | rfl | (simp only [List.length_map]; rfl) | simp [PX.get]), (by first | rfl | (simp only [List.length_map]; rfl) | simp [PX.get]), (by first | rfl | (simp only [List.length_map]; rfl) | simp [PX.get]), (by first | rfl | (simp only [List.length_map]; rfl) | simp [PX.get]), (by first | rfl | (simp only [List.length_map]; rfl) | simp [PX.get]), trivial⟩ ⟨(by first | rfl | (simp only [List.length_map]; rfl) | simp [PX.get]), (by first | rfl | (simp only [List.length_map]; rfl) | simp [PX.get]), trivial⟩) ⟨rfl, ht, by simpa using hb⟩ ?_ ?_
 ·intro i x r u hx hi hr he
  obtain ⟨he, hs, hub⟩ := he
  rw [walkF] at he
  have hgx := hg x (List.mem_of_getElem? hx)
  obtain ⟨s, hsl⟩ : ∃ s, c.slots[u.slot.toNat]? = some s := ⟨c.slots[u.slot.toNat]'(by omega), by simp⟩
  have hw : whyT c set u x = whyF c set u s x := by simp [whyT, slotAt, hsl]
  rw [hw] at he
  conv=>whnf
  refine brk_i (fun _ => ?_) (fun h => absurd hi (by have := of_decide_eq_false h; omega))
  conv=>whnf
  refine elemK_nat hx ?_
  conv=>whnf
  refine CallA_v (ds := [crewD c set, u.d, intsD x]) (wa91 c hR set u s hsl hs.1 x hgx.1 hgx.2) rfl rfl ?_
  conv=>whnf
  refine brk_i (fun h1 => ?_) (fun h1 => ?_)
  ·have h1 : (whyF c set u s x).1 ≠ 0 := by simpa using h1
   rw [he, if_neg h1]
   conv=>whnf
   exact RetA_view 0 rfl ⟨⟨rfl, rfl⟩, rfl⟩
  have h1 : (whyF c set u s x).1 = 0 := by simpa using h1
  rw [if_pos h1] at he
  conv=>whnf
  have hto : TOk u := ⟨by have := hR.slots; omega, by have := hub.m0; omega, by have := hub.m1; omega, by have := hub.m2; omega, by have := hub.m3; omega, by have := hub.m4; omega⟩
  refine CallA_v (ds := [crewD c set, u.d, intsD x]) (wa92 c hR set u hto x hgx.2) rfl rfl ?_
  conv=>whnf
  refine arith_in (wrap_i64 (by (try dsimp only); omega)) ?_
  conv=>whnf
  refine ⟨behindF c u x, ⟨he, behind_slot hR hs.1, ?_⟩, (Wk.sub ⟨(by first | rfl | (simp only [List.length_map]; rfl) | simp [PX.get]), (by first | rfl | (simp only [List.length_map]; rfl) | simp [PX.get]), (by first | rfl | (simp only [List.length_map]; rfl) | simp [PX.get]), (by first | rfl | (simp only [List.length_map]; rfl) | simp [PX.get]), (by first | rfl | (simp only [List.length_map]; rfl) | simp [PX.get]), (by first | rfl | (simp only [List.length_map]; rfl) | simp [PX.get]), trivial⟩ ⟨(by first | rfl | (simp only [List.length_map]; rfl) | simp [PX.get]), (by first | rfl | (simp only [List.length_map]; rfl) | simp [PX.get]), trivial⟩)⟩
  have := behind_TB hR (group := x) (k := 100 + i) (by omega) hub
  rw [show (100 : Int) + ((i + 1 : Nat) : Int) = 100 + (i : Int) + 1 by omega]
  exact this
 ·intro u he
  obtain ⟨he, _, _⟩ := he
  rw [walkF] at he
  conv=>whnf
  refine brk_i (fun h => absurd h (by simp)) (fun _ => ?_)
  conv=>whnf
  rw [he]
  exact RetA_view 0 rfl ⟨⟨rfl, rfl⟩, rfl⟩
end Go.PX
namespace Go.PX
open Go.Proofs
theorem ent_ok {c : WCase} {rota : List (List Int)} (h : entE c rota = 0) : WR c ∧ rota.length ≤ 40 ∧ (∀ r ∈ rota, ascF c.men.length (-1) r = 0) := by
 unfold entE at h
 split at h
 ·rename_i h0
  split at h
  ·cases h
  ·rename_i h1
   refine ⟨wR h0, by omega, ?_⟩
   revert h
   clear h1 h0
   induction rota with
   | nil => intro _ r hr; cases hr
   | cons x l ih =>
    intro h r hr
    rw [firstErr] at h
    split at h
    ·rename_i h2
     rcases List.mem_cons.1 hr with rfl | hr
     ·exact h2
     ·exact ih h r hr
    ·rename_i h2; exact absurd h h2
 ·rename_i h0; exact absurd h h0
theorem asc_in {many : Int} : ∀ {l : List Int} {last : Int}, ascF many last l = 0 → ∀ m ∈ l, 0 ≤ m ∧ m < many
 | [], _, _ => by simp
 | i :: r, last, h => by
  rw [ascF] at h
  split at h
  case isFalse => cases h
  rename_i h1
  split at h
  ·cases h
  rw [inB_iff] at h1
  intro m hm
  rcases List.mem_cons.1 hm with rfl | hm
  ·omega
  ·exact asc_in h m hm
theorem rows_ok {c : WCase} {rota : List (List Int)} (h : entE c rota = 0) : ∀ r ∈ rota, RowIn c r ∧ r.length < 4000000000000000000 := fun r hr => by
 obtain ⟨hR, hl, hall⟩ := ent_ok h
 refine ⟨asc_in (hall r hr), ?_⟩
 have hm := hR.men
 rcases ascF_len (hall r hr) with h1 | h1
 ·rw [h1]; simp
 ·omega
def badF (c : WCase) (rota : List (List Int)) : Int × Int × Int × Int :=
 if entE c rota = 0 then ((walkF c (allMen c) .zero rota 0).1.1, (walkF c (allMen c) .zero rota 0).1.2.1, (walkF c (allMen c) .zero rota 0).1.2.2, 0) else (0, 0, 0, entE c rota)
theorem wa17 (c : WCase) (rota : List (List Int)) : FnV Tryz.prog 39 [c.d, rotaD rota] (.tup [i64 (badF c rota).1, i64 (badF c rota).2.1, i64 (badF c rota).2.2.1, i64 (badF c rota).2.2.2]) := by
 refine fnV_of mixed tysOk Tryz.func39 rfl (ft := ft39) 2 (by decide +kernel) (by rfl) fun {σ} Y st => ?_
 conv=>whnf
 refine CallA_v (wa63 c rota) rfl rfl ?_
 conv=>whnf
 unfold badF
 by_cases h0 : entE c rota = 0
 ·obtain ⟨hR, hl, _⟩ := ent_ok h0
  have hz := TG.zero hR
  rw [h0]
  simp only [if_true]
  conv=>whnf
  refine CallA_v (ds := [crewD c (allMen c), Tired.zero.d, rotaD rota]) (wa64 c hR (allMen c) .zero hz.slot hz.bd rota (rows_ok h0) hl) rfl rfl ?_
  conv=>whnf
  exact RetA_view 0 rfl ⟨⟨rfl, rfl⟩, rfl⟩
 ·rw [if_neg h0, if_neg h0]
  conv=>whnf
  refine brk_i (fun _ => ?_) (fun h1 => absurd h1 (by simp [h0]))
  conv=>whnf
  exact RetA_view 0 rfl ⟨⟨rfl, rfl⟩, rfl⟩
end Go.PX
namespace Go.PX
open Go.Proofs
def goodE (c : WCase) (rota : List (List Int)) : Int :=
 if entE c rota = 0 then (if (walkF c (allMen c) .zero rota 0).1.1 ≥ 0 then 9 else 0) else entE c rota
def goodT (c : WCase) (rota : List (List Int)) : Tired := (walkF c (allMen c) .zero rota 0).2
theorem wa66 (c : WCase) (rota : List (List Int)) : FnV Tryz.prog 59 [c.d, rotaD rota] (.tup [if goodE c rota = 0 then crewD c (allMen c) else .nilp, if goodE c rota = 0 then (goodT c rota).d else Tired.zero.d, i64 (goodE c rota)]) := by
 refine fnV_of mixed tysOk Tryz.func59 rfl (ft := ft59) 2 (by decide +kernel) (by rfl) fun {σ} Y st => ?_
 conv=>whnf
 refine CallA_v (wa63 c rota) rfl rfl ?_
 conv=>whnf
 by_cases h0 : entE c rota = 0
 ·obtain ⟨hR, hl, _⟩ := ent_ok h0
  have hz := TG.zero hR
  have hg : goodE c rota = if (walkF c (allMen c) .zero rota 0).1.1 ≥ 0 then 9 else 0 := by simp [goodE, h0]
  rw [hg]
  rw [h0]
  simp only [if_true]
  conv=>whnf
  refine CallA_v (ds := [crewD c (allMen c), Tired.zero.d, rotaD rota]) (wa64 c hR (allMen c) .zero hz.slot hz.bd rota (rows_ok h0) hl) rfl rfl ?_
  conv=>whnf
  refine brk_i (fun h1 => ?_) (fun h1 => ?_)
  ·have h1 : (walkF c (allMen c) .zero rota 0).1.1 ≥ 0 := of_decide_eq_true h1
   conv=>whnf
   rw [if_pos h1]
   exact RetA_view 0 rfl ⟨⟨rfl, rfl⟩, rfl⟩
  have h1 : ¬ (walkF c (allMen c) .zero rota 0).1.1 ≥ 0 := of_decide_eq_false h1
  conv=>whnf
  rw [if_neg h1]
  exact RetA_view 0 rfl ⟨⟨rfl, rfl⟩, rfl⟩
 ·have hg : goodE c rota = entE c rota := by simp [goodE, h0]
  rw [hg]
  rw [if_neg h0, if_neg h0]
  conv=>whnf
  refine brk_i (fun _ => ?_) (fun h1 => absurd h1 (by simp [h0]))
  conv=>whnf
  exact RetA_view 0 rfl ⟨⟨rfl, rfl⟩, rfl⟩
end Go.PX
namespace Go.PX
open Go.Proofs
end Go.PX
namespace Go.PX
open Go.Proofs
def bump (l : List Int) (m : Int) : List Int := l.set m.toNat (l.getD m.toNat 0 + 1)
def stoodL (n : Nat) (rota : List (List Int)) : List Int := rota.foldl (fun l r => r.foldl bump l) (List.replicate n 0)
theorem bump_len (l : List Int) (m : Int) : (bump l m).length = l.length := by simp [bump]
theorem wa19 (c : WCase) (rota : List (List Int)) : FnV Tryz.prog 41 [c.d, rotaD rota] (.tup [if goodE c rota = 0 then intsD (stoodL c.men.length rota) else .nils, i64 (goodE c rota)]) := by
 refine fnV_of mixed tysOk Tryz.func41 rfl (ft := ft41) 2 (by decide +kernel) (by rfl) fun {σ} Y st => ?_
 conv=>whnf
 refine CallA_v (wa66 c rota) rfl rfl ?_
 conv=>whnf
 by_cases h0 : goodE c rota = 0
 ·have hE : entE c rota = 0 := by
   unfold goodE at h0
   split at h0
   ·assumption
   ·exact h0
  obtain ⟨hR, hl, hall⟩ := ent_ok hE
  have hm := hR.men
  rw [h0]
  simp only [if_true]
  conv=>whnf
  refine chk_i (by simp; rfl) ?_
  conv=>whnf
  refine chk_i (decide_eq_true (by simp only [List.length_map]; omega)) ?_
  conv=>whnf
  have hin : ∀ r ∈ rota, ∀ m ∈ r, 0 ≤ m ∧ m < c.men.length := fun r hr => (rows_ok hE r hr).1
  refine LoopA_i (T := tys) tysOk (by exact drawsB_spec mixed tysOk (by decide +kernel)) rota (fun i (acc : List Int) => ⟨[(9, .sl 27 1 0 c.men.length), (28, .d (rotaD rota)), (29, .d (i64 rota.length)), (30, .d (i64 i))], [(27, .arr 1 (.dd (acc.map fun n => [i64 n])))], st⟩)
   (fun i r acc => acc.length = c.men.length ∧ (∀ x ∈ acc, 0 ≤ x ∧ x ≤ 1000 * i) ∧ stoodL c.men.length rota = r.foldl (fun l r => r.foldl bump l) acc ∧ ∀ x ∈ r, x ∈ rota) (List.replicate c.men.length 0) ?wk ⟨by simp, by simp, rfl, fun x h => h⟩ ?_ ?_
  case wk => exact (Wk.sub ⟨(by first | rfl | (simp only [List.length_map]; rfl) | simp [PX.get]), (by first | rfl | (simp only [List.length_map]; rfl) | simp [PX.get]), (by first | rfl | (simp only [List.length_map]; rfl) | simp [PX.get]), (by first | rfl | (simp only [List.length_map]; rfl) | simp [PX.get]), trivial⟩ ⟨(by first | rfl | (simp only [List.length_map]; rfl) | simp [PX.get]), trivial⟩)
  ·intro i x r acc hx hi hr he
   obtain ⟨ha, hb, he, hsub⟩ := he
   rw [List.foldl_cons] at he
   conv=>whnf
   refine brk_i (fun _ => ?_) (fun h => absurd hi (by have := of_decide_eq_false h; omega))
   conv=>whnf
   refine elemK_nat hx ?_
   conv=>whnf
   have hxm : x ∈ rota := hsub x (by simp)
   have hxl : x.length ≤ 5 := by
    rcases ascF_len (hall x hxm) with h1 | h1
    ·rw [h1]; simp
    ·omega
   refine LoopA_i (T := tys) tysOk (by exact drawsB_spec mixed tysOk (by decide +kernel)) x (fun k (ac : List Int) => ⟨[(9, .sl 27 1 0 c.men.length), (28, .d (rotaD rota)), (29, .d (i64 rota.length)), (30, .d (i64 i)), (34, .d (intsD x)), (35, .d (i64 x.length)), (36, .d (i64 k))], [(27, .arr 1 (.dd (ac.map fun n => [i64 n])))], st⟩)
    (fun k r2 ac => ac.length = c.men.length ∧ (∀ y ∈ ac, 0 ≤ y ∧ y ≤ 1000 * (i : Int) + k) ∧ stoodL c.men.length rota = r.foldl (fun l r => r.foldl bump l) (r2.foldl bump ac)) acc ?wk ⟨ha, by simpa using hb, he⟩ ?_ ?_
   case wk => exact (Wk.sub ⟨(by first | rfl | (simp only [List.length_map]; rfl) | simp [PX.get]), (by first | rfl | (simp only [List.length_map]; rfl) | simp [PX.get]), (by first | rfl | (simp only [List.length_map]; rfl) | simp [PX.get]), (by first | rfl | (simp only [List.length_map]; rfl) | simp [PX.get]), (by first | rfl | (simp only [List.length_map]; rfl) | simp [PX.get]), (by first | rfl | (simp only [List.length_map]; rfl) | simp [PX.get]), (by first | rfl | (simp only [List.length_map]; rfl) | simp [PX.get]), trivial⟩ ⟨(by first | rfl | (simp only [List.length_map]; rfl) | simp [PX.get]), trivial⟩)
   ·intro k m r2 ac hm2 hk hr2 hi2
    obtain ⟨ha2, hb2, he2⟩ := hi2
    rw [List.foldl_cons] at he2
    obtain ⟨hm0, hm1⟩ := hin x hxm m (List.mem_of_getElem? hm2)
    have hmn : m.toNat < ac.length := by omega
    have hv : ac[m.toNat]? = some ac[m.toNat] := List.getElem?_eq_getElem hmn
    obtain ⟨hv0, hv1⟩ := hb2 ac[m.toNat] (List.getElem_mem ..)
    conv=>whnf
    refine brk_i (fun _ => ?_) (fun h => absurd hk (by have := of_decide_eq_false h; omega))
    conv=>whnf
    refine elemK_nat hm2 ?_
    conv=>whnf
    have hbd : (decide (0 ≤ m) && decide (m < (c.men.length : Int))) = true := by simp; omega
    refine chk_i hbd ?_
    conv=>whnf
    refine cellK_i [i64 ac[m.toNat]] (by simp [hv]) ?_
    conv=>whnf
    refine arith_in (wrap_i64 (by (try dsimp only); omega)) ?_
    conv=>whnf
    refine chk_i hbd ?_
    conv=>whnf
    refine cellK_i [i64 ac[m.toNat]] (by simp [hv]) ?_
    conv=>whnf
    refine arith_in (wrap_i64 (by (try dsimp only); omega)) ?_
    conv=>whnf
    refine ⟨bump ac m, ⟨by rw [bump_len]; exact ha2, fun y hy => ?_, he2⟩, (Wk.sub ⟨rfl, rfl, rfl, rfl, rfl, rfl, rfl, trivial⟩ ⟨?_, trivial⟩)⟩
    ·unfold bump at hy
     rcases List.mem_or_eq_of_mem_set hy with hy | rfl
     ·have := hb2 y hy; omega
     ·simp only [List.getD_eq_getElem?_getD, hv, Option.getD_some]; omega
    ·simp only [PX.get, bump, List.map_set, List.getD_eq_getElem?_getD, hv, Option.getD_some, Nat.zero_add]
     rfl
   ·intro ac hi2
    obtain ⟨ha2, hb2, he2⟩ := hi2
    conv=>whnf
    refine brk_i (fun h => absurd h (by simp)) (fun _ => ?_)
    conv=>whnf
    refine arith_in (wrap_i64 (by (try dsimp only); omega)) ?_
    conv=>whnf
    refine ⟨ac, ⟨ha2, fun y hy => ?_, he2, fun z hz => hsub z (by simp [hz])⟩, (Wk.sub ⟨(by first | rfl | (simp only [List.length_map]; rfl) | simp [PX.get]), (by first | rfl | (simp only [List.length_map]; rfl) | simp [PX.get]), (by first | rfl | (simp only [List.length_map]; rfl) | simp [PX.get]), (by first | rfl | (simp only [List.length_map]; rfl) | simp [PX.get]), trivial⟩ ⟨(by first | rfl | (simp only [List.length_map]; rfl) | simp [PX.get]), trivial⟩)⟩
    have := hb2 y hy
    omega
  ·intro acc he
   obtain ⟨ha, _, he, _⟩ := he
   conv=>whnf
   refine brk_i (fun h => absurd h (by simp)) (fun _ => ?_)
   conv=>whnf
   refine RetA_view 1 (ds := [intsD acc, i64 0]) ?_ ⟨⟨?_, rfl⟩, rfl⟩
   ·have e2 : c.men.length.ble c.men.length = true := by rw [Nat.ble_eq]; exact Nat.le_refl _
    simp [viewL, viewV, objD, PX.get, intsD, e2, List.take_of_length_le, ha]
   ·have he : stoodL c.men.length rota = acc := he
    simp [packD, he, h0]
 ·rw [if_neg h0, if_neg h0]
  conv=>whnf
  refine brk_i (fun _ => ?_) (fun h1 => absurd h1 (by simp [h0]))
  conv=>whnf
  rw [if_neg h0]
  exact RetA_view 0 rfl ⟨⟨rfl, rfl⟩, rfl⟩
end Go.PX
namespace Go.PX
def delL : List Nat → List Wr
 | [] => []
 | i :: r => .del i :: delL r
theorem applyWs_delL {σ : Type} : ∀ (l : List Nat) (st : St σ), applyWs st (delL l) = ⟨st.env, cutL st.heap l, st.s⟩
 | [], st => rfl
 | i :: r, st => by
  show applyWs (applyW st (.del i)) (delL r) = _
  rw [applyWs_delL r]; rfl
theorem applyWs_append {σ : Type} : ∀ (a b : List Wr) (st : St σ), applyWs st (a ++ b) = applyWs (applyWs st a) b
 | [], b, st => rfl
 | w :: a, b, st => applyWs_append a b (applyW st w)
section
variable {P : Program} {σ : Type}
theorem Good.frzPart {cx : Cx σ} {r : Option Nat} {m : List Nat} {L : Loc} {F : Nat → Nat} {st : St σ} {a : Act} {w : World} (hg : Good cx r m L F st a w) {h : Heap} (hsub : SubT h st.heap) (n : Nat) :
  ∃ F1, Good cx r m L F1 (applyWs st (delL (keysOf h))) a w ∧ Tr F w F1 w ∧ ∀ args vals ds, viewL (objD h n) args = some ds → RepVL cx.yv L F w args vals → RepDL F1 w ds vals := by
 have hok : HeapOk cx L F h st.s w := (hg.sub (e := st.env) (h := h) (fun _ _ h => h) hsub).heap
 have tr := frzAll_tr hok
 have hF1C : ∀ b, cx.C st.s b → frzAll L F h w b = F b := fun b hb => frzAll_C hok hb
 have hF1o : ∀ id o, get st.heap id = some o → id ∉ keysOf h → Backed L id o → frzAll L F h w (L.ρ id) = F (L.ρ id) := by
  intro id o hi hn hb
  refine frzAll_other ?_
  rintro ⟨j, p, hj, hbj, hij⟩
  have := hg.heap.inj j id p o (hsub j p hj) hi hbj hb hij
  subst this
  exact hn (keysOf_mem hj)
 have hfr := frzAll_fresh hok
 have hobj := objD_t hok n
 generalize frzAll L F h w = F1 at tr hF1C hF1o hfr hobj
 rw [applyWs_delL]
 have hget : ∀ i o, get (cutL st.heap (keysOf h)) i = some o → i ∉ keysOf h ∧ get st.heap i = some o := by
  intro i o hi
  rw [get_cutL] at hi
  split at hi
  ·cases hi
  ·rename_i hn; exact ⟨hn, hi⟩
 refine ⟨F1, ⟨⟨cx.stable hg.heap.hg tr hfr fun b hb => ⟨rfl, hF1C b hb⟩, hg.heap.csz, hfr, ?_, ?_, ?_⟩, ?_, hg.dfr, hg.mks, hg.mnd, hg.lk, hg.pin, hg.tsz⟩, tr, fun args vals ds hv hr => viewL_t tr hobj args vals ds hv hr⟩
 ·intro i o hi
  exact RepO.mono tr i o (fun _ _ => ⟨rfl, rfl⟩) ⟨rfl, rfl⟩ (fun _ => rfl) (hg.heap.obj i o (hget i o hi).2)
 ·intro i o hi hb
  obtain ⟨hn, h0⟩ := hget i o hi
  rw [hF1o i o h0 hn hb]
  exact hg.heap.own i o h0 hb
 ·intro i j o p hi hj hbi hbj he
  exact hg.heap.inj i j o p (hget i o hi).2 (hget j p hj).2 hbi hbj he
 ·intro t v ht
  obtain ⟨x, hx, hr⟩ := hg.env t v ht
  exact ⟨x, hx, RepV.mono tr v x (fun _ _ => ⟨rfl, rfl⟩) hr⟩
theorem outCall_fz {f : FuncId} {ds : List D} {res : D} (hf : FnV P f ds res) (n : Nat) {e : Env} {h : Heap} {d : Option Nat} {args : List V} (hv : viewL (objD h n) args = some ds) (hd : Nat.ble (d.getD 0) 10000 = true) :
  OutCall P e h d f args (delL (keysOf h) ++ wset d (.d res)) := by
 have ho := outCall_v (P := P) hf (e := []) (h := []) (d := d) (args := inj ds) rfl hd
 refine ⟨ho.1, fun {σ} cx r m L F st a w vals he hh hg hdt hr => ?_⟩
 obtain ⟨F1, hg1, tr1, hvw⟩ := hg.frzPart hh n
 rw [applyWs_append]
 refine (ho.2 cx r m L F1 (applyWs st (delL (keysOf h))) a w vals (fun _ _ h => by cases h) (fun _ _ h => by cases h) hg1 hdt (RepVL.inj.2 (hvw _ _ _ hv hr))).mono ?_
 rintro en w' ⟨x, rfl, L', F', hg', tr'⟩
 exact ⟨x, rfl, L', F', hg', Tr.trans tr1 tr'⟩
theorem CallA_fz {Y : Hd σ} {f : FuncId} {ds : List D} {res : D} (hf : FnV P f ds res) (n : Nat) {e : Env} {h : Heap} {s : σ} {d : Option Nat} {args : List V} (ids : List Nat) (hv : viewL (objD (keepT ids h) n) args = some ds) (hd : Nat.ble (d.getD 0) 10000 = true)
  {K : St σ → Prop} (hk : applyK (delL (keysOf (keepT ids h)) ++ wset d (.d res)) e h fun e h => K ⟨e, h, s⟩) : CallA P Y ⟨e, h, s⟩ d f args K := by
 have ho := outCall_fz (P := P) hf n (e := e) (h := keepT ids h) (d := d) (args := args) hv hd
 refine CallA_out (ws := delL (keysOf (keepT ids h)) ++ wset d (.d res)) ⟨ho.1, fun {σ} cx r m L F st a w vals he hh hg hdt hr => ?_⟩ hk
 exact ho.2 cx r m L F st a w vals he (fun i o hi => hh i o (sub_keepT ids h i o hi)) hg hdt hr
theorem DrawCall_fz {f : FuncId} {ds : List D} {res : D} (hf : FnV P f ds res) (n : Nat) {e : Env} {h : Heap} {d : Option Nat} {args : List V} (hv : viewL (objD h n) args = some ds) (hd : Nat.ble (d.getD 0) 10000 = true)
  {K : List Wr → Prop} (hk : K (delL (keysOf h) ++ wset d (.d res))) : DrawCall P e h d f args K := ⟨_, hk, outCall_fz hf n hv hd⟩
end
end Go.PX
namespace Go.PX
theorem viewLL_app {g : Nat → Option DO} {vs : List (List V)} {ds : List (List D)} (h : viewLL g vs = some ds) : ∀ (es : List (List D)), viewLL g (injL es ++ vs) = some (es ++ ds)
 | [] => h
 | e :: r => by
  show viewLL g (inj e :: (injL r ++ vs)) = _
  rw [viewLL, viewLL_app h r]
  have : viewL g (inj e) = some e := by
   have := viewL_app (g := g) (a := e) (r := []) (r' := []) rfl
   simpa using this
  rw [this]; rfl
theorem viewLL_one {g : Nat → Option DO} {v : List V} {d : List D} (h : viewL g v = some d) : viewLL g [v] = some [d] := by
 rw [viewLL, h]; rfl
theorem nameBL_inj (i : Nat) : ∀ l : List D, nameBL i (inj l) = false
 | [] => rfl
 | d :: r => by
  show (nameB i (.d d) || nameBL i (inj r)) = false
  rw [nameBL_inj i r]; rfl
theorem nameBL_append (i : Nat) : ∀ a b : List V, nameBL i (a ++ b) = (nameBL i a || nameBL i b)
 | [], b => rfl
 | v :: a, b => by
  show (nameB i v || nameBL i (a ++ b)) = ((nameB i v || nameBL i a) || nameBL i b)
  rw [nameBL_append i a b, Bool.or_assoc]
theorem nameBL_injL (i : Nat) (vs : List (List V)) : ∀ es : List (List D), nameBL i ((injL es ++ vs).flatten) = nameBL i vs.flatten
 | [] => rfl
 | e :: r => by
  show nameBL i (inj e ++ (injL r ++ vs).flatten) = _
  rw [nameBL_append, nameBL_inj, nameBL_injL i vs r]; rfl
section
variable {σ : Type}
theorem delL_heap {e : Env} {h : Heap} {s : σ} (l : List Nat) : applyWs (⟨e, h, s⟩ : St σ) (delL l) = ⟨e, cutL h l, s⟩ := applyWs_delL l _
theorem Wk.frzArr {e : Env} {h : Heap} {s : σ} (n : Nat) (ids : List Nat) (k : Nat) {sz : Nat} {vs : List (List V)} {ds : List (List D)} (hk : get (cutL h (keysOf (keepT ids h))) k = some (.arr sz (.vv vs))) (hv : viewLL (objD (keepT ids h) n) vs = some ds) :
  Wk (⟨e, h, s⟩ : St σ) ⟨e, put (cutL h (keysOf (keepT ids h))) k (.arr sz (.dd ds)), s⟩ := by
 intro cx r m L F a w hg
 obtain ⟨F1, hg1, tr, hvw⟩ := hg.frzPart (h := keepT ids h) (sub_keepT ids h) n
 rw [delL_heap] at hg1
 have h0 : RepO cx.yv L F w k (.arr sz (.vv vs)) := by
  rw [get_cutL] at hk
  split at hk
  ·cases hk
  ·exact hg.heap.obj k _ hk
 obtain ⟨f1, f2, f3⟩ := viewLL_flat hv
 have hnew : RepO cx.yv L F1 w k (.arr sz (.dd ds)) := by
  obtain ⟨c1, c2, c3⟩ := h0
  have hl : (Els.dd ds).toV.length = ds.length := by rw [← Els.len_eq]; rfl
  have hflat : (Els.dd ds).toV.flatten = inj ds.flatten := by
   show (injL ds).flatten = _
   clear hl f1 f2 f3 hv
   induction ds with
   | nil => rfl
   | cons d r ih =>
    show inj d ++ (injL r).flatten = _
    rw [ih, List.flatten_cons, inj_append]
  refine ⟨c1, ?_, ?_⟩
  ·have h3 := f3 sz c2
   intro x hx
   show x.length = sz
   have : ∀ (l : List (List D)), (∀ d ∈ l, d.length = sz) → ∀ x ∈ injL l, x.length = sz := by
    intro l
    induction l with
    | nil => intro _ x hx; cases hx
    | cons d r ih =>
     intro hd x hx
     rcases List.mem_cons.1 hx with rfl | hx
     ·rw [inj_length]; exact hd d (by simp)
     ·exact ih (fun d hd' => hd d (by simp [hd'])) x hx
   exact this ds h3 x hx
  ·rcases c3 with ⟨c4, c5⟩ | ⟨c, T, c4, c5, c6, c7⟩
   ·left
    refine ⟨?_, c5⟩
    have hvs : vs = [] := c4
    have : ds = [] := by
     have : ds.length = 0 := by rw [f2, hvs]; rfl
     exact List.length_eq_zero_iff.1 this
    rw [this]; rfl
   ·right
    have e1 : (Els.vv vs).toV = vs := rfl
    rw [e1] at c6 c7
    refine ⟨c, T, c4, c5, by rw [hl, f2]; exact c6, ?_⟩
    rw [hflat, hl, f2]
    exact RepVL.inj.2 (hvw _ _ _ f1 c7)
 have key : ∀ i q, get (put (cutL h (keysOf (keepT ids h))) k (.arr sz (.dd ds))) i = some q → (i = k ∧ q = .arr sz (.dd ds)) ∨ get (cutL h (keysOf (keepT ids h))) i = some q := by
  intro i q hi
  rw [get_put] at hi
  split at hi
  ·rename_i e1; cases hi; exact .inl ⟨e1, rfl⟩
  ·exact .inr hi
 refine ⟨L, F1, ⟨⟨hg1.heap.hg, hg1.heap.csz, hg1.heap.fresh, fun i q hi => ?_, fun i q hi hbk => ?_, fun i j q p hi hj hbi hbj e => ?_⟩, hg1.env, hg1.dfr, hg1.mks, hg1.mnd, hg1.lk, hg1.pin, hg1.tsz⟩, tr⟩
 ·rcases key i q hi with ⟨rfl, rfl⟩ | hi
  ·exact hnew
  ·exact hg1.heap.obj i q hi
 ·rcases key i q hi with ⟨rfl, rfl⟩ | hi
  ·exact hg1.heap.own i _ hk hbk
  ·exact hg1.heap.own i q hi hbk
 ·rcases key i q hi with ⟨e1, e2⟩ | hi1 <;> rcases key j p hj with ⟨e3, e4⟩ | hj1
  ·rw [e1, e3]
  ·subst e1; subst e2
   exact hg1.heap.inj _ _ _ _ hk hj1 hbi hbj e
  ·subst e3; subst e4
   exact hg1.heap.inj _ _ _ _ hi1 hk hbi hbj e
  ·exact hg1.heap.inj _ _ _ _ hi1 hj1 hbi hbj e
end
end Go.PX
