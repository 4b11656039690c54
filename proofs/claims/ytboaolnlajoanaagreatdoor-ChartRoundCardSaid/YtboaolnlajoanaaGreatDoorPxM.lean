import Derived.Test.YtboaolnlajoanaaGreatDoorPxL
import Derived.Test.YtboaolnlajoanaaGreatDoorPxK
import Derived.Test.YtboaolnlajoanaaGreatDoorPxJ
import Derived.Test.YtboaolnlajoanaaGreatDoorPxH
import Derived.Test.YtboaolnlajoanaaGreatDoorPxI
set_option linter.all false
set_option maxRecDepth 10000
namespace Go.PX
open Go.Proofs
def clearE (c : Cht) (p : Pt) (r : Int) : Int :=
 if openX c p = 0 then (if inB r 0 5000 then (if (insX c p r).isSome then 0 else 4) else 7) else openX c p
def clearV (c : Cht) (p : Pt) (r : Int) : Int × Pt := if openX c p = 0 ∧ inB r 0 5000 = true then (insX c p r).getD (0, ⟨0, 0⟩) else (0, ⟨0, 0⟩)
set_option maxHeartbeats 1000000 in
theorem ch26 (c : Cht) (p : Pt) (r : Int) : FnV Tryz.prog 26 [c.d, p.d, i64 r] (.tup [i64 (clearV c p r).1, (clearV c p r).2.d, i64 (clearE c p r)]) := by
 refine fnV_of mixed tysOk Tryz.func26 rfl (ft := ft26) 3 (by decide +kernel) (by rfl) fun {σ} Y st => ?_
 conv=>whnf
 refine CallA_v (ch70 c p) rfl rfl ?_
 conv=>whnf
 by_cases h0 : openX c p = 0
 case neg =>
  have he : clearE c p r = openX c p := by unfold clearE; rw [if_neg h0]
  have hv : clearV c p r = (0, ⟨0, 0⟩) := by unfold clearV; rw [if_neg (fun h => h0 h.1)]
  rw [he, hv]
  refine brk_i (fun _ => ?_) (fun h1 => absurd h1 (by simp [h0]))
  conv=>whnf
  exact RetA_view 0 rfl ⟨⟨rfl, rfl⟩, rfl⟩
 obtain ⟨hR, hp⟩ := openX_ok h0
 refine brk_i (fun h1 => absurd h1 (by simp [h0])) (fun _ => ?_)
 conv=>whnf
 refine CallA_view (fn51_1 0 5000 r) rfl 1 rfl ?_
 by_cases h1 : inB r 0 5000 = true
 case neg =>
  have he : clearE c p r = 7 := by unfold clearE; rw [if_pos h0, if_neg h1]
  have hv : clearV c p r = (0, ⟨0, 0⟩) := by unfold clearV; rw [if_neg (fun h => h1 h.2)]
  have h1 : inB r 0 5000 = false := by simpa using h1
  rw [he, hv, h1]
  conv=>whnf
  exact RetA_view 0 rfl ⟨⟨rfl, rfl⟩, rfl⟩
 have he : clearE c p r = if (insX c p r).isSome then 0 else 4 := by unfold clearE; rw [if_pos h0, if_pos h1]
 have hv : clearV c p r = (insX c p r).getD (0, ⟨0, 0⟩) := by unfold clearV; rw [if_pos ⟨h0, h1⟩]
 rw [he, hv, h1]
 rw [inB_iff] at h1
 conv=>whnf
 refine CallA_v (ch74 c hR p hp r (by omega)) rfl rfl ?_
 conv=>whnf
 cases insX c p r with
 | none =>
  conv=>whnf
  exact RetA_view 0 rfl ⟨⟨rfl, rfl⟩, rfl⟩
 | some x =>
  obtain ⟨i, m⟩ := x
  conv=>whnf
  exact RetA_view 0 rfl ⟨⟨rfl, rfl⟩, rfl⟩
def radL (c : Cht) (p : Pt) : Nat → Int → Int → Int
 | 0, a, _ => a
 | n + 1, a, b => if b - a > 1 then (if (insX c p ((a + b) / 2)).isSome then radL c p n a ((a + b) / 2) else radL c p n ((a + b) / 2) b) else a
def radV (c : Cht) (p : Pt) : Int := if openX c p = 0 then radL c p 5001 0 5001 else 0
set_option maxHeartbeats 1000000 in
theorem ch28 (c : Cht) (p : Pt) : FnV Tryz.prog 28 [c.d, p.d] (.tup [i64 (radV c p), i64 (openX c p)]) := by
 refine fnV_of mixed tysOk Tryz.func28 rfl (ft := ft28) 2 (by decide +kernel) (by rfl) fun {σ} Y st => ?_
 conv=>whnf
 refine CallA_v (ch70 c p) rfl rfl ?_
 conv=>whnf
 by_cases h0 : openX c p = 0
 case neg =>
  have hv : radV c p = 0 := by unfold radV; rw [if_neg h0]
  rw [hv]
  refine brk_i (fun _ => ?_) (fun h1 => absurd h1 (by simp [h0]))
  conv=>whnf
  exact RetA_view 0 rfl ⟨⟨rfl, rfl⟩, rfl⟩
 obtain ⟨hR, hp⟩ := openX_ok h0
 have hv : radV c p = radL c p 5001 0 5001 := by unfold radV; rw [if_pos h0]
 rw [hv]
 refine brk_i (fun h1 => absurd h1 (by simp [h0])) (fun _ => ?_)
 conv=>whnf
 refine LoopA_p (T := tys) tysOk (by exact drawsB_spec mixed tysOk (by decide +kernel)) (α := Nat × Int × Int)
  (fun x => ⟨[(2, .ptr 2 0), (3, .ptr 3 0), (7, .d (i64 x.2.1)), (8, .d (i64 x.2.2))], [(2, .box (.dd c.cells)), (3, .box (.dd p.cells))], st⟩)
  (fun x => 0 ≤ x.2.1 ∧ x.2.1 < x.2.2 ∧ x.2.2 ≤ 5001 ∧ x.2.2 - x.2.1 ≤ x.1 ∧ radL c p 5001 0 5001 = radL c p x.1 x.2.1 x.2.2) (fun x => x.1) (5001, 0, 5001) (Wk.sub ⟨(by first | rfl | (simp only [List.length_map]; rfl) | simp [PX.get]), (by first | rfl | (simp only [List.length_map]; rfl) | simp [PX.get]), (by first | rfl | (simp only [List.length_map]; rfl) | simp [PX.get]), (by first | rfl | (simp only [List.length_map]; rfl) | simp [PX.get]), trivial⟩ ⟨(by first | rfl | (simp only [List.length_map]; rfl) | simp [PX.get]), (by first | rfl | (simp only [List.length_map]; rfl) | simp [PX.get]), trivial⟩) ⟨by simp, by simp, by simp, by simp, rfl⟩ ?_
 rintro ⟨n, a, b⟩ ⟨h1, h2, h3, h4, hk⟩
 simp only at h1 h2 h3 h4 hk
 obtain ⟨n, rfl⟩ : ∃ k, n = k + 1 := ⟨n - 1, by omega⟩
 have hrl : radL c p (n + 1) a b = if b - a > 1 then (if (insX c p ((a + b) / 2)).isSome then radL c p n a ((a + b) / 2) else radL c p n ((a + b) / 2) b) else a := rfl
 rw [hrl] at hk
 clear hrl
 conv=>whnf
 refine arith_in (wrap_i64 (by (try dsimp only); omega)) ?_
 conv=>whnf
 refine brk_i (fun h5 => ?_) (fun h5 => ?_)
 ·have h5 : b - a > 1 := by have := of_decide_eq_true h5; omega
  rw [if_pos h5] at hk
  have hm : (a + b).tdiv 2 = (a + b) / 2 := Int.tdiv_eq_ediv_of_nonneg (by omega)
  have hm1 : a < (a + b) / 2 := by omega
  have hm2 : (a + b) / 2 < b := by omega
  conv=>whnf
  refine arith_in (wrap_i64 (by (try dsimp only); omega)) ?_
  conv=>whnf
  refine arith_to (((a + b) / 2)) (by (try dsimp only); omega) (wrap_i64 (by (try dsimp only); omega)) ?_
  conv=>whnf
  refine CallA_v (ch74 c hR p hp ((a + b) / 2) (by omega)) rfl rfl ?_
  conv=>whnf
  cases hx : insX c p ((a + b) / 2) with
  | none =>
   rw [hx] at hk
   conv=>whnf
   exact ⟨(n, (a + b) / 2, b), by simp only; omega, ⟨by simp only; omega, by simp only; omega, by simp only; omega, by simp only; omega, hk⟩, (Wk.sub ⟨(by first | rfl | (simp only [List.length_map]; rfl) | simp [PX.get]), (by first | rfl | (simp only [List.length_map]; rfl) | simp [PX.get]), (by first | rfl | (simp only [List.length_map]; rfl) | simp [PX.get]), (by first | rfl | (simp only [List.length_map]; rfl) | simp [PX.get]), trivial⟩ ⟨(by first | rfl | (simp only [List.length_map]; rfl) | simp [PX.get]), (by first | rfl | (simp only [List.length_map]; rfl) | simp [PX.get]), trivial⟩)⟩
  | some x =>
   obtain ⟨i, m⟩ := x
   rw [hx] at hk
   conv=>whnf
   exact ⟨(n, a, (a + b) / 2), by simp only; omega, ⟨by simp only; omega, by simp only; omega, by simp only; omega, by simp only; omega, hk⟩, (Wk.sub ⟨(by first | rfl | (simp only [List.length_map]; rfl) | simp [PX.get]), (by first | rfl | (simp only [List.length_map]; rfl) | simp [PX.get]), (by first | rfl | (simp only [List.length_map]; rfl) | simp [PX.get]), (by first | rfl | (simp only [List.length_map]; rfl) | simp [PX.get]), trivial⟩ ⟨(by first | rfl | (simp only [List.length_map]; rfl) | simp [PX.get]), (by first | rfl | (simp only [List.length_map]; rfl) | simp [PX.get]), trivial⟩)⟩
 ·have h5 : ¬ b - a > 1 := by have := of_decide_eq_false h5; omega
  rw [if_neg h5] at hk
  rw [hk, h0]
  conv=>whnf
  exact RetA_view 0 rfl ⟨⟨rfl, rfl⟩, rfl⟩
end Go.PX
namespace Go.PX
open Go.Proofs
def turnP (v : Pt) : Pt := ⟨-v.y, v.x⟩
def turnN : Nat → Pt → Pt
 | 0, v => v
 | n + 1, v => turnN n (turnP v)
def quadN (v : Pt) : Nat := if 0 ≤ v.x ∧ 0 < v.y then 0 else if 0 < v.x ∧ v.y ≤ 0 then 1 else if v.x ≤ 0 ∧ v.y < 0 then 2 else 3
def cntF (v : Pt) : List Pt → Int → Int
 | [], n => n
 | q :: r, n => cntF v r (if leftF q v ≤ 0 then n + 1 else n)
def towF (v : Pt) : Int := cntF (turnN (quadN v) v) quarterL (8 * quadN v) - 1
def NZ (v : Pt) : Prop := v.x ≠ 0 ∨ v.y ≠ 0
theorem quad_le (v : Pt) : quadN v ≤ 3 := by
 unfold quadN
 split
 ·omega
 ·split
  ·omega
  ·split <;> omega
theorem quad_turn {v : Pt} (hz : NZ v) (h : ¬ (0 ≤ v.x ∧ 0 < v.y)) : quadN v = quadN (turnP v) + 1 ∧ NZ (turnP v) := by
 unfold NZ at hz
 constructor
 ·have e1 : (turnP v).x = -v.y := rfl
  have e2 : (turnP v).y = v.x := rfl
  unfold quadN
  rw [e1, e2]
  repeat' split
  all_goals omega
 ·show -v.y ≠ 0 ∨ v.x ≠ 0
  omega
set_option maxHeartbeats 1000000 in
theorem ch80 (v0 : Pt) (hp : Pin 1000000 v0) (hz : NZ v0) : FnV Tryz.prog 80 [v0.d] (i64 (towF v0)) := by
 refine fnV_of mixed tysOk Tryz.func80 rfl (ft := ft80) 1 (by decide +kernel) (by rfl) fun {σ} Y st => ?_
 conv=>whnf
 refine LoopA_p (T := tys) tysOk (by exact drawsB_spec mixed tysOk (by decide +kernel)) (α := Pt × Int)
  (fun x => ⟨[(1, .ptr 1 0), (2, .d (i64 x.2))], [(1, .box (.dd x.1.cells))], st⟩)
  (fun x => Pin 1000000 x.1 ∧ NZ x.1 ∧ x.2 + 8 * quadN x.1 = 8 * quadN v0 ∧ 0 ≤ x.2 ∧ turnN (quadN x.1) x.1 = turnN (quadN v0) v0) (fun x => quadN x.1) (v0, 0) (Wk.sub ⟨(by first | rfl | (simp only [List.length_map]; rfl) | simp [PX.get]), (by first | rfl | (simp only [List.length_map]; rfl) | simp [PX.get]), trivial⟩ ⟨(by first | rfl | (simp only [List.length_map]; rfl) | simp [PX.get]), trivial⟩) ⟨hp, hz, by simp, by simp, rfl⟩ ?_
 have hq3 := quad_le v0
 clear hp hz
 rintro ⟨v, n⟩ ⟨hp, hz, hn, hn0, hk⟩
 simp only at hp hz hn hn0 hk
 have hx := hp.x
 have hy := hp.y
 conv=>whnf
 refine brk_i (fun h1 => ?_) (fun h1 => ?_)
 ·have h1 : v.x < 0 := of_decide_eq_true h1
  have hc : ¬ (0 ≤ v.x ∧ 0 < v.y) := by omega
  obtain ⟨hqt, hzt⟩ := quad_turn hz hc
  have hnn : n + 8 + 8 * quadN (turnP v) = 8 * quadN v0 := by omega
  rw [hqt] at hk
  conv=>whnf
  refine arith_to ((-v.y)) (by (try dsimp only); omega) (wrap_i64 (by (try dsimp only); omega)) ?_
  conv=>whnf
  refine arith_in (wrap_i64 (by (try dsimp only); omega)) ?_
  conv=>whnf
  exact ⟨(turnP v, n + 8), by simp only; omega, ⟨⟨by show -1000000 ≤ -v.y ∧ -v.y ≤ 1000000; omega, hx⟩, hzt, hnn, by simp only; omega, hk⟩, (Wk.sub ⟨(by first | rfl | (simp only [List.length_map]; rfl) | simp [PX.get]), (by first | rfl | (simp only [List.length_map]; rfl) | simp [PX.get]), trivial⟩ ⟨(by first | rfl | (simp only [List.length_map]; rfl) | simp [PX.get]), trivial⟩)⟩
 ·have h1 : ¬ v.x < 0 := of_decide_eq_false h1
  conv=>whnf
  refine brk_i (fun h2 => ?_) (fun h2 => ?_)
  ·have h2 : v.y ≤ 0 := of_decide_eq_true h2
   have hc : ¬ (0 ≤ v.x ∧ 0 < v.y) := by omega
   obtain ⟨hqt, hzt⟩ := quad_turn hz hc
   have hnn : n + 8 + 8 * quadN (turnP v) = 8 * quadN v0 := by omega
   rw [hqt] at hk
   conv=>whnf
   refine arith_to ((-v.y)) (by (try dsimp only); omega) (wrap_i64 (by (try dsimp only); omega)) ?_
   conv=>whnf
   refine arith_in (wrap_i64 (by (try dsimp only); omega)) ?_
   conv=>whnf
   exact ⟨(turnP v, n + 8), by simp only; omega, ⟨⟨by show -1000000 ≤ -v.y ∧ -v.y ≤ 1000000; omega, hx⟩, hzt, hnn, by simp only; omega, hk⟩, (Wk.sub ⟨(by first | rfl | (simp only [List.length_map]; rfl) | simp [PX.get]), (by first | rfl | (simp only [List.length_map]; rfl) | simp [PX.get]), trivial⟩ ⟨(by first | rfl | (simp only [List.length_map]; rfl) | simp [PX.get]), trivial⟩)⟩
  ·have h2 : ¬ v.y ≤ 0 := of_decide_eq_false h2
   have hq0 : quadN v = 0 := by unfold quadN; rw [if_pos (by omega)]
   rw [hq0] at hk hn
   have hk : v = turnN (quadN v0) v0 := hk
   have hn : n = 8 * quadN v0 := by omega
   have htow : towF v0 = cntF v quarterL n - 1 := by unfold towF; rw [← hk, ← hn]
   rw [htow]
   conv=>whnf
   refine CallA_v (ch59) rfl rfl ?_
   conv=>whnf
   refine LoopA_i (T := tys) tysOk (by exact drawsB_spec mixed tysOk (by decide +kernel)) quarterL (fun i (g : Int) => ⟨[(1, .ptr 1 0), (2, .d (i64 g)), (21, .d (.agg quarterC)), (22, .d (i64 i))], [(1, .box (.dd v.cells))], st⟩)
    (fun i r g => cntF v quarterL n = cntF v r g ∧ 0 ≤ g ∧ g ≤ 24 + i) n (Wk.sub ⟨(by first | rfl | (simp only [List.length_map]; rfl) | simp [PX.get]), (by first | rfl | (simp only [List.length_map]; rfl) | simp [PX.get]), (by first | rfl | (simp only [List.length_map]; rfl) | simp [PX.get]), (by first | rfl | (simp only [List.length_map]; rfl) | simp [PX.get]), trivial⟩ ⟨(by first | rfl | (simp only [List.length_map]; rfl) | simp [PX.get]), trivial⟩) ⟨rfl, by omega, by omega⟩ ?_ ?_
   ·rintro i q r g hqi hi hr ⟨hg, hg0, hg1⟩
    rw [cntF] at hg
    have hi8 : i < 8 := hi
    have hqp : (quarterL[i]?).getD ⟨0, 0⟩ = q := by rw [hqi]; rfl
    have hqin : Pin 1000 q := hqp ▸ quarter_in hi8
    conv=>whnf
    refine brk_i (fun _ => ?_) (fun h => absurd h (by simp; omega))
    conv=>whnf
    refine brk_i (fun _ => ?_) (fun h2 => absurd h2 (by simp; omega))
    refine getQ hi8 rfl rfl ?_
    rw [hqp]
    conv=>whnf
    refine CallA_view (ds := [q.d, v.d]) (ch104 q v (hqin.mono (by omega)) (hp.mono (by omega))) rfl 1 rfl ?_
    conv=>whnf
    refine brk_i (fun h3 => ?_) (fun h3 => ?_)
    ·rw [if_pos (of_decide_eq_true h3)] at hg
     conv=>whnf
     refine arith_in (wrap_i64 (by (try dsimp only); omega)) ?_
     conv=>whnf
     conv=>whnf
     refine arith_in (wrap_i64 (by (try dsimp only); omega)) ?_
     conv=>whnf
     exact ⟨g + 1, ⟨hg, by omega, by omega⟩, (Wk.sub ⟨(by first | rfl | (simp only [List.length_map]; rfl) | simp [PX.get]), (by first | rfl | (simp only [List.length_map]; rfl) | simp [PX.get]), (by first | rfl | (simp only [List.length_map]; rfl) | simp [PX.get]), (by first | rfl | (simp only [List.length_map]; rfl) | simp [PX.get]), trivial⟩ ⟨(by first | rfl | (simp only [List.length_map]; rfl) | simp [PX.get]), trivial⟩)⟩
    ·rw [if_neg (of_decide_eq_false h3)] at hg
     conv=>whnf
     refine arith_in (wrap_i64 (by (try dsimp only); omega)) ?_
     conv=>whnf
     exact ⟨g, ⟨hg, by omega, by omega⟩, (Wk.sub ⟨(by first | rfl | (simp only [List.length_map]; rfl) | simp [PX.get]), (by first | rfl | (simp only [List.length_map]; rfl) | simp [PX.get]), (by first | rfl | (simp only [List.length_map]; rfl) | simp [PX.get]), (by first | rfl | (simp only [List.length_map]; rfl) | simp [PX.get]), trivial⟩ ⟨(by first | rfl | (simp only [List.length_map]; rfl) | simp [PX.get]), trivial⟩)⟩
   ·rintro g ⟨hg, hg0, hg1⟩
    have hql : quarterL.length = 8 := rfl
    rw [cntF] at hg
    rw [hg]
    conv=>whnf
    refine arith_in (wrap_i64 (by (try dsimp only); omega)) ?_
    conv=>whnf
    exact RetA_view 0 rfl ⟨⟨rfl, rfl⟩, rfl⟩
end Go.PX
namespace Go.PX
open Go.Proofs
def backN (l : List Paint) : Nat → List (Int × Paint)
 | 0 => []
 | k + 1 => (match l[k]? with
  | some p => [((k : Int), p)]
  | none => []) ++ backN l k
def backV (x : Int × Paint) : List V × Heap := ([.d (i64 x.1), .d (.agg x.2.cells)], [])
theorem ch109 (l : List Paint) : FnV Tryz.prog 109 [paintsD l] (.clo 127 [.ref [paintsD l]]) := by
 refine fnV_of mixed tysOk Tryz.func109 rfl (ft := ft109) 1 (by decide +kernel) (by rfl) fun {σ} Y st => ?_
 conv=>whnf
 exact RetA_view 1 rfl ⟨⟨rfl, rfl⟩, rfl⟩
theorem yields127 (l : List Paint) (hl : l.length < 1000000) : Yields Tryz.prog 127 [.ref [paintsD l]] ((backN l l.length).map backV) := by
 intro γ Y g0 Q hit
 refine fnC_of mixed tysOk Tryz.func127 rfl (ft := ft127) (args := [.yld, .d (.ref [paintsD l])]) (show fnB ft127 Tryz.f127 2 = true from by decide +kernel) ?_
 replace hit := hit.np
 generalize Y.np = Y at hit ⊢
 conv=>whnf
 refine arith_to ((l.length : Int) - 1) (by simp) (wrap_i64 (by omega)) ?_
 conv=>whnf
 refine LoopA_p (T := tys) tysOk (by exact drawsB_spec mixed tysOk (by decide +kernel)) (α := Nat × γ)
  (fun x => ⟨[(0, .yld), (1, .d (.ref [paintsD l])), (3, .d (i64 ((x.1 : Int) - 1)))], [], x.2⟩)
  (fun x => x.1 ≤ l.length ∧ iterate Y ((backN l x.1).map backV) x.2 Q) (fun x => x.1) (l.length, g0) (Wk.sub ⟨(by first | rfl | (simp only [List.length_map]; rfl) | simp [PX.get]), (by first | rfl | (simp only [List.length_map]; rfl) | simp [PX.get]), (by first | rfl | (simp only [List.length_map]; rfl) | simp [PX.get]), trivial⟩ trivial) ⟨Nat.le_refl _, hit⟩ ?_
 clear hit g0
 rintro ⟨k, g0⟩ ⟨hk, hit⟩
 simp only at hk hit
 conv=>whnf
 refine brk_i (fun h1 => ?_) (fun h1 => ?_)
 ·have h1 : 0 ≤ (k : Int) - 1 := of_decide_eq_true h1
  obtain ⟨k, rfl⟩ : ∃ m, k = m + 1 := ⟨k - 1, by omega⟩
  obtain ⟨p, hp⟩ : ∃ p, l[k]? = some p := ⟨l[k]'(by omega), by simp⟩
  rw [backN, hp, List.map_append] at hit
  have e1 : (((k + 1 : Nat) : Int) - 1) = (k : Int) := by omega
  conv=>whnf
  refine elemK_i p.cells ⟨h1, by
   show (l.map Paint.cells)[((((k + 1 : Nat) : Int) - 1)).toNat]? = some p.cells
   rw [e1, Int.toNat_natCast]; simp [hp]⟩ ?_
  conv=>whnf
  refine YldA_v (ds := [i64 k, .agg p.cells]) hit (congrArg (fun z => [V.d (i64 z), V.d (.agg p.cells)]) e1) rfl (fun s' hit' => ?_) (fun s' hq' => ?_)
  ·conv=>whnf
   refine arith_to (((k : Int) - 1)) (by (try dsimp only); omega) (wrap_i64 (by (try dsimp only); omega)) ?_
   conv=>whnf
   exact ⟨(k, s'), by simp only; omega, ⟨by simp only; omega, hit'⟩, (Wk.sub ⟨(by first | rfl | (simp only [List.length_map]; rfl) | simp [PX.get]), (by first | rfl | (simp only [List.length_map]; rfl) | simp [PX.get]), (by first | rfl | (simp only [List.length_map]; rfl) | simp [PX.get]), trivial⟩ trivial)⟩
  ·conv=>whnf
   exact RetA_view 0 rfl ⟨rfl, hq'⟩
 ·have h1 : ¬ 0 ≤ (k : Int) - 1 := of_decide_eq_false h1
  obtain rfl : k = 0 := by omega
  conv=>whnf
  exact RetA_view 0 rfl ⟨rfl, hit⟩
def zeroM : Mark := ⟨ByteArray.empty, ⟨0, 0⟩, []⟩
def marE (c : Cht) (day k : Int) : Int := if (checkX c).2.2 = 0 then (if inB day 0 40000 then (if inB k 0 ((c.marks.length : Int) - 1) then 0 else 4) else 7) else (checkX c).2.2
def marM (c : Cht) (day k : Int) : Mark := if marE c day k = 0 then (c.marks[k.toNat]?).getD zeroM else zeroM
def colB (day : Int) : List (Int × Paint) → Int
 | [] => 0
 | x :: r => if x.2.day ≤ day then x.2.colour else colB day r
def marC (c : Cht) (day k : Int) : Int := if marE c day k = 0 then colB day (backN (marM c day k).paints (marM c day k).paints.length) else 0
set_option maxHeartbeats 2000000 in
theorem ch76 (c : Cht) (day k : Int) : FnV Tryz.prog 76 [c.d, i64 day, i64 k] (.tup [(marM c day k).d, i64 (marC c day k), i64 (marE c day k)]) := by
 refine fnV_of mixed tysOk Tryz.func76 rfl (ft := ft76) 3 (by decide +kernel) (by rfl) fun {σ} Y st => ?_
 conv=>whnf
 refine CallA_v (ch20 c) rfl rfl ?_
 conv=>whnf
 by_cases h0 : (checkX c).2.2 = 0
 case neg =>
  have he : marE c day k = (checkX c).2.2 := by unfold marE; rw [if_neg h0]
  have hm : marM c day k = zeroM := by unfold marM; rw [he, if_neg h0]
  have hc : marC c day k = 0 := by unfold marC; rw [he, if_neg h0]
  rw [he, hm, hc]
  refine brk_i (fun _ => ?_) (fun h1 => absurd h1 (by simp [h0]))
  conv=>whnf
  exact RetA_viewR 0 rfl rfl ⟨⟨rfl, rfl⟩, rfl⟩
 have hR := checkX_ok h0
 have hml := hR.marks
 refine brk_i (fun h1 => absurd h1 (by simp [h0])) (fun _ => ?_)
 rw [h0]
 conv=>whnf
 refine CallA_view (fn51_1 0 40000 day) rfl 1 rfl ?_
 by_cases h1 : inB day 0 40000 = true
 case neg =>
  have he : marE c day k = 7 := by unfold marE; rw [if_pos h0, if_neg h1]
  have hm : marM c day k = zeroM := by unfold marM; rw [he]; rfl
  have hc : marC c day k = 0 := by unfold marC; rw [he]; rfl
  have h1 : inB day 0 40000 = false := by simpa using h1
  rw [he, hm, hc, h1]
  conv=>whnf
  exact RetA_viewR 0 rfl rfl ⟨⟨rfl, rfl⟩, rfl⟩
 rw [h1]
 conv=>whnf
 refine arith_to ((c.marks.length : Int) - 1) (by simp) (wrap_i64 (by omega)) ?_
 conv=>whnf
 refine CallA_view (fn51_1 0 ((c.marks.length : Int) - 1) k) rfl 1 rfl ?_
 by_cases h2 : inB k 0 ((c.marks.length : Int) - 1) = true
 case neg =>
  have he : marE c day k = 4 := by unfold marE; rw [if_pos h0, if_pos h1, if_neg h2]
  have hm : marM c day k = zeroM := by unfold marM; rw [he]; rfl
  have hc : marC c day k = 0 := by unfold marC; rw [he]; rfl
  have h2 : inB k 0 ((c.marks.length : Int) - 1) = false := by simpa using h2
  rw [he, hm, hc, h2]
  conv=>whnf
  exact RetA_viewR 0 rfl rfl ⟨⟨rfl, rfl⟩, rfl⟩
 have he : marE c day k = 0 := by unfold marE; rw [if_pos h0, if_pos h1, if_pos h2]
 have h2i := h2
 rw [inB_iff] at h2i
 obtain ⟨m, hm⟩ : ∃ m, c.marks[k.toNat]? = some m := ⟨c.marks[k.toNat]'(by omega), by simp⟩
 have hmm : marM c day k = m := by unfold marM; rw [if_pos he, hm]; rfl
 have hmc : marC c day k = colB day (backN m.paints m.paints.length) := by unfold marC; rw [if_pos he, hmm]
 have hpl : m.paints.length ≤ 4 := by
  have := (hR.mark m (List.mem_of_getElem? hm)).2
  unfold paintE at this
  split at this
  ·rename_i h3; rw [inB_iff] at h3; omega
  ·cases this
 rw [he, hmm, hmc, h2]
 conv=>whnf
 refine elemK_i m.cells ⟨h2i.1, by simp [hm]⟩ ?_
 conv=>whnf
 refine CallA_v (ch109 m.paints) rfl rfl ?_
 conv=>whnf
 refine RangeA_list tysOk (by exact drawsB_spec mixed tysOk (by decide +kernel)) (by exact drawsB_spec mixed tysOk (by decide +kernel)) rfl 1500000 1600000 [3, 4, 6, 7, 8, 24, 33] (yields127 m.paints (by omega))
  (fun (_ : Unit) => ([(1500000, .box (.dd c.cells)), (1500001, .box (.dd [i64 day])), (1500002, .box (.dd m.cells)), (1500003, .box (.dd [i64 0])), (1500004, .box (.dd [i64 0])), (1500005, .arr 1 (.dd [[i64 day]])), (1500006, .arr 1 (.dd [[i64 k]]))], st))
  (fun rest _ => colB day (backN m.paints m.paints.length) = colB day rest) () rfl rfl rfl rfl ?_ ?_
 ·rintro ⟨i, x⟩ rest _ hk Q hQ1 hQ2
  refine ⟨⟨rfl, rfl⟩, ?_⟩
  replace hk : colB day (backN m.paints m.paints.length) = _ := hk
  conv at hk => rhs; rw [colB]
  conv=>whnf
  refine brk_i (fun h3 => ?_) (fun h3 => ?_)
  ·rw [if_pos (of_decide_eq_true h3)] at hk
   conv=>whnf
   refine ⟨[(1500000, .box (.dd c.cells)), (1500001, .box (.dd [i64 day])), (1500002, .box (.dd m.cells)), (1500003, .box (.dd [i64 x.colour])), (1500004, .box (.dd [i64 0])), (1500005, .arr 1 (.dd [[i64 day]])), (1500006, .arr 1 (.dd [[i64 k]]))], st, (Wk.sub trivial ⟨(by first | rfl | (simp only [List.length_map]; rfl) | simp [PX.get]), (by first | rfl | (simp only [List.length_map]; rfl) | simp [PX.get]), (by first | rfl | (simp only [List.length_map]; rfl) | simp [PX.get]), (by first | rfl | (simp only [List.length_map]; rfl) | simp [PX.get]), (by first | rfl | (simp only [List.length_map]; rfl) | simp [PX.get]), (by first | rfl | (simp only [List.length_map]; rfl) | simp [PX.get]), (by first | rfl | (simp only [List.length_map]; rfl) | simp [PX.get]), trivial⟩), rfl, hQ2 _ _ _ ?_⟩
   conv=>whnf
   rw [hk]
   exact RetA_view 0 rfl ⟨⟨rfl, rfl⟩, rfl⟩
  ·rw [if_neg (of_decide_eq_false h3)] at hk
   conv=>whnf
   exact ⟨(), (Wk.sub trivial ⟨(by first | rfl | (simp only [List.length_map]; rfl) | simp [PX.get]), (by first | rfl | (simp only [List.length_map]; rfl) | simp [PX.get]), (by first | rfl | (simp only [List.length_map]; rfl) | simp [PX.get]), (by first | rfl | (simp only [List.length_map]; rfl) | simp [PX.get]), (by first | rfl | (simp only [List.length_map]; rfl) | simp [PX.get]), (by first | rfl | (simp only [List.length_map]; rfl) | simp [PX.get]), (by first | rfl | (simp only [List.length_map]; rfl) | simp [PX.get]), trivial⟩), rfl, hQ1 _ hk⟩
 ·rintro _ hk
  replace hk : colB day (backN m.paints m.paints.length) = _ := hk
  conv at hk => rhs; rw [colB]
  rw [hk]
  conv=>whnf
  exact RetA_view 0 rfl ⟨⟨rfl, rfl⟩, rfl⟩
end Go.PX
namespace Go.PX
open Go.Proofs
theorem ch30 (c : Cht) (day k : Int) : FnV Tryz.prog 30 [c.d, i64 day, i64 k] (.tup [i64 (marC c day k), i64 (marE c day k)]) := by
 refine fnV_of mixed tysOk Tryz.func30 rfl (ft := ft30) 3 (by decide +kernel) (by rfl) fun {σ} Y st => ?_
 conv=>whnf
 refine CallA_v (ch76 c day k) rfl rfl ?_
 conv=>whnf
 exact RetA_view 1 rfl ⟨⟨rfl, rfl⟩, rfl⟩
def stdE (c : Cht) (day k : Int) : Int := if marE c day k = 0 then (if marC c day k = 0 then 9 else 0) else marE c day k
theorem ch79 (c : Cht) (day k : Int) : FnV Tryz.prog 79 [c.d, i64 day, i64 k] (.tup [(marM c day k).d, i64 (stdE c day k)]) := by
 refine fnV_of mixed tysOk Tryz.func79 rfl (ft := ft79) 3 (by decide +kernel) (by rfl) fun {σ} Y st => ?_
 conv=>whnf
 refine CallA_v (ch76 c day k) rfl rfl ?_
 conv=>whnf
 by_cases h0 : marE c day k = 0
 case neg =>
  have he : stdE c day k = marE c day k := by unfold stdE; rw [if_neg h0]
  rw [he, decide_eq_false h0]
  conv=>whnf
  exact RetA_view 0 rfl ⟨⟨rfl, rfl⟩, rfl⟩
 have he : stdE c day k = if marC c day k = 0 then 9 else 0 := by unfold stdE; rw [if_pos h0]
 rw [he, decide_eq_true h0]
 conv=>whnf
 refine brk_i (fun h1 => ?_) (fun h1 => ?_)
 ·rw [if_pos (of_decide_eq_true h1)]
  conv=>whnf
  exact RetA_view 0 rfl ⟨⟨rfl, rfl⟩, rfl⟩
 ·rw [if_neg (of_decide_eq_false h1), h0]
  conv=>whnf
  exact RetA_view 0 rfl ⟨⟨rfl, rfl⟩, rfl⟩
theorem marM_ok {c : Cht} {day k : Int} (h : marE c day k = 0) : ChtR c ∧ marM c day k ∈ c.marks := by
 unfold marE at h
 split at h
 case isFalse => rename_i h1; exact absurd h h1
 rename_i h1
 split at h
 case isFalse => cases h
 rename_i h2
 split at h
 case isFalse => cases h
 rename_i h3
 have he : marE c day k = 0 := by unfold marE; rw [if_pos h1, if_pos h2, if_pos h3]
 rw [inB_iff] at h3
 obtain ⟨m, hm⟩ : ∃ m, c.marks[k.toNat]? = some m := ⟨c.marks[k.toNat]'(by omega), by simp⟩
 have : marM c day k = m := by unfold marM; rw [if_pos he, hm]; rfl
 rw [this]
 exact ⟨checkX_ok h1, List.mem_of_getElem? hm⟩
theorem stdE_mar {c : Cht} {day k : Int} (h : stdE c day k = 0) : marE c day k = 0 := by
 unfold stdE at h
 split at h
 ·assumption
 ·exact h
def sameP (a b : Pt) : Bool := decide (a.x = b.x) && (decide (a.y = b.y) && true)
def seenE (c : Cht) (day k : Int) (p : Pt) : Int :=
 if stdE c day k = 0 then (if withinB 30000 p then (if sameP (marM c day k).at' p then 8 else 0) else 7) else stdE c day k
def seenV (c : Cht) (day k : Int) (p : Pt) : Int := if seenE c day k p = 0 then towF ((marM c day k).at'.sub p) else 0
set_option maxHeartbeats 1000000 in
theorem ch32 (c : Cht) (day k : Int) (p : Pt) : FnV Tryz.prog 32 [c.d, i64 day, i64 k, p.d] (.tup [i64 (seenV c day k p), i64 (seenE c day k p)]) := by
 refine fnV_of mixed tysOk Tryz.func32 rfl (ft := ft32) 4 (by decide +kernel) (by rfl) fun {σ} Y st => ?_
 conv=>whnf
 refine CallA_v (ch79 c day k) rfl rfl ?_
 conv=>whnf
 by_cases h0 : stdE c day k = 0
 case neg =>
  have he : seenE c day k p = stdE c day k := by unfold seenE; rw [if_neg h0]
  have hv : seenV c day k p = 0 := by unfold seenV; rw [he, if_neg h0]
  rw [he, hv]
  refine brk_i (fun _ => ?_) (fun h1 => absurd h1 (by simp [h0]))
  conv=>whnf
  exact RetA_view 0 rfl ⟨⟨rfl, rfl⟩, rfl⟩
 obtain ⟨hR, hmem⟩ := marM_ok (stdE_mar h0)
 have hmp := (hR.mark _ hmem).1
 have he : seenE c day k p = if withinB 30000 p then (if sameP (marM c day k).at' p then 8 else 0) else 7 := by unfold seenE; rw [if_pos h0]
 refine brk_i (fun h1 => absurd h1 (by simp [h0])) (fun _ => ?_)
 conv=>whnf
 refine CallA_view (ds := [i64 30000, ptsD [p]]) (ch63 30000 [p] (by omega) (by simp)) rfl 1 rfl ?_
 have hfar : ([p].any fun p => !withinB 30000 p) = !withinB 30000 p := by simp
 rw [hfar]
 cases hw : withinB 30000 p with
 | false =>
  rw [hw, if_neg (by simp)] at he
  have hv : seenV c day k p = 0 := by unfold seenV; rw [he]; rfl
  rw [he, hv]
  conv=>whnf
  exact RetA_view 0 rfl ⟨⟨rfl, rfl⟩, rfl⟩
 | true =>
  rw [hw, if_pos rfl] at he
  have hp := within_iff.1 hw
  generalize hM : marM c day k = m at *
  cases hs : sameP m.at' p with
  | true =>
   rw [hs, if_pos rfl] at he
   have hv : seenV c day k p = 0 := by unfold seenV; rw [he]; rfl
   rw [he, hv]
   conv=>whnf
   refine brk_i (fun _ => ?_) (fun h => absurd (hs.symm.trans h) (by simp))
   conv=>whnf
   exact RetA_view 0 rfl ⟨⟨rfl, rfl⟩, rfl⟩
  | false =>
   rw [hs, if_neg (by simp)] at he
   have hv : seenV c day k p = towF (m.at'.sub p) := by unfold seenV; rw [he, hM]; rfl
   have hnz : NZ (m.at'.sub p) := by
    show m.at'.x - p.x ≠ 0 ∨ m.at'.y - p.y ≠ 0
    unfold sameP at hs
    simp at hs
    omega
   rw [he, hv]
   conv=>whnf
   refine brk_i (fun h => absurd (hs.symm.trans h) (by simp)) (fun _ => ?_)
   conv=>whnf
   refine CallA_view (ds := [p.d, m.at'.d]) (ch81 p m.at' (hp.mono (by omega)) (hmp.mono (by omega))) rfl 1 rfl ?_
   conv=>whnf
   refine CallA_view (ds := [(m.at'.sub p).d]) (ch80 (m.at'.sub p) ((hmp.sub hp).mono (by omega)) hnz) rfl 1 rfl ?_
   conv=>whnf
   exact RetA_view 0 rfl ⟨⟨rfl, rfl⟩, rfl⟩
end Go.PX
namespace Go.PX
open Go.Proofs
def bldO (i k : Nat) (acc : ByteArray) : Heap := if acc.size = 0 then bldN i else bldU i k acc
def markW : ByteArray := ⟨#[109, 97, 114, 107]⟩
def sandW : ByteArray := ⟨#[115, 97, 110, 100]⟩
def paintsN (l : List Paint) : List Int := l.flatMap fun p => [p.day, p.colour]
def ptsN (l : List Pt) : List Int := l.flatMap fun p => [p.x, p.y]
def markN (m : Mark) : List Int := [m.at'.x, m.at'.y] ++ paintsN m.paints
def sandN (s : Sand) : List Int := [s.moves.x.lo, s.moves.x.hi, s.moves.y.lo, s.moves.y.hi] ++ ptsN s.corners
def markT (m : Mark) : ByteArray := lineB markW m.name (markN m)
def sandT (s : Sand) : ByteArray := lineB sandW s.name (sandN s)
def catB : List ByteArray → ByteArray
 | [] => .empty
 | x :: r => x ++ catB r
def chtT (c : Cht) : ByteArray := catB (c.marks.map markT) ++ catB (c.sands.map sandT)
structure NmR (c : Cht) : Prop where
 mark : ∀ m ∈ c.marks, m.name.size ≤ 20
 sand : ∀ s ∈ c.sands, s.name.size ≤ 20
theorem lineB_size (w n : ByteArray) (l : List Int) : (lineB w n l).size ≤ w.size + n.size + 2 + 21 * l.length ∧ 0 < (lineB w n l).size := by
 have := numsB_size l
 have e : (lineB w n l).size = w.size + 1 + n.size + (numsB l).size + 1 := by simp only [lineB, headB, ba_size]; rfl
 omega
theorem catB_size : ∀ (l : List ByteArray) (k : Nat), (∀ x ∈ l, x.size ≤ k) → (catB l).size ≤ k * l.length
 | [], _, _ => Nat.zero_le _
 | x :: r, k, h => by
  have h1 := catB_size r k fun y hy => h y (List.mem_cons_of_mem _ hy)
  have h2 := h x (List.mem_cons_self ..)
  rw [catB, ba_size, List.length_cons, Nat.mul_succ]
  omega
theorem paintsN_len (l : List Paint) : (paintsN l).length = 2 * l.length := by
 induction l with
 | nil => rfl
 | cons p r ih => simp only [paintsN, List.flatMap_cons, List.length_append, List.length_cons, List.length_nil] at ih ⊢; omega
theorem ptsN_len (l : List Pt) : (ptsN l).length = 2 * l.length := by
 induction l with
 | nil => rfl
 | cons p r ih => simp only [ptsN, List.flatMap_cons, List.length_append, List.length_cons, List.length_nil] at ih ⊢; omega
theorem paintL_ok : ∀ {l : List Paint} {last : Int}, paintL last l = 0 → ∀ p ∈ l, 0 ≤ p.day ∧ p.day ≤ 40000 ∧ 0 ≤ p.colour ∧ p.colour ≤ 4
 | [], _, _, p, hp => by cases hp
 | x :: r, last, h, p, hp => by
  rw [paintL] at h
  split at h
  case isFalse => cases h
  rename_i h1
  split at h
  ·cases h
  rw [Bool.and_eq_true, inB_iff, inB_iff] at h1
  rcases List.mem_cons.1 hp with rfl | hp
  ·omega
  ·exact paintL_ok h p hp
theorem paintE_ok {l : List Paint} (h : paintE l = 0) : l.length ≤ 4 ∧ ∀ p ∈ l, 0 ≤ p.day ∧ p.day ≤ 40000 ∧ 0 ≤ p.colour ∧ p.colour ≤ 4 := by
 unfold paintE at h
 split at h
 case isFalse => cases h
 rename_i h1
 rw [inB_iff] at h1
 exact ⟨by omega, paintL_ok h⟩
def intsC (l : List Int) : List (List D) := l.map fun n => [i64 n]
theorem chtT_size {c : Cht} (hR : ChtR c) (hN : NmR c) : (chtT c).size ≤ 12000 := by
 have h1 := catB_size (c.marks.map markT) 1000 (by
  intro x hx
  obtain ⟨y, hy, rfl⟩ := List.mem_map.1 hx
  have h2 := (lineB_size markW y.name (markN y)).1
  have h3 := (paintE_ok (hR.mark y hy).2).1
  have h4 := hN.mark y hy
  have h5 : (markN y).length = 2 + 2 * y.paints.length := by simp [markN, paintsN_len]; omega
  have : markW.size = 4 := rfl
  show (lineB markW y.name (markN y)).size ≤ _
  omega)
 have h2 := catB_size (c.sands.map sandT) 1000 (by
  intro x hx
  obtain ⟨y, hy, rfl⟩ := List.mem_map.1 hx
  have h2 := (lineB_size sandW y.name (sandN y)).1
  have h3 := (hR.sand y hy).len
  have h4 := hN.sand y hy
  have h5 : (sandN y).length = 4 + 2 * y.corners.length := by simp [sandN, ptsN_len]; omega
  have : sandW.size = 4 := rfl
  show (lineB sandW y.name (sandN y)).size ≤ _
  omega)
 have := hR.marks
 have := hR.sands
 rw [List.length_map] at h1 h2
 rw [chtT, ba_size]
 omega
set_option maxHeartbeats 4000000 in
theorem ch86 (c : Cht) (hR : ChtR c) (hN : NmR c) : FnV Tryz.prog 86 [c.d] (.str (chtT c)) := by
 refine fnV_of mixed tysOk Tryz.func86 rfl (ft := ft86) 1 (by decide +kernel) (by rfl) fun {σ} Y st => ?_
 conv=>whnf
 refine LoopA_i (T := tys) tysOk (by exact drawsB_spec mixed tysOk (by decide +kernel)) c.marks (fun i (acc : ByteArray) => ⟨[(1, .ptr 1 0), (3, .ptr 3 0), (4, .clo 110 [.ptr 3 0]), (17, .d (marksD c.marks)), (18, .d (i64 c.marks.length)), (19, .d (i64 i))], (1, .box (.dd c.cells)) :: bldO 3 900000 acc, st⟩) (fun i r acc => acc ++ catB (r.map markT) = catB (c.marks.map markT)) .empty ?wk ?j0 ?round ?fin
 case wk => exact Wk.sub ⟨rfl, rfl, rfl, rfl, congrArg (fun z : Nat => some (V.d (i64 z))) (by simp), rfl, trivial⟩ ⟨rfl, rfl, trivial⟩
 case j0 => simp
 ·rintro i m r acc hmi hi hir hacc
  have hmm := List.mem_of_getElem? hmi
  obtain ⟨hp, hpt⟩ := hR.mark m hmm
  obtain ⟨hpl, hpi⟩ := paintE_ok hpt
  have hmn : (markN m).length = 2 + 2 * m.paints.length := by simp [markN, paintsN_len]; omega
  have h18 : ∀ n ∈ markN m, In18 n := by
   intro n hn
   simp only [markN, paintsN, List.mem_append, List.mem_cons, List.not_mem_nil, or_false, List.mem_flatMap] at hn
   rcases hn with (rfl | rfl) | ⟨p, hpm, rfl | rfl⟩
   ·have := hp.x; unfold In18; omega
   ·have := hp.y; unfold In18; omega
   ·have := hpi p hpm; unfold In18; omega
   ·have := hpi p hpm; unfold In18; omega
  have hnm := hN.mark m hmm
  have hml := hR.marks
  have hasz : acc.size ≤ 10000 := by
   have h1 := catB_size (c.marks.map markT) 1000 (by
    intro x hx
    obtain ⟨y, hy, rfl⟩ := List.mem_map.1 hx
    have h2 := (lineB_size markW y.name (markN y)).1
    have h3 := (paintE_ok (hR.mark y hy).2).1
    have h4 := hN.mark y hy
    have h5 : (markN y).length = 2 + 2 * y.paints.length := by simp [markN, paintsN_len]; omega
    have : markW.size = 4 := rfl
    show (lineB markW y.name (markN y)).size ≤ _
    omega)
   have h2 := hR.marks
   have h3 := congrArg ByteArray.size hacc
   rw [ba_size] at h3
   rw [List.length_map] at h1
   omega
  by_cases ha : acc.size = 0
  ·have hb : bldO 3 900000 acc = bldN 3 := if_pos ha
   rw [hb]
   have ha0 : acc = .empty := by
    cases acc with
    | mk d => 
     have : d = #[] := Array.eq_empty_of_size_eq_zero ha
     rw [this]; rfl
   conv=>whnf
   refine brk_i (fun _ => ?_) (fun h1 => absurd h1 (by simp; omega))
   conv=>whnf
   refine elemK_nat hmi ?_
   conv=>whnf
   refine LoopA_i (T := tys) tysOk (by exact drawsB_spec mixed tysOk (by decide +kernel)) m.paints (fun j (ns : List Int) => ⟨[(1, .ptr 1 0), (3, .ptr 3 0), (4, .clo 110 [.ptr 3 0]), (17, .d (marksD c.marks)), (18, .d (i64 c.marks.length)), (19, .d (i64 i)), (6, .ptr 6 0), (7, .sl 900001 1 0 ns.length), (31, .d (paintsD m.paints)), (32, .d (i64 m.paints.length)), (33, .d (i64 j))], (1, .box (.dd c.cells)) :: (6, .box (.dd m.cells)) :: (900001, .arr 1 (.dd (intsC ns))) :: bldN 3, st⟩) (fun j rr ns => ns ++ paintsN rr = markN m) [m.at'.x, m.at'.y] ?_ rfl ?_ ?_
   ·exact (Wk.move 29 900001 rfl rfl).trans (Wk.sub ⟨rfl, rfl, rfl, rfl, rfl, rfl, rfl, rfl, rfl, congrArg (fun z : Nat => some (V.d (i64 z))) (by simp), rfl, trivial⟩ ⟨rfl, rfl, rfl, ⟨rfl, trivial⟩⟩)
   ·rintro j x rr ns hxj hj hjr hns
    have hnl : ns.length + 2 ≤ (markN m).length := by rw [← hns]; simp [paintsN]
    conv=>whnf
    refine brk_i (fun _ => ?_) (fun h1 => absurd h1 (by simp; omega))
    conv=>whnf
    refine elemK_nat hxj ?_
    conv=>whnf
    refine ownK_whole rfl ?_
    conv=>whnf
    refine ownK_whole (by simp [Els.len, intsC]) ?_
    conv=>whnf
    refine chk_i (decide_eq_true (by show ((intsC ns).length + 2) * 8 ≤ _; simp only [intsC, List.length_map]; omega)) ?_
    conv=>whnf
    refine arith_in (wrap_i64 (by (try dsimp only); omega)) ?_
    conv=>whnf
    refine ⟨ns ++ [x.day, x.colour], by rw [← hns]; simp [paintsN], (Wk.move 43 900001 rfl rfl).trans (Wk.sub ⟨rfl, rfl, rfl, rfl, rfl, rfl, rfl, congrArg (fun z : Nat => some (V.sl 900001 1 0 z)) (by simp [Els.len, intsC]), rfl, rfl, rfl, trivial⟩ ⟨rfl, rfl, congrArg (fun z => some (Obj.arr 1 (.dd z))) (by simp [intsC]), ⟨rfl, trivial⟩⟩)⟩
   ·rintro ns hns
    have hns : ns = markN m := by rw [← hns]; simp [paintsN]
    subst hns
    conv=>whnf
    refine brk_i (fun h1 => absurd h1 (by simp)) (fun _ => ?_)
    conv=>whnf
    refine CallA_frzP 1 [900001] (args' := [.d (.str markW), .d (.str m.name), .d (intsD (markN m)), .ptr 3 0]) (by
     show [_, _, repl _ (.sl 900001 1 0 (markN m).length), _] = _
     rw [repl_sl (d := intsD (markN m)) (viewV_sl rfl (by simp [intsC]))]; rfl) rfl ?_
    refine CallA_fn (ch110_new markW m.name (markN m) h18 (by omega) (by have := (lineB_size markW m.name (markN m)).1; have : markW.size = 4 := rfl; omega)) [3] rfl ⟨_, _, rfl, rfl, rfl⟩ rfl ?_
    conv=>whnf
    refine arith_in (wrap_i64 (by (try dsimp only); omega)) ?_
    conv=>whnf
    have hbo : bldO 3 900000 (acc ++ markT m) = bldU 3 900000 (markT m) := by
     have h2 : 0 < (markT m).size := (lineB_size markW m.name (markN m)).2
     rw [(show acc ++ markT m = markT m from by rw [ha0]; simp)]
     refine if_neg ?_
     try rw [ba_size]
     omega
    refine ⟨acc ++ markT m, by rw [← hacc, List.map_cons, catB, ba_assoc], ?_⟩
    rw [hbo]
    exact (Wk.move 103136 900000 rfl rfl).trans (Wk.sub ⟨rfl, rfl, rfl, rfl, rfl, rfl, trivial⟩ ⟨rfl, rfl, rfl, trivial⟩)
  ·have hb : bldO 3 900000 acc = bldU 3 900000 acc := if_neg ha
   rw [hb]
   conv=>whnf
   refine brk_i (fun _ => ?_) (fun h1 => absurd h1 (by simp; omega))
   conv=>whnf
   refine elemK_nat hmi ?_
   conv=>whnf
   refine LoopA_i (T := tys) tysOk (by exact drawsB_spec mixed tysOk (by decide +kernel)) m.paints (fun j (ns : List Int) => ⟨[(1, .ptr 1 0), (3, .ptr 3 0), (4, .clo 110 [.ptr 3 0]), (17, .d (marksD c.marks)), (18, .d (i64 c.marks.length)), (19, .d (i64 i)), (6, .ptr 6 0), (7, .sl 900001 1 0 ns.length), (31, .d (paintsD m.paints)), (32, .d (i64 m.paints.length)), (33, .d (i64 j))], (1, .box (.dd c.cells)) :: (6, .box (.dd m.cells)) :: (900001, .arr 1 (.dd (intsC ns))) :: bldU 3 900000 acc, st⟩) (fun j rr ns => ns ++ paintsN rr = markN m) [m.at'.x, m.at'.y] ?_ rfl ?_ ?_
   ·exact (Wk.move 29 900001 rfl rfl).trans (Wk.sub ⟨rfl, rfl, rfl, rfl, rfl, rfl, rfl, rfl, rfl, congrArg (fun z : Nat => some (V.d (i64 z))) (by simp), rfl, trivial⟩ ⟨rfl, rfl, rfl, ⟨rfl, rfl, trivial⟩⟩)
   ·rintro j x rr ns hxj hj hjr hns
    have hnl : ns.length + 2 ≤ (markN m).length := by rw [← hns]; simp [paintsN]
    conv=>whnf
    refine brk_i (fun _ => ?_) (fun h1 => absurd h1 (by simp; omega))
    conv=>whnf
    refine elemK_nat hxj ?_
    conv=>whnf
    refine ownK_whole rfl ?_
    conv=>whnf
    refine ownK_whole (by simp [Els.len, intsC]) ?_
    conv=>whnf
    refine chk_i (decide_eq_true (by show ((intsC ns).length + 2) * 8 ≤ _; simp only [intsC, List.length_map]; omega)) ?_
    conv=>whnf
    refine arith_in (wrap_i64 (by (try dsimp only); omega)) ?_
    conv=>whnf
    refine ⟨ns ++ [x.day, x.colour], by rw [← hns]; simp [paintsN], (Wk.move 43 900001 rfl rfl).trans (Wk.sub ⟨rfl, rfl, rfl, rfl, rfl, rfl, rfl, congrArg (fun z : Nat => some (V.sl 900001 1 0 z)) (by simp [Els.len, intsC]), rfl, rfl, rfl, trivial⟩ ⟨rfl, rfl, congrArg (fun z => some (Obj.arr 1 (.dd z))) (by simp [intsC]), ⟨rfl, rfl, trivial⟩⟩)⟩
   ·rintro ns hns
    have hns : ns = markN m := by rw [← hns]; simp [paintsN]
    subst hns
    conv=>whnf
    refine brk_i (fun h1 => absurd h1 (by simp)) (fun _ => ?_)
    conv=>whnf
    refine CallA_frzP 1 [900001] (args' := [.d (.str markW), .d (.str m.name), .d (intsD (markN m)), .ptr 3 0]) (by
     show [_, _, repl _ (.sl 900001 1 0 (markN m).length), _] = _
     rw [repl_sl (d := intsD (markN m)) (viewV_sl rfl (by simp [intsC]))]; rfl) rfl ?_
    refine CallA_fn (ch110 acc markW m.name (markN m) (by omega) h18 (by omega) (by have := (lineB_size markW m.name (markN m)).1; have : markW.size = 4 := rfl; omega)) [3, 900000] rfl ⟨_, _, rfl, rfl, _, _, rfl, rfl, rfl⟩ rfl ?_
    conv=>whnf
    refine arith_in (wrap_i64 (by (try dsimp only); omega)) ?_
    conv=>whnf
    have hbo : bldO 3 900000 (acc ++ markT m) = bldU 3 900000 (acc ++ markT m) := by
     have h2 : 0 < (markT m).size := (lineB_size markW m.name (markN m)).2
     rw [(show acc ++ markT m = acc ++ markT m from rfl)]
     refine if_neg ?_
     try rw [ba_size]
     omega
    refine ⟨acc ++ markT m, by rw [← hacc, List.map_cons, catB, ba_assoc], ?_⟩
    rw [hbo]
    exact (Wk.move 103136 900000 rfl rfl).trans (Wk.sub ⟨rfl, rfl, rfl, rfl, rfl, rfl, trivial⟩ ⟨rfl, rfl, rfl, trivial⟩)
 ·rintro acc0 hacc0
  rw [List.map_nil, catB, ba_nil] at hacc0
  conv=>whnf
  refine brk_i (fun h1 => absurd h1 (by simp)) (fun _ => ?_)
  conv=>whnf
  refine LoopA_i (T := tys) tysOk (by exact drawsB_spec mixed tysOk (by decide +kernel)) c.sands (fun i (acc : ByteArray) => ⟨[(3, .ptr 3 0), (4, .clo 110 [.ptr 3 0]), (52, .d (sandsD c.sands)), (53, .d (i64 c.sands.length)), (54, .d (i64 i))], bldO 3 900000 acc, st⟩) (fun i r acc => acc ++ catB (r.map sandT) = chtT c) acc0 ?_ ?_ ?_ ?_
  ·exact Wk.sub ⟨rfl, rfl, rfl, congrArg (fun z : Nat => some (V.d (i64 z))) (by simp), rfl, trivial⟩ (by by_cases ha : acc0.size = 0 <;> simp only [bldO, ha, if_true, if_false] <;> first | exact ⟨rfl, trivial⟩ | exact ⟨rfl, rfl, trivial⟩)
  ·rw [hacc0]; rfl
  ·rintro i m r acc hmi hi hir hacc
   have hmm := List.mem_of_getElem? hmi
   have hS := hR.sand m hmm
   have hpl := hS.len.2
   have hmn : (sandN m).length = 4 + 2 * m.corners.length := by simp [sandN, ptsN_len]; omega
   have h18 : ∀ n ∈ sandN m, In18 n := by
    intro n hn
    simp only [sandN, ptsN, List.mem_append, List.mem_cons, List.not_mem_nil, or_false, List.mem_flatMap] at hn
    have hx := hS.x
    have hy := hS.y
    rcases hn with (rfl | rfl | rfl | rfl) | ⟨p, hpm, rfl | rfl⟩
    ·unfold In18; omega
    ·unfold In18; omega
    ·unfold In18; omega
    ·unfold In18; omega
    ·have := (hS.pin p hpm).x; unfold In18; omega
    ·have := (hS.pin p hpm).y; unfold In18; omega
   have hnm := hN.sand m hmm
   have hml := hR.sands
   have hasz : acc.size ≤ 20000 := by
    have h3 := congrArg ByteArray.size hacc
    rw [ba_size] at h3
    have := chtT_size hR hN
    omega
   by_cases ha : acc.size = 0
   ·have hb : bldO 3 900000 acc = bldN 3 := if_pos ha
    rw [hb]
    have ha0 : acc = .empty := by
     cases acc with
     | mk d => 
      have : d = #[] := Array.eq_empty_of_size_eq_zero ha
      rw [this]; rfl
    conv=>whnf
    refine brk_i (fun _ => ?_) (fun h1 => absurd h1 (by simp; omega))
    conv=>whnf
    refine elemK_nat hmi ?_
    conv=>whnf
    refine LoopA_i (T := tys) tysOk (by exact drawsB_spec mixed tysOk (by decide +kernel)) m.corners (fun j (ns : List Int) => ⟨[(3, .ptr 3 0), (4, .clo 110 [.ptr 3 0]), (52, .d (sandsD c.sands)), (53, .d (i64 c.sands.length)), (54, .d (i64 i)), (11, .ptr 11 0), (12, .sl 900001 1 0 ns.length), (76, .d (ptsD m.corners)), (77, .d (i64 m.corners.length)), (78, .d (i64 j))], (11, .box (.dd m.cells)) :: (900001, .arr 1 (.dd (intsC ns))) :: bldN 3, st⟩) (fun j rr ns => ns ++ ptsN rr = sandN m) [m.moves.x.lo, m.moves.x.hi, m.moves.y.lo, m.moves.y.hi] ?_ rfl ?_ ?_
    ·exact (Wk.move 74 900001 rfl rfl).trans (Wk.sub ⟨rfl, rfl, rfl, rfl, rfl, rfl, rfl, rfl, congrArg (fun z : Nat => some (V.d (i64 z))) (by simp), rfl, trivial⟩ ⟨rfl, rfl, ⟨rfl, trivial⟩⟩)
    ·rintro j x rr ns hxj hj hjr hns
     have hnl : ns.length + 2 ≤ (sandN m).length := by rw [← hns]; simp [ptsN]
     conv=>whnf
     refine brk_i (fun _ => ?_) (fun h1 => absurd h1 (by simp; omega))
     conv=>whnf
     refine elemK_nat hxj ?_
     conv=>whnf
     refine ownK_whole rfl ?_
     conv=>whnf
     refine ownK_whole (by simp [Els.len, intsC]) ?_
     conv=>whnf
     refine chk_i (decide_eq_true (by show ((intsC ns).length + 2) * 8 ≤ _; simp only [intsC, List.length_map]; omega)) ?_
     conv=>whnf
     refine arith_in (wrap_i64 (by (try dsimp only); omega)) ?_
     conv=>whnf
     refine ⟨ns ++ [x.x, x.y], by rw [← hns]; simp [ptsN], (Wk.move 88 900001 rfl rfl).trans (Wk.sub ⟨rfl, rfl, rfl, rfl, rfl, rfl, congrArg (fun z : Nat => some (V.sl 900001 1 0 z)) (by simp [Els.len, intsC]), rfl, rfl, rfl, trivial⟩ ⟨rfl, congrArg (fun z => some (Obj.arr 1 (.dd z))) (by simp [intsC]), ⟨rfl, trivial⟩⟩)⟩
    ·rintro ns hns
     have hns : ns = sandN m := by rw [← hns]; simp [ptsN]
     subst hns
     conv=>whnf
     refine brk_i (fun h1 => absurd h1 (by simp)) (fun _ => ?_)
     conv=>whnf
     refine CallA_frzP 1 [900001] (args' := [.d (.str sandW), .d (.str m.name), .d (intsD (sandN m)), .ptr 3 0]) (by
      show [_, _, repl _ (.sl 900001 1 0 (sandN m).length), _] = _
      rw [repl_sl (d := intsD (sandN m)) (viewV_sl rfl (by simp [intsC]))]; rfl) rfl ?_
     refine CallA_fn (ch110_new sandW m.name (sandN m) h18 (by omega) (by have := (lineB_size sandW m.name (sandN m)).1; have : sandW.size = 4 := rfl; omega)) [3] rfl ⟨_, _, rfl, rfl, rfl⟩ rfl ?_
     conv=>whnf
     refine arith_in (wrap_i64 (by (try dsimp only); omega)) ?_
     conv=>whnf
     have hbo : bldO 3 900000 (acc ++ sandT m) = bldU 3 900000 (sandT m) := by
      have h2 : 0 < (sandT m).size := (lineB_size sandW m.name (sandN m)).2
      rw [(show acc ++ sandT m = sandT m from by rw [ha0]; simp)]
      refine if_neg ?_
      try rw [ba_size]
      omega
     refine ⟨acc ++ sandT m, by rw [← hacc, List.map_cons, catB, ba_assoc], ?_⟩
     rw [hbo]
     exact (Wk.move 106016 900000 rfl rfl).trans (Wk.sub ⟨rfl, rfl, rfl, rfl, rfl, trivial⟩ ⟨rfl, rfl, trivial⟩)
   ·have hb : bldO 3 900000 acc = bldU 3 900000 acc := if_neg ha
    rw [hb]
    conv=>whnf
    refine brk_i (fun _ => ?_) (fun h1 => absurd h1 (by simp; omega))
    conv=>whnf
    refine elemK_nat hmi ?_
    conv=>whnf
    refine LoopA_i (T := tys) tysOk (by exact drawsB_spec mixed tysOk (by decide +kernel)) m.corners (fun j (ns : List Int) => ⟨[(3, .ptr 3 0), (4, .clo 110 [.ptr 3 0]), (52, .d (sandsD c.sands)), (53, .d (i64 c.sands.length)), (54, .d (i64 i)), (11, .ptr 11 0), (12, .sl 900001 1 0 ns.length), (76, .d (ptsD m.corners)), (77, .d (i64 m.corners.length)), (78, .d (i64 j))], (11, .box (.dd m.cells)) :: (900001, .arr 1 (.dd (intsC ns))) :: bldU 3 900000 acc, st⟩) (fun j rr ns => ns ++ ptsN rr = sandN m) [m.moves.x.lo, m.moves.x.hi, m.moves.y.lo, m.moves.y.hi] ?_ rfl ?_ ?_
    ·exact (Wk.move 74 900001 rfl rfl).trans (Wk.sub ⟨rfl, rfl, rfl, rfl, rfl, rfl, rfl, rfl, congrArg (fun z : Nat => some (V.d (i64 z))) (by simp), rfl, trivial⟩ ⟨rfl, rfl, ⟨rfl, rfl, trivial⟩⟩)
    ·rintro j x rr ns hxj hj hjr hns
     have hnl : ns.length + 2 ≤ (sandN m).length := by rw [← hns]; simp [ptsN]
     conv=>whnf
     refine brk_i (fun _ => ?_) (fun h1 => absurd h1 (by simp; omega))
     conv=>whnf
     refine elemK_nat hxj ?_
     conv=>whnf
     refine ownK_whole rfl ?_
     conv=>whnf
     refine ownK_whole (by simp [Els.len, intsC]) ?_
     conv=>whnf
     refine chk_i (decide_eq_true (by show ((intsC ns).length + 2) * 8 ≤ _; simp only [intsC, List.length_map]; omega)) ?_
     conv=>whnf
     refine arith_in (wrap_i64 (by (try dsimp only); omega)) ?_
     conv=>whnf
     refine ⟨ns ++ [x.x, x.y], by rw [← hns]; simp [ptsN], (Wk.move 88 900001 rfl rfl).trans (Wk.sub ⟨rfl, rfl, rfl, rfl, rfl, rfl, congrArg (fun z : Nat => some (V.sl 900001 1 0 z)) (by simp [Els.len, intsC]), rfl, rfl, rfl, trivial⟩ ⟨rfl, congrArg (fun z => some (Obj.arr 1 (.dd z))) (by simp [intsC]), ⟨rfl, rfl, trivial⟩⟩)⟩
    ·rintro ns hns
     have hns : ns = sandN m := by rw [← hns]; simp [ptsN]
     subst hns
     conv=>whnf
     refine brk_i (fun h1 => absurd h1 (by simp)) (fun _ => ?_)
     conv=>whnf
     refine CallA_frzP 1 [900001] (args' := [.d (.str sandW), .d (.str m.name), .d (intsD (sandN m)), .ptr 3 0]) (by
      show [_, _, repl _ (.sl 900001 1 0 (sandN m).length), _] = _
      rw [repl_sl (d := intsD (sandN m)) (viewV_sl rfl (by simp [intsC]))]; rfl) rfl ?_
     refine CallA_fn (ch110 acc sandW m.name (sandN m) (by omega) h18 (by omega) (by have := (lineB_size sandW m.name (sandN m)).1; have : sandW.size = 4 := rfl; omega)) [3, 900000] rfl ⟨_, _, rfl, rfl, _, _, rfl, rfl, rfl⟩ rfl ?_
     conv=>whnf
     refine arith_in (wrap_i64 (by (try dsimp only); omega)) ?_
     conv=>whnf
     have hbo : bldO 3 900000 (acc ++ sandT m) = bldU 3 900000 (acc ++ sandT m) := by
      have h2 : 0 < (sandT m).size := (lineB_size sandW m.name (sandN m)).2
      rw [(show acc ++ sandT m = acc ++ sandT m from rfl)]
      refine if_neg ?_
      try rw [ba_size]
      omega
     refine ⟨acc ++ sandT m, by rw [← hacc, List.map_cons, catB, ba_assoc], ?_⟩
     rw [hbo]
     exact (Wk.move 106016 900000 rfl rfl).trans (Wk.sub ⟨rfl, rfl, rfl, rfl, rfl, trivial⟩ ⟨rfl, rfl, trivial⟩)
  ·rintro acc hacc
   rw [List.map_nil, catB, ba_nil] at hacc
   subst hacc
   conv=>whnf
   refine brk_i (fun h1 => absurd h1 (by simp)) (fun _ => ?_)
   conv=>whnf
   have hcs := chtT_size hR hN
   by_cases ha : (chtT c).size = 0
   ·have hb : bldO 3 900000 (chtT c) = bldN 3 := if_pos ha
    have hc0 : chtT c = .empty := by
     generalize chtT c = x at ha
     cases x with
     | mk d =>
      have : d = #[] := Array.eq_empty_of_size_eq_zero ha
      rw [this]; rfl
    rw [hb, hc0]
    refine CallA_fn ch114_new [3] rfl ⟨_, _, rfl, rfl, rfl⟩ rfl ?_
    conv=>whnf
    exact RetA_view 0 rfl ⟨⟨rfl, rfl⟩, rfl⟩
   ·have hb : bldO 3 900000 (chtT c) = bldU 3 900000 (chtT c) := if_neg ha
    rw [hb]
    refine CallA_fn (ch114 (chtT c) (by omega) (by omega)) [3, 900000] rfl ⟨_, _, rfl, rfl, _, _, rfl, rfl, rfl⟩ rfl ?_
    conv=>whnf
    exact RetA_view 0 rfl ⟨⟨rfl, rfl⟩, rfl⟩
end Go.PX
namespace Go.PX
open Go.Proofs
theorem nameF_size {s : ByteArray} (h : nameF s = true) : s.size ≤ 14 := by
 unfold nameF at h
 rw [Bool.and_eq_true, inB_iff] at h
 omega
theorem freshE_name {ns : Nms} {n : ByteArray} (h : freshE ns n = 0) : nameF n = true := by
 unfold freshE at h
 split at h
 ·rename_i h1; exact h1
 ·cases h
theorem marksL_names : ∀ {l : List Mark} {ns ns' : Nms} {i : Int}, marksL ns i l = .inr ns' → ∀ m ∈ l, nameF m.name = true
 | [], _, _, _, _, m, hm => by cases hm
 | x :: r, ns, ns', i, h, m, hm => by
  rw [marksL] at h
  split at h
  case isFalse => cases h
  rename_i h1
  rcases List.mem_cons.1 hm with rfl | hm
  ·unfold markE at h1
   split at h1
   ·rename_i h2; exact freshE_name h2
   ·rename_i h2; exact absurd h1 h2
  ·exact marksL_names h m hm
theorem sandsL_names : ∀ {l : List Sand} {ns : Nms} {i : Int}, (sandsL ns i l).2.2 = 0 → ∀ s ∈ l, nameF s.name = true
 | [], _, _, _, s, hs => by cases hs
 | x :: r, ns, i, h, s, hs => by
  rw [sandsL] at h
  split at h
  case isFalse => rename_i h1; exact absurd h h1
  rename_i h1
  rcases List.mem_cons.1 hs with rfl | hs
  ·unfold sandE' at h1
   split at h1
   ·rename_i h2; exact freshE_name h2
   ·rename_i h2; exact absurd h1 h2
  ·exact sandsL_names h s hs
structure NamesR (c : Cht) : Prop where
 mark : ∀ m ∈ c.marks, nameF m.name = true
 sand : ∀ s ∈ c.sands, nameF s.name = true
theorem checkX_names {c : Cht} (h : (checkX c).2.2 = 0) : NamesR c := by
 unfold checkX at h
 split at h
 ·cases h
 split at h
 ·rename_i i e he
  exact absurd h (marksL_bad he)
 ·rename_i ns hns
  split at h
  ·cases h
  exact ⟨marksL_names hns, sandsL_names h⟩
theorem NamesR.nm {c : Cht} (h : NamesR c) : NmR c := ⟨fun m hm => Nat.le_trans (nameF_size (h.mark m hm)) (by omega), fun s hs => Nat.le_trans (nameF_size (h.sand s hs)) (by omega)⟩
def writeX (c : Cht) : ByteArray := if (checkX c).2.2 = 0 then chtT c else .empty
theorem ch36 (c : Cht) : FnV Tryz.prog 36 [c.d] (.tup [.str (writeX c), i64 (checkX c).2.2]) := by
 refine fnV_of mixed tysOk Tryz.func36 rfl (ft := ft36) 1 (by decide +kernel) (by rfl) fun {σ} Y st => ?_
 conv=>whnf
 refine CallA_v (ch20 c) rfl rfl ?_
 conv=>whnf
 by_cases h : (checkX c).2.2 = 0
 ·have hw : writeX c = chtT c := if_pos h
  rw [hw, h]
  conv=>whnf
  refine CallA_v (ch86 c (checkX_ok h) (checkX_names h).nm) rfl rfl ?_
  conv=>whnf
  exact RetA_view 0 rfl ⟨⟨rfl, rfl⟩, rfl⟩
 ·have hw : writeX c = .empty := if_neg h
  rw [hw]
  refine brk_i (fun _ => ?_) (fun h1 => absurd h1 (by simp [h]))
  conv=>whnf
  exact RetA_view 0 rfl ⟨⟨rfl, rfl⟩, rfl⟩
end Go.PX
namespace Go.PX
open Go.Proofs
theorem Wk.bornAtD {σ : Type} {e : Env} {h : Heap} {s : σ} (b k sz : Nat) (A B : List D) {l : List D} (hk : Nat.blt k 1000000 = true) (hs : Nat.blt 0 sz = true) (hb : get h b = some (.box (.dd l))) (hl : l = A ++ .nils :: B) (hbk : Nat.beq b k = false) :
  Wk (⟨e, h, s⟩ : St σ) ⟨mapT (mapId (killF k)) e, put (put (mapT (Obj.mapId (killF k)) (cut h k)) k (.arr sz (.dd []))) b (.box (.vv (inj A ++ .sl k sz 0 0 :: inj B))), s⟩ := by
 have hk := Nat.le_of_ble_eq_true hk
 have hs := Nat.le_of_ble_eq_true hs
 have hne : b ≠ k := by rintro rfl; simp at hbk
 have h1 : Wk (⟨e, h, s⟩ : St σ) ⟨mapT (mapId (killF k)) e, put (mapT (Obj.mapId (killF k)) (cut h k)) k (.arr sz (.dd [])), s⟩ := by
  intro cx r m L F a w hg
  exact ⟨_, F, hg.newEmpty k sz (by unfold pinned; omega) hs (.dd []) rfl, Tr.refl F w⟩
 refine h1.trans (Wk.reobj b (o := .box (.dd l)) _ (by rw [get_put, if_neg hne, get_mapT, get_cut, if_neg hne, hb]; rfl) (fun yv L F w h => ?_) fun L hb => hb)
 obtain ⟨c, T, hc, hr⟩ := h
 have hr : RepVL yv L F w (inj l) c.toList := hr
 rw [hl, inj_append] at hr
 exact ⟨c, T, hc, RepVL.nil_at k sz hs hr⟩
end Go.PX
namespace Go.PX
open Go.Proofs
open Go.RowKit
def pairsW : List ByteArray → Option (List (Int × Int))
 | [] => some []
 | [_] => none
 | x :: y :: r => match atoiX x, atoiX y with
  | some a, some b => (pairsW r).map ((a, b) :: ·)
  | _, _ => none
def takeF (c : Cht) (row : ByteArray) : Option Cht :=
 match piecesB 32 row with
 | w :: n :: r =>
  if w = markW then
   match pairW r with
   | some (p, r) => match pairsW r with
    | some l => some { c with marks := c.marks ++ [⟨n, ⟨p.1, p.2⟩, l.map fun x => ⟨x.1, x.2⟩⟩] }
    | none => none
   | none => none
  else if w = sandW then
   match pairW r with
   | some (p, r) => match pairW r with
    | some (q, r) => match pairsW r with
     | some l => some { c with sands := c.sands ++ [⟨n, l.map fun x => ⟨x.1, x.2⟩, ⟨⟨p.1, p.2⟩, ⟨q.1, q.2⟩⟩⟩] }
     | none => none
    | none => none
   | none => none
  else none
 | _ => none
theorem pairsW_step (l : List ByteArray) (hl : l ≠ []) : pairsW l = match pairW l with
  | some (p, r) => (pairsW r).map (p :: ·)
  | none => none := by
 match l, hl with
 | [x], _ =>
  simp only [pairsW, pairW, numW]
  cases atoiX x <;> rfl
 | x :: y :: r, _ =>
  simp only [pairsW, pairW, numW]
  cases atoiX x with
  | none => rfl
  | some a =>
   simp only
   cases atoiX y <;> rfl
theorem pairW_mem {l r : List ByteArray} {p : Int × Int} (h : pairW l = some (p, r)) : ∃ x y, l = x :: y :: r := by
 match l with
 | [] => cases h
 | [x] =>
  simp only [pairW, numW] at h
  split at h
  ·rename_i h1
   cases h2 : atoiX x with
   | none => rw [h2] at h1; cases h1
   | some b => rw [h2] at h1; cases h1; cases h
  ·cases h
 | x :: y :: q =>
  simp only [pairW, numW] at h
  cases h1 : atoiX x with
  | none => rw [h1] at h; cases h
  | some a =>
   cases h2 : atoiX y with
   | none => rw [h1] at h; simp only [h2] at h; cases h
   | some b =>
    rw [h1] at h; simp only [h2] at h
    cases h
    exact ⟨x, y, rfl⟩
theorem pairW_tail {l r : List ByteArray} {p : Int × Int} (h : pairW l = some (p, r)) : ∃ x y, l = x :: y :: r := by
 obtain ⟨x, y, rfl⟩ := pairW_mem h
 simp only [pairW, numW] at h
 cases h1 : atoiX x with
 | none => rw [h1] at h; cases h
 | some a =>
  cases h2 : atoiX y with
  | none => rw [h1] at h; simp only [h2] at h; cases h
  | some b =>
   rw [h1] at h; simp only [h2] at h
   cases h
   exact ⟨x, y, rfl⟩
theorem pairW_len {l r : List ByteArray} {p : Int × Int} (h : pairW l = some (p, r)) : l.length = r.length + 2 := by
 obtain ⟨x, y, rfl⟩ := pairW_tail h
 rfl
theorem pairW_sub {l r : List ByteArray} {p : Int × Int} (h : pairW l = some (p, r)) : ∀ x ∈ r, x ∈ l := by
 obtain ⟨x, y, rfl⟩ := pairW_tail h
 intro z hz; simp [hz]
theorem splitL_len (c : UInt8) : ∀ l : List UInt8, (splitL c l).length ≤ l.length + 1
 | [] => by simp [splitL]
 | x :: r => by
  have ih := splitL_len c r
  rw [splitL]
  split
  ·simpa using ih
  ·have : (headC x (splitL c r)).length ≤ max 1 (splitL c r).length := by cases splitL c r <;> simp [headC]
   simp only [List.length_cons]
   omega
theorem splitL_mem (c : UInt8) : ∀ (l : List UInt8), ∀ x ∈ splitL c l, x.length ≤ l.length
 | [], x, hx => by simp [splitL] at hx; subst hx; simp
 | y :: r, x, hx => by
  have ih := splitL_mem c r
  rw [splitL] at hx
  split at hx
  ·rcases List.mem_cons.1 hx with rfl | hx
   ·simp
   ·have := ih x hx; simp only [List.length_cons]; omega
  ·cases hs : splitL c r with
   | nil => rw [hs] at hx; simp [headC] at hx; subst hx; simp
   | cons a t =>
    rw [hs] at hx ih
    rcases List.mem_cons.1 hx with rfl | hx
    ·have := ih a (by simp); simp only [List.length_cons]; omega
    ·have := ih x (by simp [hx]); simp only [List.length_cons]; omega
theorem piecesB_len (c : UInt8) (s : ByteArray) : (piecesB c s).length ≤ s.size + 1 := by
 have := splitL_len c s.data.toList
 simp only [piecesB, List.length_map]
 simpa using this
theorem piecesB_mem (c : UInt8) (s : ByteArray) : ∀ x ∈ piecesB c s, x.size ≤ s.size := by
 intro x hx
 obtain ⟨y, hy, rfl⟩ := List.mem_map.1 hx
 have := splitL_mem c s.data.toList y hy
 show y.length ≤ s.size
 simpa using this
def chtN (b i j : Nat) (c : Cht) : Heap := [(b, .box (.vv [.sl i 4 0 c.marks.length, .sl j 6 0 c.sands.length])), (i, .arr 4 (.dd (c.marks.map Mark.cells))), (j, .arr 6 (.dd (c.sands.map Sand.cells)))]
def chtH (c : Cht) : Heap := chtN 1000000 1000001 1000002 c
theorem ch91 (c : Cht) (row : ByteArray) (hs : row.size ≤ 4000) (hm : c.marks.length ≤ 4000) (hn : c.sands.length ≤ 4000) : FnXU Tryz.prog 91 [.ptr 1000000 0, .d (.str row)] (chtH c) (fun v h' => ∃ c', takeF c row = some c' ∧ v = .d (.tup []) ∧ (h' = chtN 1000000 2000000 1000002 c' ∨ h' = chtN 1000000 1000001 2000000 c')) (fun pv h' => takeF c row = none ∧ pv = pan6 ∧ h' = chtH c) := by
 intro σ Y st
 refine fnX_of mixed tysOk Tryz.func91 rfl (ft := ft91.less 16) (args := [.ptr 1000000 0, .d (.str row)]) (show fnB (ft91.less 16) Tryz.f91 2 = true from by decide +kernel) ?_
 conv=>whnf
 refine CallA_v (ch117 row 32 (by omega)) rfl rfl ?_
 conv=>whnf
 have hlen := piecesB_len 32 row
 have hmem := piecesB_mem 32 row
 have hT : takeF c row = takeF c row := rfl
 conv at hT => rhs; unfold takeF
 generalize takeF c row = T at hT ⊢
 generalize piecesB 32 row = l at hT hlen hmem ⊢
 refine must_i rfl (fun hb => ?_) (fun hb => ?_)
 case refine_2 =>
  conv=>whnf
  refine RetA_hand [] [] (chtH c) rfl ⟨rfl, rfl, rfl, trivial⟩ rfl ⟨⟨?_, rfl, rfl⟩, rfl⟩
  match l, hb with
  | [], _ => exact hT
  | [x], _ => exact hT
  | x :: y :: r, h => exact absurd h (by simp; omega)
 match l, hb with
 | [], h => exact absurd h (by simp)
 | [x], h => exact absurd h (by simp)
 | w :: n :: r, _ => 
 conv=>whnf
 refine brk_i (fun _ => ?_) (fun h => absurd h (by simp; omega))
 conv=>whnf
 refine chk_i rfl ?_
 conv=>whnf
 refine brk_i (fun h1 => ?_) (fun h1 => ?_)
 ·have h1 : w = markW := of_decide_eq_true h1
  subst h1
  simp only [if_pos] at hT
  conv=>whnf
  refine CallA_x (ch118 r (fun x hx => by have := hmem x (by simp [hx]); omega) _ _) [6] rfl ⟨_, _, rfl, congrArg (fun z => some (Obj.box (.dd [D.vs z]))) (show List.drop _ (List.take _ _) = _ from by rw [List.take_length]; rfl), rfl⟩ rfl rfl ?_ ?_
  ·rintro v h1 s' ⟨⟨a, b, r1, ha, rfl, rfl⟩, rfl⟩
   refine ⟨rfl, ?_⟩
   rw [ha] at hT
   simp only at hT
   have hrl : r1.length ≤ 4000 ∧ ∀ x ∈ r1, x.size ≤ 4000 := by
    have h0 := pairW_len ha
    simp only [List.length_cons] at hlen
    exact ⟨by omega, fun x hx => by have := hmem x (by simp [pairW_sub ha x hx]); omega⟩
   conv=>whnf
   refine LoopA_p (T := tys) tysOk (by exact drawsB_spec mixed tysOk (by decide +kernel)) (fun x : List ByteArray × List (Int × Int) => ⟨[(0, .ptr 1000000 0), (6, .ptr 6 0), (7, .ptr 7 0)], (6, .box (.dd [wordsD x.1])) :: (7, .box (.vv [.d (.str n), .d (i64 a), .d (i64 b), .sl 900001 2 0 x.2.length])) :: (900001, .arr 2 (.dd (x.2.map fun q => [i64 q.1, i64 q.2]))) :: chtH c, s'⟩) (fun x => pairsW r1 = (pairsW x.1).map (x.2 ++ ·) ∧ x.1.length + 2 * x.2.length ≤ 4000 ∧ ∀ y ∈ x.1, y.size ≤ 4000) (fun x => x.1.length) (r1, []) ?_ ?_ ?_
   ·exact (Wk.bornAtD 7 900001 2 [.str n, i64 a, i64 b] [] rfl rfl rfl rfl rfl).trans (Wk.sub ⟨(by first | rfl | (simp only [List.length_map]; rfl) | simp [PX.get]), (by first | rfl | (simp only [List.length_map]; rfl) | simp [PX.get]), (by first | rfl | (simp only [List.length_map]; rfl) | simp [PX.get]), trivial⟩ ⟨(by first | rfl | (simp only [List.length_map]; rfl) | simp [PX.get]), (by first | rfl | (simp only [List.length_map]; rfl) | simp [PX.get]), (by first | rfl | (simp only [List.length_map]; rfl) | simp [PX.get]), (by first | rfl | (simp only [List.length_map]; rfl) | simp [PX.get]), (by first | rfl | (simp only [List.length_map]; rfl) | simp [PX.get]), (by first | rfl | (simp only [List.length_map]; rfl) | simp [PX.get]), trivial⟩)
   ·exact ⟨by simp, by simpa using hrl.1, hrl.2⟩
   rintro ⟨q, acc⟩ ⟨hq, hql, hqs⟩
   conv=>whnf
   refine brk_i (fun hb => ?_) (fun hb => ?_)
   ·conv=>whnf
    refine CallA_x (ch118 q (fun x hx => by have := hqs x hx; omega) _ _) [6] rfl ⟨_, _, rfl, rfl, rfl⟩ rfl rfl ?_ ?_
    ·rintro v h1 s'' ⟨⟨a1, b1, q1, ha1, rfl, rfl⟩, rfl⟩
     refine ⟨rfl, ?_⟩
     conv=>whnf
     refine ownK_whole rfl ?_
     conv=>whnf
     refine ownK_whole (by simp [Els.len]) ?_
     conv=>whnf
     refine chk_i (decide_eq_true (by show ((acc.map fun q => [i64 q.1, i64 q.2]).length + 1) * 16 ≤ _; simp only [List.length_map] at hql ⊢; omega)) ?_
     conv=>whnf
     obtain ⟨x1, y1, hq1⟩ := pairW_mem ha1
     refine ⟨(q1, acc ++ [(a1, b1)]), by show q1.length < q.length; have h0 := pairW_len ha1; omega, ⟨?_, ?_, ?_⟩, ?_⟩
     ·rw [hq]
      show (pairsW q).map _ = _
      rw [hq1, pairsW_step _ (by simp), ← hq1, ha1]
      show ((pairsW q1).map _).map _ = (pairsW q1).map _
      cases pairsW q1 <;> simp
     ·have h0 := pairW_len ha1
      show q1.length + 2 * (acc ++ [(a1, b1)]).length ≤ 4000
      have hql : q.length + 2 * acc.length ≤ 4000 := hql
      rw [List.length_append, List.length_singleton]
      omega
     ·exact fun y hy => hqs y (pairW_sub ha1 y hy)
     ·exact (Wk.move 42 900001 rfl rfl).trans (Wk.sub ⟨rfl, rfl, rfl, trivial⟩ ⟨rfl, congrArg (fun z : Nat => some (Obj.box (.vv [.d (.str n), .d (i64 a), .d (i64 b), .sl 900001 2 0 z]))) (by simp [Els.len]), congrArg (fun z => some (Obj.arr 2 (.dd z))) (by simp), rfl, rfl, rfl, trivial⟩)
    ·rintro pv h1 s'' ⟨⟨ha1, rfl, r2, rfl⟩, rfl⟩
     refine ⟨rfl, ?_⟩
     conv=>whnf
     have hqn : q ≠ [] := by rintro rfl; simp at hb
     refine RetA_hand [] [] (chtH c) rfl ⟨rfl, rfl, rfl, trivial⟩ rfl ⟨⟨?_, rfl, rfl⟩, rfl⟩
     rw [hT, hq, pairsW_step q hqn, ha1]; rfl
   ·conv=>whnf
    refine ownK_whole rfl ?_
    conv=>whnf
    refine ownK_whole (by simp [Els.len]) ?_
    conv=>whnf
    refine chk_i (by
     show (true && !nameBL 51 ((injL (c.marks.map Mark.cells) ++ [_]).flatten)) = true
     rw [nameBL_injL]; rfl) ?_
    conv=>whnf
    refine chk_i (decide_eq_true (by show ((c.marks.map Mark.cells).length + 1) * 56 ≤ _; simp only [List.length_map]; omega)) ?_
    conv=>whnf
    refine forceN_to [900001, 51] (by
     show namesOfL ((injL (c.marks.map Mark.cells) ++ [[V.d (.str n), V.d (i64 a), V.d (i64 b), V.sl 900001 2 0 acc.length]]).flatten) ++ ([51] ++ []) = _
     rw [namesOfL_injL]; rfl) ?_
    conv=>whnf
    have hq0 : q = [] := by
     cases q with
     | nil => rfl
     | cons x y => exact absurd hb (by simp)
    have hT : T = some { c with marks := c.marks ++ [⟨n, ⟨a, b⟩, acc.map fun x => ⟨x.1, x.2⟩⟩] } := by
     rw [hT, hq, hq0]; simp [pairsW]
    refine RetA_wk (l' := []) (h' := [(1000000, .box (.vv [.sl 51 4 0 (c.marks.length + 1), .sl 1000002 6 0 c.sands.length])), (51, .arr 4 (.dd (c.marks.map Mark.cells ++ [(⟨n, ⟨a, b⟩, acc.map fun x => ⟨x.1, x.2⟩⟩ : Mark).cells]))), (1000002, .arr 6 (.dd (c.sands.map Sand.cells)))]) ((Wk.frzArr 1 [900001] 51 (sz := 4) (vs := injL (c.marks.map Mark.cells) ++ [[.d (.str n), .d (i64 a), .d (i64 b), .sl 900001 2 0 acc.length]]) (ds := c.marks.map Mark.cells ++ [(⟨n, ⟨a, b⟩, acc.map fun x => ⟨x.1, x.2⟩⟩ : Mark).cells]) ?_ (viewLL_app (viewLL_one (viewL_app (a := [.str n, i64 a, i64 b]) (viewL_cons ?_ rfl))) _)).trans ?_) rfl rfl ?_
    ·rfl
    ·exact viewV_sl' rfl (show _ = (acc.map fun x => (⟨x.1, x.2⟩ : Paint)).map Paint.cells from by simp [Paint.cells]) (by simp)
    ·exact Wk.sub trivial ⟨congrArg (fun z : Nat => some (Obj.box (.vv [.sl 51 4 0 z, .sl 1000002 6 0 c.sands.length]))) (show (Els.dd (c.marks.map Mark.cells)).len + 1 = _ from by simp [Els.len]), rfl, rfl, trivial⟩
    ·exact RetA_hand [51] [] (chtN 1000000 2000000 1000002 { c with marks := c.marks ++ [⟨n, ⟨a, b⟩, acc.map fun x => ⟨x.1, x.2⟩⟩] }) rfl ⟨congrArg (fun z : Nat => some (Obj.box (.vv [.sl 51 4 0 z, .sl 1000002 6 0 c.sands.length]))) (by simp), congrArg (fun z => some (Obj.arr 4 (.dd z))) (by simp), rfl, trivial⟩ rfl ⟨⟨_, hT, rfl, .inl rfl⟩, rfl⟩
  ·rintro pv h1 s' ⟨⟨ha, rfl, r2, rfl⟩, rfl⟩
   refine ⟨rfl, ?_⟩
   conv=>whnf
   refine RetA_hand [] [] (chtH c) rfl ⟨rfl, rfl, rfl, trivial⟩ rfl ⟨⟨?_, rfl, rfl⟩, rfl⟩
   rw [hT, ha]
 have h0 : w ≠ markW := fun h => absurd (decide_eq_true (p := w = markW) h) (by rw [show decide (w = markW) = false from h1]; simp)
 conv=>whnf
 refine brk_i (fun h1 => ?_) (fun h1 => ?_)
 case refine_2 =>
  have h2 : w ≠ sandW := fun h => absurd (decide_eq_true (p := w = sandW) h) (by rw [show decide (w = sandW) = false from h1]; simp)
  simp only [if_neg h0, if_neg h2] at hT
  conv=>whnf
  refine must_i rfl (fun h => by cases h) (fun _ => ?_)
  conv=>whnf
  exact RetA_hand [] [] (chtH c) rfl ⟨rfl, rfl, rfl, trivial⟩ rfl ⟨⟨hT, rfl, rfl⟩, rfl⟩
 have h1 : w = sandW := of_decide_eq_true h1
 subst h1
 simp only [if_neg h0, if_pos] at hT
 conv=>whnf
 refine CallA_x (ch119 r (fun x hx => by have := hmem x (by simp [hx]); omega) _ _) [6] rfl ⟨_, _, rfl, congrArg (fun z => some (Obj.box (.dd [D.vs z]))) (show List.drop _ (List.take _ _) = _ from by rw [List.take_length]; rfl), rfl⟩ rfl rfl ?_ ?_
 case refine_2 =>
  rintro pv h1 s' ⟨⟨ha, rfl, r2, rfl⟩, rfl⟩
  refine ⟨rfl, ?_⟩
  conv=>whnf
  refine RetA_hand [] [] (chtH c) rfl ⟨rfl, rfl, rfl, trivial⟩ rfl ⟨⟨?_, rfl, rfl⟩, rfl⟩
  rw [hT, ha]
 rintro v h1 s' ⟨⟨a, b, r1, ha, rfl, rfl⟩, rfl⟩
 refine ⟨rfl, ?_⟩
 rw [ha] at hT
 simp only at hT
 have hrl : r1.length ≤ 4000 ∧ ∀ x ∈ r1, x.size ≤ 4000 := by
  have h0 := pairW_len ha
  simp only [List.length_cons] at hlen
  exact ⟨by omega, fun x hx => by have := hmem x (by simp [pairW_sub ha x hx]); omega⟩
 conv=>whnf
 refine CallA_x (ch119 r1 (fun x hx => by have := hrl.2 x hx; omega) _ _) [6] rfl ⟨_, _, rfl, rfl, rfl⟩ rfl rfl ?_ ?_
 case refine_2 =>
  rintro pv h1 s' ⟨⟨ha, rfl, r2, rfl⟩, rfl⟩
  refine ⟨rfl, ?_⟩
  conv=>whnf
  refine RetA_hand [] [] (chtH c) rfl ⟨rfl, rfl, rfl, trivial⟩ rfl ⟨⟨?_, rfl, rfl⟩, rfl⟩
  rw [hT, ha]
 rintro v h1 s' ⟨⟨a2, b2, r2, ha2, rfl, rfl⟩, rfl⟩
 refine ⟨rfl, ?_⟩
 rw [ha2] at hT
 simp only at hT
 have hrl : r2.length ≤ 4000 ∧ ∀ x ∈ r2, x.size ≤ 4000 := by
  have h0 := pairW_len ha2
  exact ⟨by omega, fun x hx => hrl.2 x (pairW_sub ha2 x hx)⟩
 conv=>whnf
 refine LoopA_p (T := tys) tysOk (by exact drawsB_spec mixed tysOk (by decide +kernel)) (fun x : List ByteArray × List (Int × Int) => ⟨[(0, .ptr 1000000 0), (6, .ptr 6 0), (9, .ptr 9 0)], (6, .box (.dd [wordsD x.1])) :: (9, .box (.vv [.d (.str n), .sl 900001 2 0 x.2.length, .d (i64 a), .d (i64 b), .d (i64 a2), .d (i64 b2)])) :: (900001, .arr 2 (.dd (x.2.map fun q => [i64 q.1, i64 q.2]))) :: chtH c, s'⟩) (fun x => pairsW r2 = (pairsW x.1).map (x.2 ++ ·) ∧ x.1.length + 2 * x.2.length ≤ 4000 ∧ ∀ y ∈ x.1, y.size ≤ 4000) (fun x => x.1.length) (r2, []) ?_ ?_ ?_
 ·exact (Wk.bornAtD 9 900001 2 [.str n] [i64 a, i64 b, i64 a2, i64 b2] rfl rfl rfl rfl rfl).trans (Wk.sub ⟨(by first | rfl | (simp only [List.length_map]; rfl) | simp [PX.get]), (by first | rfl | (simp only [List.length_map]; rfl) | simp [PX.get]), (by first | rfl | (simp only [List.length_map]; rfl) | simp [PX.get]), trivial⟩ ⟨(by first | rfl | (simp only [List.length_map]; rfl) | simp [PX.get]), (by first | rfl | (simp only [List.length_map]; rfl) | simp [PX.get]), (by first | rfl | (simp only [List.length_map]; rfl) | simp [PX.get]), (by first | rfl | (simp only [List.length_map]; rfl) | simp [PX.get]), (by first | rfl | (simp only [List.length_map]; rfl) | simp [PX.get]), (by first | rfl | (simp only [List.length_map]; rfl) | simp [PX.get]), trivial⟩)
 ·exact ⟨by simp, by simpa using hrl.1, hrl.2⟩
 rintro ⟨q, acc⟩ ⟨hq, hql, hqs⟩
 conv=>whnf
 refine brk_i (fun hb => ?_) (fun hb => ?_)
 ·conv=>whnf
  refine RegionA_all mixed tysOk [[], [0], [], [2], [1, 3, 2], [0, 1, 2, 3, 4], [5, 4]] (by decide +kernel) ?_
  have hqn : q ≠ [] := by rintro rfl; simp at hb
  have hqs' : ∀ x ∈ q, x.size ≤ 1000000000 := fun x hx => by have := hqs x hx; omega
  have hpan : pairW q = none → T = none := fun h => by
   have h5 : pairsW r2 = none := by rw [hq]; show (pairsW q).map _ = none; rw [pairsW_step q hqn, h]; rfl
   rw [hT, h5]
  have hql : q.length + 2 * acc.length ≤ 4000 := hql
  conv=>whnf
  repeat' (first
   | (refine And.intro ?_ ?_ <;> conv=>whnf)
   | trivial
   | (refine CallA_x (ch118 q hqs' _ _) [6] rfl ⟨_, _, rfl, rfl, rfl⟩ rfl rfl ?_ ?_)
   | (rintro pv h1 s'' ⟨⟨ha1, rfl, r3, rfl⟩, rfl⟩; refine ⟨rfl, ?_⟩; (conv=>whnf); exact RetA_hand [] [] (chtH c) rfl ⟨rfl, rfl, rfl, trivial⟩ rfl ⟨⟨hpan ha1, rfl, rfl⟩, rfl⟩)
   | (rintro v h1 s'' ⟨⟨a1, b1, q1, ha1, rfl, rfl⟩, rfl⟩; refine ⟨rfl, ?_⟩; conv=>whnf)
   | (refine ownK_whole (by first | rfl | simp [Els.len]) ?_; conv=>whnf)
   | (refine chk_i (decide_eq_true (by show ((acc.map fun q => [i64 q.1, i64 q.2]).length + 1) * 16 ≤ _; rw [List.length_map]; omega)) ?_; conv=>whnf))
  all_goals
   have h0 := pairW_len ha1
   obtain ⟨x1, y1, hq1⟩ := pairW_mem ha1
   refine ⟨(q1, acc ++ [(a1, b1)]), by show q1.length < q.length; omega, ⟨?_, ?_, ?_⟩, ?_⟩
   ·rw [hq]
    show (pairsW q).map _ = _
    rw [hq1, pairsW_step _ (by simp), ← hq1, ha1]
    show ((pairsW q1).map _).map _ = (pairsW q1).map _
    cases pairsW q1 <;> simp
   ·show q1.length + 2 * (acc ++ [(a1, b1)]).length ≤ 4000
    rw [List.length_append, List.length_singleton]
    omega
   ·exact fun y hy => hqs y (pairW_sub ha1 y hy)
   ·exact (Wk.move 71 900001 rfl rfl).trans (Wk.sub ⟨rfl, rfl, rfl, trivial⟩ ⟨rfl, congrArg (fun z : Nat => some (Obj.box (.vv [.d (.str n), .sl 900001 2 0 z, .d (i64 a), .d (i64 b), .d (i64 a2), .d (i64 b2)]))) (by simp [Els.len]), congrArg (fun z => some (Obj.arr 2 (.dd z))) (by simp), rfl, rfl, rfl, trivial⟩)
 ·conv=>whnf
  refine ownK_whole rfl ?_
  conv=>whnf
  refine ownK_whole (by simp [Els.len]) ?_
  conv=>whnf
  refine chk_i (by
   show (true && !nameBL 80 ((injL (c.sands.map Sand.cells) ++ [_]).flatten)) = true
   rw [nameBL_injL]; rfl) ?_
  conv=>whnf
  refine chk_i (decide_eq_true (by show ((c.sands.map Sand.cells).length + 1) * 72 ≤ _; simp only [List.length_map]; omega)) ?_
  conv=>whnf
  refine forceN_to [900001, 80] (by
   show namesOfL ((injL (c.sands.map Sand.cells) ++ [[V.d (.str n), V.sl 900001 2 0 acc.length, V.d (i64 a), V.d (i64 b), V.d (i64 a2), V.d (i64 b2)]]).flatten) ++ ([80] ++ []) = _
   rw [namesOfL_injL]; rfl) ?_
  conv=>whnf
  have hq0 : q = [] := by
   cases q with
   | nil => rfl
   | cons x y => exact absurd hb (by simp)
  have hT : T = some { c with sands := c.sands ++ [⟨n, acc.map fun x => ⟨x.1, x.2⟩, ⟨⟨a, b⟩, ⟨a2, b2⟩⟩⟩] } := by
   rw [hT, hq, hq0]; simp [pairsW]
  refine RetA_wk (l' := []) (h' := [(1000000, .box (.vv [.sl 1000001 4 0 c.marks.length, .sl 80 6 0 (c.sands.length + 1)])), (1000001, .arr 4 (.dd (c.marks.map Mark.cells))), (80, .arr 6 (.dd (c.sands.map Sand.cells ++ [(⟨n, acc.map fun x => ⟨x.1, x.2⟩, ⟨⟨a, b⟩, ⟨a2, b2⟩⟩⟩ : Sand).cells])))]) ((Wk.frzArr 1 [900001] 80 (sz := 6) (vs := injL (c.sands.map Sand.cells) ++ [[.d (.str n), .sl 900001 2 0 acc.length, .d (i64 a), .d (i64 b), .d (i64 a2), .d (i64 b2)]]) (ds := c.sands.map Sand.cells ++ [(⟨n, acc.map fun x => ⟨x.1, x.2⟩, ⟨⟨a, b⟩, ⟨a2, b2⟩⟩⟩ : Sand).cells]) ?_ (viewLL_app (viewLL_one (viewL_app (a := [.str n]) (viewL_cons ?_ rfl))) _)).trans ?_) rfl rfl ?_
  ·rfl
  ·exact viewV_sl' rfl (show _ = (acc.map fun x => (⟨x.1, x.2⟩ : Pt)).map Pt.cells from by simp [Pt.cells]) (by simp)
  ·exact Wk.sub trivial ⟨congrArg (fun z : Nat => some (Obj.box (.vv [.sl 1000001 4 0 c.marks.length, .sl 80 6 0 z]))) (show (Els.dd (c.sands.map Sand.cells)).len + 1 = _ from by simp [Els.len]), rfl, rfl, trivial⟩
  ·exact RetA_hand [80] [] (chtN 1000000 1000001 2000000 { c with sands := c.sands ++ [⟨n, acc.map fun x => ⟨x.1, x.2⟩, ⟨⟨a, b⟩, ⟨a2, b2⟩⟩⟩] }) rfl ⟨congrArg (fun z : Nat => some (Obj.box (.vv [.sl 1000001 4 0 c.marks.length, .sl 80 6 0 z]))) (by simp), rfl, congrArg (fun z => some (Obj.arr 6 (.dd z))) (by simp), trivial⟩ rfl ⟨⟨_, hT, rfl, .inr rfl⟩, rfl⟩
end Go.PX
