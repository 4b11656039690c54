import Derived.Test.YtgpmlbbkfmkmkaaGreatDoorPxQ
set_option linter.all false
set_option maxRecDepth 10000
namespace Go.PX
open Go.Proofs
open Go.RowKit
theorem apartF_cases (l : PLog) (a b : PAt) : (downE l [a, b] = 0 ∧ checkN l = 0 ∧ fitP l 0 [] = true ∧ isAt l a = true ∧ isAt l b = true ∧ apartF l a b = (apartS l a b, orderS (apartS l a b), 0)) ∨ (downE l [a, b] ≠ 0 ∧ apartF l a b = (⟨0, 0⟩, 0, downE l [a, b])) := by
 by_cases h : downE l [a, b] = 0
 ·obtain ⟨h1, h2, h3⟩ := downE_zero h
  exact .inl ⟨h, h1, h2, h3 a (by simp), h3 b (by simp), by unfold apartF; rw [if_pos h]⟩
 ·exact .inr ⟨h, by unfold apartF; rw [if_neg h]⟩
theorem downE_swap (l : PLog) (a b : PAt) : downE l [b, a] = downE l [a, b] := by
 have : entrP l [b, a] = entrP l [a, b] := by
  unfold entrP
  have e : [b, a].all (isAt l) = [a, b].all (isAt l) := by simp [Bool.and_comm]
  rw [e]
 unfold downE; rw [this]
theorem apart_bd {l : PLog} (hR : LogR l) {a b : PAt} (ha : isAt l a = true) (hb : isAt l b = true) : (-5000000000 ≤ (apartS l a b).lo ∧ (apartS l a b).lo ≤ 5000000000) ∧ (-5000000000 ≤ (apartS l a b).hi ∧ (apartS l a b).hi ≤ 5000000000) := by
 obtain ⟨i, k, b', y, rfl, hA⟩ := isAt_iff.1 ha
 obtain ⟨j, m, c, u, rfl, hB⟩ := isAt_iff.1 hb
 have h1 := ahead_bd hR ⟨j, perOf c m⟩ ⟨i, perOf b' k⟩
 have h2 := at_R hR hA
 have h3 := at_R hR hB
 rw [apartS_at hA hB]
 simp only
 omega
set_option maxHeartbeats 2000000 in
theorem pa10 (l : PLog) (x y z : PAt) : FnV Tryz.prog 10 [l.d, .agg (x.cells ++ (y.cells ++ z.cells))] (.bool true) := by
 rcases apartF_cases l x y with ⟨hd, hc, hf, hx, hy, h1⟩ | ⟨hd, h1⟩
 ·have h2 : apartF l y x = (⟨-(apartS l x y).hi, -(apartS l x y).lo⟩, orderS ⟨-(apartS l x y).hi, -(apartS l x y).lo⟩, 0) := by
   unfold apartF
   rw [if_pos (by rw [downE_swap]; exact hd), apart_neg]
  have hle := apart_ok hf hx hy
  have hor := order_neg hle
  have hA : FnV Tryz.prog 27 [l.d, x.d, y.d] (.tup [(apartS l x y).d, i64 (orderS (apartS l x y)), i64 0]) := FnV.cast (pa27 l x y) (by rw [h1])
  have hB : FnV Tryz.prog 27 [l.d, y.d, x.d] (.tup [Span.d ⟨-(apartS l x y).hi, -(apartS l x y).lo⟩, i64 (orderS ⟨-(apartS l x y).hi, -(apartS l x y).lo⟩), i64 0]) := FnV.cast (pa27 l y x) (by rw [h2])
  have key : (isAt l z = true ∧ apartF l y z = (apartS l y z, orderS (apartS l y z), 0) ∧ apartF l x z = (apartS l x z, orderS (apartS l x z), 0) ∧ (apartS l x y).lo + (apartS l y z).lo ≤ (apartS l x z).lo ∧ (apartS l x z).hi ≤ (apartS l x y).hi + (apartS l y z).hi) ∨ (apartF l y z = (⟨0, 0⟩, 0, 4) ∧ apartF l x z = (⟨0, 0⟩, 0, 4)) := by
   by_cases hz : isAt l z = true
   ·have e1 : downE l [y, z] = 0 := by unfold downE entrP; rw [if_pos hc, hf]; simp [hy, hz]
    have e2 : downE l [x, z] = 0 := by unfold downE entrP; rw [if_pos hc, hf]; simp [hx, hz]
    have ht := apart_tri hf hx hy hz
    exact .inl ⟨hz, by unfold apartF; rw [if_pos e1], by unfold apartF; rw [if_pos e2], ht.1, ht.2⟩
   ·have e1 : downE l [y, z] = 4 := by unfold downE entrP; rw [if_pos hc]; simp [hz]
    have e2 : downE l [x, z] = 4 := by unfold downE entrP; rw [if_pos hc]; simp [hz]
    exact .inr ⟨by unfold apartF; rw [e1]; rfl, by unfold apartF; rw [e2]; rfl⟩
  have hbd := apart_bd (check_ok hc) hx hy
  have hbz : isAt l z = true → (-5000000000 ≤ (apartS l y z).lo ∧ (apartS l y z).lo ≤ 5000000000) ∧ (-5000000000 ≤ (apartS l y z).hi ∧ (apartS l y z).hi ≤ 5000000000) := fun hz => apart_bd (check_ok hc) hy hz
  clear h1 h2
  generalize apartS l x y = S at *
  obtain ⟨lo, hi⟩ := S
  simp only at hle hor key hbd hA hB
  have hxz : isAt l z = true → (-5000000000 ≤ (apartS l x z).lo ∧ (apartS l x z).lo ≤ 5000000000) ∧ (-5000000000 ≤ (apartS l x z).hi ∧ (apartS l x z).hi ≤ 5000000000) := fun hz => apart_bd (check_ok hc) hx hz
  rcases hor with ⟨e1, e2⟩ | ⟨e1, e2⟩ | ⟨e1, e2⟩ | ⟨e1, e2⟩
  all_goals rw [e1] at hA
  all_goals rw [e2] at hB
  ·show FnV Tryz.prog 10 [l.d, .agg (x.cells ++ (y.cells ++ z.cells))] _
   refine fnV_of mixed tysOk Tryz.func10 rfl (ft := ft10) 2 (by decide +kernel) (by rfl) fun {σ} Y st => ?_
   conv=>whnf
   refine CallA_v (ds := [l.d, x.d, y.d]) hA rfl rfl ?_
   conv=>whnf
   refine CallA_v (ds := [l.d, y.d, x.d]) hB rfl rfl ?_
   conv=>whnf
   refine arith_to (-hi) (by dsimp only; omega) (wrap_i64 (by omega)) ?_
   conv=>whnf
   refine arith_to (-lo) (by dsimp only; omega) (wrap_i64 (by omega)) ?_
   conv=>whnf
   refine DrawCall_v (pa46 (-hi) (-lo)) rfl rfl ?_
   conv=>whnf
   refine brk_i (fun h => absurd h (by simp)) (fun _ => ?_)
   conv=>whnf
   refine brk_i (fun h => absurd (of_decide_eq_true h) (by dsimp only; omega)) (fun _ => ?_)
   conv=>whnf
   rcases key with ⟨hz, h3, h4, h5, h6⟩ | ⟨h3, h4⟩
   ·have hbz := hbz hz
    have hxz := hxz hz
    have hC : FnV Tryz.prog 27 [l.d, y.d, z.d] (.tup [(apartS l y z).d, i64 (orderS (apartS l y z)), i64 0]) := FnV.cast (pa27 l y z) (by rw [h3])
    have hD : FnV Tryz.prog 27 [l.d, x.d, z.d] (.tup [(apartS l x z).d, i64 (orderS (apartS l x z)), i64 0]) := FnV.cast (pa27 l x z) (by rw [h4])
    clear h3 h4
    generalize orderS (apartS l y z) = O1 at hC
    generalize orderS (apartS l x z) = O2 at hD
    generalize apartS l y z = S1 at *
    generalize apartS l x z = S2 at *
    obtain ⟨lo1, hi1⟩ := S1
    obtain ⟨lo2, hi2⟩ := S2
    simp only at h5 h6 hbz hxz
    refine CallA_v (ds := [l.d, y.d, z.d]) hC rfl rfl ?_
    conv=>whnf
    refine CallA_v (ds := [l.d, x.d, z.d]) hD rfl rfl ?_
    conv=>whnf
    refine arith_to (lo + lo1) (by dsimp only) (wrap_i64 (by omega)) ?_
    conv=>whnf
    refine brk_i (fun _ => ?_) (fun h => absurd (of_decide_eq_false h) (by dsimp only; omega))
    conv=>whnf
    refine arith_to (hi + hi1) (by dsimp only) (wrap_i64 (by omega)) ?_
    conv=>whnf
    refine brk_i (fun _ => ?_) (fun h => absurd (of_decide_eq_false h) (by dsimp only; omega))
    conv=>whnf
    refine CallA_v (pa26) rfl rfl ?_
    conv=>whnf
    exact RetA_view 0 rfl ⟨⟨rfl, rfl⟩, rfl⟩
   ·have hC : FnV Tryz.prog 27 [l.d, y.d, z.d] (.tup [Span.d ⟨0, 0⟩, i64 0, i64 4]) := FnV.cast (pa27 l y z) (by rw [h3])
    have hD : FnV Tryz.prog 27 [l.d, x.d, z.d] (.tup [Span.d ⟨0, 0⟩, i64 0, i64 4]) := FnV.cast (pa27 l x z) (by rw [h4])
    refine CallA_v (ds := [l.d, y.d, z.d]) hC rfl rfl ?_
    conv=>whnf
    refine CallA_v (ds := [l.d, x.d, z.d]) hD rfl rfl ?_
    conv=>whnf
    refine CallA_v (pa26) rfl rfl ?_
    conv=>whnf
    exact RetA_view 0 rfl ⟨⟨rfl, rfl⟩, rfl⟩
  ·show FnV Tryz.prog 10 [l.d, .agg (x.cells ++ (y.cells ++ z.cells))] _
   refine fnV_of mixed tysOk Tryz.func10 rfl (ft := ft10) 2 (by decide +kernel) (by rfl) fun {σ} Y st => ?_
   conv=>whnf
   refine CallA_v (ds := [l.d, x.d, y.d]) hA rfl rfl ?_
   conv=>whnf
   refine CallA_v (ds := [l.d, y.d, x.d]) hB rfl rfl ?_
   conv=>whnf
   refine arith_to (-hi) (by dsimp only; omega) (wrap_i64 (by omega)) ?_
   conv=>whnf
   refine arith_to (-lo) (by dsimp only; omega) (wrap_i64 (by omega)) ?_
   conv=>whnf
   refine DrawCall_v (pa46 (-hi) (-lo)) rfl rfl ?_
   conv=>whnf
   refine brk_i (fun h => absurd h (by simp)) (fun _ => ?_)
   conv=>whnf
   refine brk_i (fun h => absurd (of_decide_eq_true h) (by dsimp only; omega)) (fun _ => ?_)
   conv=>whnf
   rcases key with ⟨hz, h3, h4, h5, h6⟩ | ⟨h3, h4⟩
   ·have hbz := hbz hz
    have hxz := hxz hz
    have hC : FnV Tryz.prog 27 [l.d, y.d, z.d] (.tup [(apartS l y z).d, i64 (orderS (apartS l y z)), i64 0]) := FnV.cast (pa27 l y z) (by rw [h3])
    have hD : FnV Tryz.prog 27 [l.d, x.d, z.d] (.tup [(apartS l x z).d, i64 (orderS (apartS l x z)), i64 0]) := FnV.cast (pa27 l x z) (by rw [h4])
    clear h3 h4
    generalize orderS (apartS l y z) = O1 at hC
    generalize orderS (apartS l x z) = O2 at hD
    generalize apartS l y z = S1 at *
    generalize apartS l x z = S2 at *
    obtain ⟨lo1, hi1⟩ := S1
    obtain ⟨lo2, hi2⟩ := S2
    simp only at h5 h6 hbz hxz
    refine CallA_v (ds := [l.d, y.d, z.d]) hC rfl rfl ?_
    conv=>whnf
    refine CallA_v (ds := [l.d, x.d, z.d]) hD rfl rfl ?_
    conv=>whnf
    refine arith_to (lo + lo1) (by dsimp only) (wrap_i64 (by omega)) ?_
    conv=>whnf
    refine brk_i (fun _ => ?_) (fun h => absurd (of_decide_eq_false h) (by dsimp only; omega))
    conv=>whnf
    refine arith_to (hi + hi1) (by dsimp only) (wrap_i64 (by omega)) ?_
    conv=>whnf
    refine brk_i (fun _ => ?_) (fun h => absurd (of_decide_eq_false h) (by dsimp only; omega))
    conv=>whnf
    refine CallA_v (pa26) rfl rfl ?_
    conv=>whnf
    exact RetA_view 0 rfl ⟨⟨rfl, rfl⟩, rfl⟩
   ·have hC : FnV Tryz.prog 27 [l.d, y.d, z.d] (.tup [Span.d ⟨0, 0⟩, i64 0, i64 4]) := FnV.cast (pa27 l y z) (by rw [h3])
    have hD : FnV Tryz.prog 27 [l.d, x.d, z.d] (.tup [Span.d ⟨0, 0⟩, i64 0, i64 4]) := FnV.cast (pa27 l x z) (by rw [h4])
    refine CallA_v (ds := [l.d, y.d, z.d]) hC rfl rfl ?_
    conv=>whnf
    refine CallA_v (ds := [l.d, x.d, z.d]) hD rfl rfl ?_
    conv=>whnf
    refine CallA_v (pa26) rfl rfl ?_
    conv=>whnf
    exact RetA_view 0 rfl ⟨⟨rfl, rfl⟩, rfl⟩
  ·show FnV Tryz.prog 10 [l.d, .agg (x.cells ++ (y.cells ++ z.cells))] _
   refine fnV_of mixed tysOk Tryz.func10 rfl (ft := ft10) 2 (by decide +kernel) (by rfl) fun {σ} Y st => ?_
   conv=>whnf
   refine CallA_v (ds := [l.d, x.d, y.d]) hA rfl rfl ?_
   conv=>whnf
   refine CallA_v (ds := [l.d, y.d, x.d]) hB rfl rfl ?_
   conv=>whnf
   refine arith_to (-hi) (by dsimp only; omega) (wrap_i64 (by omega)) ?_
   conv=>whnf
   refine arith_to (-lo) (by dsimp only; omega) (wrap_i64 (by omega)) ?_
   conv=>whnf
   refine DrawCall_v (pa46 (-hi) (-lo)) rfl rfl ?_
   conv=>whnf
   refine brk_i (fun h => absurd h (by simp)) (fun _ => ?_)
   conv=>whnf
   refine brk_i (fun h => absurd (of_decide_eq_true h) (by dsimp only; omega)) (fun _ => ?_)
   conv=>whnf
   rcases key with ⟨hz, h3, h4, h5, h6⟩ | ⟨h3, h4⟩
   ·have hbz := hbz hz
    have hxz := hxz hz
    have hC : FnV Tryz.prog 27 [l.d, y.d, z.d] (.tup [(apartS l y z).d, i64 (orderS (apartS l y z)), i64 0]) := FnV.cast (pa27 l y z) (by rw [h3])
    have hD : FnV Tryz.prog 27 [l.d, x.d, z.d] (.tup [(apartS l x z).d, i64 (orderS (apartS l x z)), i64 0]) := FnV.cast (pa27 l x z) (by rw [h4])
    clear h3 h4
    generalize orderS (apartS l y z) = O1 at hC
    generalize orderS (apartS l x z) = O2 at hD
    generalize apartS l y z = S1 at *
    generalize apartS l x z = S2 at *
    obtain ⟨lo1, hi1⟩ := S1
    obtain ⟨lo2, hi2⟩ := S2
    simp only at h5 h6 hbz hxz
    refine CallA_v (ds := [l.d, y.d, z.d]) hC rfl rfl ?_
    conv=>whnf
    refine CallA_v (ds := [l.d, x.d, z.d]) hD rfl rfl ?_
    conv=>whnf
    refine arith_to (lo + lo1) (by dsimp only) (wrap_i64 (by omega)) ?_
    conv=>whnf
    refine brk_i (fun _ => ?_) (fun h => absurd (of_decide_eq_false h) (by dsimp only; omega))
    conv=>whnf
    refine arith_to (hi + hi1) (by dsimp only) (wrap_i64 (by omega)) ?_
    conv=>whnf
    refine brk_i (fun _ => ?_) (fun h => absurd (of_decide_eq_false h) (by dsimp only; omega))
    conv=>whnf
    refine CallA_v (pa26) rfl rfl ?_
    conv=>whnf
    exact RetA_view 0 rfl ⟨⟨rfl, rfl⟩, rfl⟩
   ·have hC : FnV Tryz.prog 27 [l.d, y.d, z.d] (.tup [Span.d ⟨0, 0⟩, i64 0, i64 4]) := FnV.cast (pa27 l y z) (by rw [h3])
    have hD : FnV Tryz.prog 27 [l.d, x.d, z.d] (.tup [Span.d ⟨0, 0⟩, i64 0, i64 4]) := FnV.cast (pa27 l x z) (by rw [h4])
    refine CallA_v (ds := [l.d, y.d, z.d]) hC rfl rfl ?_
    conv=>whnf
    refine CallA_v (ds := [l.d, x.d, z.d]) hD rfl rfl ?_
    conv=>whnf
    refine CallA_v (pa26) rfl rfl ?_
    conv=>whnf
    exact RetA_view 0 rfl ⟨⟨rfl, rfl⟩, rfl⟩
  ·show FnV Tryz.prog 10 [l.d, .agg (x.cells ++ (y.cells ++ z.cells))] _
   refine fnV_of mixed tysOk Tryz.func10 rfl (ft := ft10) 2 (by decide +kernel) (by rfl) fun {σ} Y st => ?_
   conv=>whnf
   refine CallA_v (ds := [l.d, x.d, y.d]) hA rfl rfl ?_
   conv=>whnf
   refine CallA_v (ds := [l.d, y.d, x.d]) hB rfl rfl ?_
   conv=>whnf
   refine arith_to (-hi) (by dsimp only; omega) (wrap_i64 (by omega)) ?_
   conv=>whnf
   refine arith_to (-lo) (by dsimp only; omega) (wrap_i64 (by omega)) ?_
   conv=>whnf
   refine DrawCall_v (pa46 (-hi) (-lo)) rfl rfl ?_
   conv=>whnf
   refine brk_i (fun h => absurd h (by simp)) (fun _ => ?_)
   conv=>whnf
   refine brk_i (fun h => absurd (of_decide_eq_true h) (by dsimp only; omega)) (fun _ => ?_)
   conv=>whnf
   rcases key with ⟨hz, h3, h4, h5, h6⟩ | ⟨h3, h4⟩
   ·have hbz := hbz hz
    have hxz := hxz hz
    have hC : FnV Tryz.prog 27 [l.d, y.d, z.d] (.tup [(apartS l y z).d, i64 (orderS (apartS l y z)), i64 0]) := FnV.cast (pa27 l y z) (by rw [h3])
    have hD : FnV Tryz.prog 27 [l.d, x.d, z.d] (.tup [(apartS l x z).d, i64 (orderS (apartS l x z)), i64 0]) := FnV.cast (pa27 l x z) (by rw [h4])
    clear h3 h4
    generalize orderS (apartS l y z) = O1 at hC
    generalize orderS (apartS l x z) = O2 at hD
    generalize apartS l y z = S1 at *
    generalize apartS l x z = S2 at *
    obtain ⟨lo1, hi1⟩ := S1
    obtain ⟨lo2, hi2⟩ := S2
    simp only at h5 h6 hbz hxz
    refine CallA_v (ds := [l.d, y.d, z.d]) hC rfl rfl ?_
    conv=>whnf
    refine CallA_v (ds := [l.d, x.d, z.d]) hD rfl rfl ?_
    conv=>whnf
    refine arith_to (lo + lo1) (by dsimp only) (wrap_i64 (by omega)) ?_
    conv=>whnf
    refine brk_i (fun _ => ?_) (fun h => absurd (of_decide_eq_false h) (by dsimp only; omega))
    conv=>whnf
    refine arith_to (hi + hi1) (by dsimp only) (wrap_i64 (by omega)) ?_
    conv=>whnf
    refine brk_i (fun _ => ?_) (fun h => absurd (of_decide_eq_false h) (by dsimp only; omega))
    conv=>whnf
    refine CallA_v (pa26) rfl rfl ?_
    conv=>whnf
    exact RetA_view 0 rfl ⟨⟨rfl, rfl⟩, rfl⟩
   ·have hC : FnV Tryz.prog 27 [l.d, y.d, z.d] (.tup [Span.d ⟨0, 0⟩, i64 0, i64 4]) := FnV.cast (pa27 l y z) (by rw [h3])
    have hD : FnV Tryz.prog 27 [l.d, x.d, z.d] (.tup [Span.d ⟨0, 0⟩, i64 0, i64 4]) := FnV.cast (pa27 l x z) (by rw [h4])
    refine CallA_v (ds := [l.d, y.d, z.d]) hC rfl rfl ?_
    conv=>whnf
    refine CallA_v (ds := [l.d, x.d, z.d]) hD rfl rfl ?_
    conv=>whnf
    refine CallA_v (pa26) rfl rfl ?_
    conv=>whnf
    exact RetA_view 0 rfl ⟨⟨rfl, rfl⟩, rfl⟩
 ·have h2 : apartF l y x = (⟨0, 0⟩, 0, downE l [x, y]) := by
   unfold apartF
   rw [if_neg (by rw [downE_swap]; exact hd), downE_swap]
  have hA : FnV Tryz.prog 27 [l.d, x.d, y.d] (.tup [Span.d ⟨0, 0⟩, i64 0, i64 (downE l [x, y])]) := FnV.cast (pa27 l x y) (by rw [h1])
  have hB : FnV Tryz.prog 27 [l.d, y.d, x.d] (.tup [Span.d ⟨0, 0⟩, i64 0, i64 (downE l [x, y])]) := FnV.cast (pa27 l y x) (by rw [h2])
  generalize downE l [x, y] = E at *
  show FnV Tryz.prog 10 [l.d, .agg (x.cells ++ (y.cells ++ z.cells))] _
  refine fnV_of mixed tysOk Tryz.func10 rfl (ft := ft10) 2 (by decide +kernel) (by rfl) fun {σ} Y st => ?_
  conv=>whnf
  refine CallA_v (ds := [l.d, x.d, y.d]) hA rfl rfl ?_
  conv=>whnf
  refine CallA_v (ds := [l.d, y.d, x.d]) hB rfl rfl ?_
  conv=>whnf
  refine brk_i (fun h => ?_) (fun h => absurd h (by simp [hd]))
  conv=>whnf
  refine brk_i (fun _ => ?_) (fun h => absurd h (by simp))
  repeat' (first
   | (refine CallA_v (pa46 _ _) rfl rfl ?_; conv=>whnf)
   | (refine CallA_view (pa46 _ _) rfl 1 rfl ?_; conv=>whnf)
   | (refine DrawCall_v (pa46 _ _) rfl rfl ?_; conv=>whnf)
   | (refine DrawCall_view (pa46 _ _) rfl 1 rfl ?_; conv=>whnf)
   | (refine CallA_v (pa26) rfl rfl ?_; conv=>whnf)
   | (refine CallA_view (pa26) rfl 1 rfl ?_; conv=>whnf)
   | (refine DrawCall_v (pa26) rfl rfl ?_; conv=>whnf)
   | (refine DrawCall_view (pa26) rfl 1 rfl ?_; conv=>whnf)
   | (refine arith_in (wrap_i64 (by (try dsimp only); omega)) ?_; conv=>whnf)
   | (refine elemK_nat (by assumption) ?_; conv=>whnf)
   | (refine ownK_whole (by first | rfl | assumption | (simp [Els.len]; done) | (simp [Els.len]; omega)) ?_; conv=>whnf)
   | (refine chk_i (by first | (exact decide_eq_true (by (try simp only [List.length_map]); omega)) | (simp [Els.len, Els.cons, V.cells, Els.toV, injL]; done) | (simp [Els.len, Els.cons, V.cells, Els.toV, injL]; omega)) ?_; conv=>whnf)
   | fail)
  exact RetA_view 0 rfl ⟨⟨rfl, rfl⟩, rfl⟩
end Go.PX
