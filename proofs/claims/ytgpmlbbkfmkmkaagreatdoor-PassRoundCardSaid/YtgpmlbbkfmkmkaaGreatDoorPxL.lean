import Derived.Test.YtgpmlbbkfmkmkaaGreatDoorPxK
import Derived.Test.YtgpmlbbkfmkmkaaGreatDoorPxI
import Derived.Test.YtgpmlbbkfmkmkaaGreatDoorPxJ
import Derived.Shelf.Strings.Builder1
import Derived.Shelf.Strconv.Itoa3
import Derived.Shelf.Strconv.AtoiAll
import Derived.Shelf.Strings.Split
import Derived.Shelf.Strings.Cut
import Derived.Lib.ItoaNum
import Derived.Lib.SplitLaws
import Derived.Lib.IndexBytes
set_option linter.all false
set_option maxRecDepth 10000
namespace Go.PX
open Go.Proofs
theorem pa70 : FnV Tryz.prog 70 [] Per.right.d := by
 refine fnV_of mixed tysOk Tryz.func70 rfl (ft := ft70) 0 (by decide +kernel) (by rfl) fun {σ} Y st => ?_
 conv=>whnf
 exact RetA_view 0 rfl ⟨⟨rfl, rfl⟩, rfl⟩
structure LookR (x : LkS) : Prop where
 len : x.steps.length ≤ 78
 w : ∀ e ∈ x.steps, -1100000 ≤ e.w ∧ e.w ≤ 1100000
 many : 0 ≤ x.many ∧ x.many ≤ 30
theorem pa69 (l : PLog) (x : LkS) (hR : LookR x) (p : Per) : FnV Tryz.prog 69 [lookD l x, p.d] (.tup [if fitM x (farM x p) = true then .mv (pmD (farM x p)) else .nilm, .bool (fitM x (farM x p))]) := by
 refine fnV_of mixed tysOk Tryz.func69 rfl (ft := ft69) 2 (by decide +kernel) (by rfl) fun {σ} Y st => ?_
 conv=>whnf
 have hlen := hR.len
 have hmany := hR.many
 have hst : x.steps.length < 4000000000000000000 := by omega
 refine ⟨none, rfl, ?_⟩
 conv=>whnf
 refine arith_to (((x.many + 2).toNat : Nat) : Int) (by omega) (wrap_i64 (by omega)) ?_
 conv=>whnf
 unfold farM
 have hK : (x.many + 2).toNat ≤ 32 := by omega
 generalize (x.many + 2).toNat = N at hK ⊢
 generalize hRES : roundsM x.steps N [(p, 0)] = RES
 refine LoopA_p (T := tys) tysOk (by exact drawsB_spec mixed tysOk (by decide +kernel)) (α := Nat × PM) (fun z => ⟨[(0, .d (lookD l x)), (6, .mp 16), (23, .d (i64 N)), (24, .d (i64 z.1))], [(16, .map (pmD z.2))], st⟩)
  (fun z => z.1 ≤ N ∧ BndM z.2 (100000000 * z.1) ∧ roundsM x.steps (N - z.1) z.2 = RES) (fun z => N - z.1) (0, [(p, 0)]) (Wk.sub (by repeat' first|exact trivial|refine⟨?_,?_⟩|rfl|(simp only[List.length_map];rfl)|simp[PX.get]) ⟨(by first | rfl | (simp only [List.length_map]; rfl) | simp [PX.get]), trivial⟩) ⟨Nat.zero_le _, ?_, by simpa using hRES⟩ ?_
 ·intro q v hv
  simp only at hv
  rw [getV] at hv
  split at hv
  ·cases hv; simp
  ·cases hv
 rintro ⟨i, m⟩ ⟨hi, hb, hr⟩
 simp only at hi hb hr
 conv=>whnf
 refine brk_i (fun h1 => ?_) (fun h1 => ?_)
 ·have h1 : i < N := by have := of_decide_eq_true h1; simp only at this; omega
  obtain ⟨f, hf⟩ : ∃ f, N - i = f + 1 := ⟨N - i - 1, by omega⟩
  rw [hf, roundsM] at hr
  generalize hRM : roundM x.steps m = RM at hr
  conv=>whnf
  refine LoopA_i (T := tys) tysOk (by exact drawsB_spec mixed tysOk (by decide +kernel)) x.steps (fun k (y : PM × Bool) => ⟨[(0, .d (lookD l x)), (6, .mp 16), (7, .d (.bool y.2)), (23, .d (i64 N)), (24, .d (i64 i)), (29, .d (stepsD x.steps)), (30, .d (i64 x.steps.length)), (31, .d (i64 k))], [(16, .map (pmD y.1))], st⟩)
   (fun k r y => r.foldl tryS y = RM ∧ BndM y.1 (100000000 * i + 1100000 * k)) (m, false) (Wk.sub (by repeat' first|exact trivial|refine⟨?_,?_⟩|rfl|(simp only[List.length_map];rfl)|simp[PX.get]) ⟨(by first | rfl | (simp only [List.length_map]; rfl) | simp [PX.get]), trivial⟩) ⟨hRM, by simpa using hb⟩ ?_ ?_
  ·rintro k s r ⟨m1, ch⟩ hs hk hr2 ⟨hfold, hbm⟩
   have hsw := hR.w s (List.mem_of_getElem? hs)
   have hb2 := try_bnd (m := (m1, ch)) hbm hsw
   rw [List.foldl_cons] at hfold
   conv=>whnf
   refine brk_i (fun _ => ?_) (fun h => absurd hk (by simpa using h))
   conv=>whnf
   refine elemK_nat hs ?_
   conv=>whnf
   cases h2 : getV m1 s.a with
   | none =>
    have ht : tryS (m1, ch) s = (m1, ch) := by unfold tryS; simp only [h2]
    rw [ht] at hfold hb2
    refine ⟨none, findV_none (kd := Per.d) same_per h2 0, ?_⟩
    conv=>whnf
    refine arith_in (wrap_i64 (by (try dsimp only); omega)) ?_
    conv=>whnf
    exact ⟨(m1, ch), ⟨hfold, fun q v hv => by have := hb2 q v hv; omega⟩, (Wk.sub (by repeat' first|exact trivial|refine⟨?_,?_⟩|rfl|(simp only[List.length_map];rfl)|simp[PX.get]) ⟨(by first | rfl | (simp only [List.length_map]; rfl) | simp [PX.get]), trivial⟩)⟩
   | some n =>
    have hn := hbm s.a n h2
    obtain ⟨ix, _, hx1, _⟩ := findV_some (kd := Per.d) (vd := i64D) same_per h2 0
    refine ⟨_, hx1, ?_⟩
    conv=>whnf
    cases h3 : getV m1 s.b with
    | none =>
     have ht : tryS (m1, ch) s = (putV m1 s.b (n + s.w), true) := by unfold tryS; simp only [h2, h3]
     refine ⟨none, findV_none (kd := Per.d) same_per h3 0, ?_⟩
     conv=>whnf
     refine arith_in (wrap_i64 (by (try dsimp only); omega)) ?_
     conv=>whnf
     refine ⟨none, findV_none (kd := Per.d) same_per h3 0, ?_⟩
     rw [ht] at hfold hb2
     conv=>whnf
     refine arith_in (wrap_i64 (by (try dsimp only); omega)) ?_
     conv=>whnf
     refine ⟨(putV m1 s.b (n + s.w), true), ⟨hfold, fun q v hv => by have := hb2 q v hv; omega⟩, Wk.sub ⟨rfl, rfl, rfl, rfl, rfl, rfl, rfl, rfl, trivial⟩ ⟨?_, trivial⟩⟩
     exact congrArg (fun z => some (Obj.map z)) (putV2_none (kd := Per.d) (vd := i64D) (n + s.w) h3)
    | some v2 =>
     obtain ⟨iy, _, hy1, hy2, _⟩ := findV_some (kd := Per.d) (vd := i64D) same_per h3 0
     refine ⟨_, hy1, ?_⟩
     conv=>whnf
     refine arith_in (wrap_i64 (by (try dsimp only); omega)) ?_
     conv=>whnf
     refine brk_i (fun h4 => ?_) (fun h4 => ?_)
     ·have h4 : n + s.w < v2 := of_decide_eq_true h4
      have ht : tryS (m1, ch) s = (putV m1 s.b (n + s.w), true) := by unfold tryS; simp only [h2, h3]; rw [if_pos h4]
      conv=>whnf
      refine arith_in (wrap_i64 (by (try dsimp only); omega)) ?_
      conv=>whnf
      refine ⟨_, hy1, ?_⟩
      rw [ht] at hfold hb2
      conv=>whnf
      refine arith_in (wrap_i64 (by (try dsimp only); omega)) ?_
      conv=>whnf
      refine ⟨(putV m1 s.b (n + s.w), true), ⟨hfold, fun q v hv => by have := hb2 q v hv; omega⟩, Wk.sub ⟨rfl, rfl, rfl, rfl, rfl, rfl, rfl, rfl, trivial⟩ ⟨?_, trivial⟩⟩
      (show some (Obj.map ((pmD m1).set (0 + iy) (s.b.d, i64 (n + s.w)))) = _); rw [Nat.zero_add]; exact congrArg (fun z => some (Obj.map z)) (hy2 (n + s.w))
     ·have h4 : ¬ n + s.w < v2 := of_decide_eq_false h4
      have ht : tryS (m1, ch) s = (m1, ch) := by unfold tryS; simp only [h2, h3]; rw [if_neg h4]
      rw [ht] at hfold hb2
      conv=>whnf
      refine arith_in (wrap_i64 (by (try dsimp only); omega)) ?_
      conv=>whnf
      exact ⟨(m1, ch), ⟨hfold, fun q v hv => by have := hb2 q v hv; omega⟩, (Wk.sub (by repeat' first|exact trivial|refine⟨?_,?_⟩|rfl|(simp only[List.length_map];rfl)|simp[PX.get]) ⟨(by first | rfl | (simp only [List.length_map]; rfl) | simp [PX.get]), trivial⟩)⟩
  ·rintro ⟨m1, ch⟩ ⟨hfold, hbm⟩
   have hfold : (m1, ch) = RM := hfold
   conv=>whnf
   refine brk_i (fun h => absurd h (by simp)) (fun _ => ?_)
   conv=>whnf
   refine brk_i (fun h2 => ?_) (fun h2 => ?_)
   ·have h2 : ch = false := by simpa using h2
    subst h2
    rw [← hfold] at hr
    simp only [if_false, Bool.false_eq_true] at hr
    subst hr
    have hbT : BndM m1 10000000000 := fun q v hv => by have := hbm q v hv; omega
    clear hbm
    conv=>whnf
    refine LoopA_i (T := tys) tysOk (by exact drawsB_spec mixed tysOk (by decide +kernel)) x.steps (fun k (_ : Unit) => ⟨[(0, .d (lookD l x)), (6, .mp 16), (75, .d (stepsD x.steps)), (76, .d (i64 x.steps.length)), (77, .d (i64 k))], [(16, .map (pmD m1))], st⟩)
     (fun k r _ => fitM x m1 = r.all fun s => decide (atM m1 s.b ≤ atM m1 s.a + s.w)) () (Wk.sub (by repeat' first|exact trivial|refine⟨?_,?_⟩|rfl|(simp only[List.length_map];rfl)|simp[PX.get]) ⟨(by first | rfl | (simp only [List.length_map]; rfl) | simp [PX.get]), trivial⟩) rfl ?_ ?_
    ·rintro k s r _ hs hk hr2 hall
     have hsw := hR.w s (List.mem_of_getElem? hs)
     rw [List.all_cons] at hall
     conv=>whnf
     refine brk_i (fun _ => ?_) (fun h => absurd hk (by simpa using h))
     conv=>whnf
     refine elemK_nat hs ?_
     conv=>whnf
     have hba := hbT s.a
     have hbb := hbT s.b
     cases h2 : getV m1 s.a with
     | none =>
      have e1 : atM m1 s.a = 0 := by unfold atM; rw [h2]; rfl
      rw [e1] at hall
      refine ⟨none, findV_none (kd := Per.d) same_per h2 0, ?_⟩
      conv=>whnf
      refine arith_in (wrap_i64 (by (try dsimp only); omega)) ?_
      conv=>whnf
      cases h3 : getV m1 s.b with
      | none =>
       have e2 : atM m1 s.b = 0 := by unfold atM; rw [h3]; rfl
       rw [e2] at hall
       refine ⟨none, findV_none (kd := Per.d) same_per h3 0, ?_⟩
       conv=>whnf
       refine brk_i (fun h4 => ?_) (fun h4 => ?_)
       ·have h4 : 0 + s.w < 0 := of_decide_eq_true h4
        rw [decide_eq_false (by omega), Bool.false_and] at hall
        rw [hall]
        simp only [if_false, Bool.false_eq_true]
        conv=>whnf
        exact RetA_view 0 rfl ⟨⟨rfl, rfl⟩, rfl⟩
       ·have h4 : ¬ 0 + s.w < 0 := of_decide_eq_false h4
        rw [decide_eq_true (by omega), Bool.true_and] at hall
        conv=>whnf
        refine arith_in (wrap_i64 (by (try dsimp only); omega)) ?_
        conv=>whnf
        exact ⟨(), hall, (Wk.sub (by repeat' first|exact trivial|refine⟨?_,?_⟩|rfl|(simp only[List.length_map];rfl)|simp[PX.get]) ⟨(by first | rfl | (simp only [List.length_map]; rfl) | simp [PX.get]), trivial⟩)⟩
      | some v2 =>
       have e2 : atM m1 s.b = v2 := by unfold atM; rw [h3]; rfl
       rw [e2] at hall
       obtain ⟨iy, _, hy1, _⟩ := findV_some (kd := Per.d) (vd := i64D) same_per h3 0
       refine ⟨_, hy1, ?_⟩
       conv=>whnf
       refine brk_i (fun h4 => ?_) (fun h4 => ?_)
       ·have h4 : 0 + s.w < v2 := of_decide_eq_true h4
        rw [decide_eq_false (by omega), Bool.false_and] at hall
        rw [hall]
        simp only [if_false, Bool.false_eq_true]
        conv=>whnf
        exact RetA_view 0 rfl ⟨⟨rfl, rfl⟩, rfl⟩
       ·have h4 : ¬ 0 + s.w < v2 := of_decide_eq_false h4
        rw [decide_eq_true (by omega), Bool.true_and] at hall
        conv=>whnf
        refine arith_in (wrap_i64 (by (try dsimp only); omega)) ?_
        conv=>whnf
        exact ⟨(), hall, (Wk.sub (by repeat' first|exact trivial|refine⟨?_,?_⟩|rfl|(simp only[List.length_map];rfl)|simp[PX.get]) ⟨(by first | rfl | (simp only [List.length_map]; rfl) | simp [PX.get]), trivial⟩)⟩
     | some n =>
      have hn := hba n h2
      have e1 : atM m1 s.a = n := by unfold atM; rw [h2]; rfl
      rw [e1] at hall
      obtain ⟨ix, _, hx1, _⟩ := findV_some (kd := Per.d) (vd := i64D) same_per h2 0
      refine ⟨_, hx1, ?_⟩
      conv=>whnf
      refine arith_in (wrap_i64 (by (try dsimp only); omega)) ?_
      conv=>whnf
      cases h3 : getV m1 s.b with
      | none =>
       have e2 : atM m1 s.b = 0 := by unfold atM; rw [h3]; rfl
       rw [e2] at hall
       refine ⟨none, findV_none (kd := Per.d) same_per h3 0, ?_⟩
       conv=>whnf
       refine brk_i (fun h4 => ?_) (fun h4 => ?_)
       ·have h4 : n + s.w < 0 := of_decide_eq_true h4
        rw [decide_eq_false (by omega), Bool.false_and] at hall
        rw [hall]
        simp only [if_false, Bool.false_eq_true]
        conv=>whnf
        exact RetA_view 0 rfl ⟨⟨rfl, rfl⟩, rfl⟩
       ·have h4 : ¬ n + s.w < 0 := of_decide_eq_false h4
        rw [decide_eq_true (by omega), Bool.true_and] at hall
        conv=>whnf
        refine arith_in (wrap_i64 (by (try dsimp only); omega)) ?_
        conv=>whnf
        exact ⟨(), hall, (Wk.sub (by repeat' first|exact trivial|refine⟨?_,?_⟩|rfl|(simp only[List.length_map];rfl)|simp[PX.get]) ⟨(by first | rfl | (simp only [List.length_map]; rfl) | simp [PX.get]), trivial⟩)⟩
      | some v2 =>
       have e2 : atM m1 s.b = v2 := by unfold atM; rw [h3]; rfl
       rw [e2] at hall
       obtain ⟨iy, _, hy1, _⟩ := findV_some (kd := Per.d) (vd := i64D) same_per h3 0
       refine ⟨_, hy1, ?_⟩
       conv=>whnf
       refine brk_i (fun h4 => ?_) (fun h4 => ?_)
       ·have h4 : n + s.w < v2 := of_decide_eq_true h4
        rw [decide_eq_false (by omega), Bool.false_and] at hall
        rw [hall]
        simp only [if_false, Bool.false_eq_true]
        conv=>whnf
        exact RetA_view 0 rfl ⟨⟨rfl, rfl⟩, rfl⟩
       ·have h4 : ¬ n + s.w < v2 := of_decide_eq_false h4
        rw [decide_eq_true (by omega), Bool.true_and] at hall
        conv=>whnf
        refine arith_in (wrap_i64 (by (try dsimp only); omega)) ?_
        conv=>whnf
        exact ⟨(), hall, (Wk.sub (by repeat' first|exact trivial|refine⟨?_,?_⟩|rfl|(simp only[List.length_map];rfl)|simp[PX.get]) ⟨(by first | rfl | (simp only [List.length_map]; rfl) | simp [PX.get]), trivial⟩)⟩
    ·rintro _ hall
     have hall : fitM x m1 = true := hall
     rw [hall]
     simp only [if_true]
     conv=>whnf
     refine brk_i (fun h => absurd h (by simp)) (fun _ => ?_)
     conv=>whnf
     refine RetA_view 1 (ds := [.mv (pmD m1), .bool true]) (viewL_cons (viewV_mp rfl) rfl) ⟨⟨rfl, rfl⟩, rfl⟩
   ·have h2 : ch = true := by simpa using h2
    subst h2
    rw [← hfold] at hr
    simp only [if_true] at hr
    conv=>whnf
    refine arith_in (wrap_i64 (by (try dsimp only); omega)) ?_
    conv=>whnf
    exact ⟨(i + 1, m1), by simp only; omega, ⟨by simp only; omega, fun q v hv => by have := hbm q v hv; simp only; omega, by simp only; rw [show N - (i + 1) = f by omega]; exact hr⟩, (Wk.sub (by repeat' first|exact trivial|refine⟨?_,?_⟩|rfl|(simp only[List.length_map];rfl)|simp[PX.get]) ⟨(by first | rfl | (simp only [List.length_map]; rfl) | simp [PX.get]), trivial⟩)⟩
 ·have h1 : ¬ i < N := by have := of_decide_eq_false h1; simp only at this; omega
  have hm : m = RES := by rw [show N - i = 0 by omega, roundsM] at hr; exact hr
  subst hm
  have hbT : BndM m 10000000000 := fun q v hv => by have := hb q v hv; omega
  clear hb
  conv=>whnf
  refine LoopA_i (T := tys) tysOk (by exact drawsB_spec mixed tysOk (by decide +kernel)) x.steps (fun k (_ : Unit) => ⟨[(0, .d (lookD l x)), (6, .mp 16), (75, .d (stepsD x.steps)), (76, .d (i64 x.steps.length)), (77, .d (i64 k))], [(16, .map (pmD m))], st⟩)
   (fun k r _ => fitM x m = r.all fun s => decide (atM m s.b ≤ atM m s.a + s.w)) () (Wk.sub (by repeat' first|exact trivial|refine⟨?_,?_⟩|rfl|(simp only[List.length_map];rfl)|simp[PX.get]) ⟨(by first | rfl | (simp only [List.length_map]; rfl) | simp [PX.get]), trivial⟩) rfl ?_ ?_
  ·rintro k s r _ hs hk hr2 hall
   have hsw := hR.w s (List.mem_of_getElem? hs)
   rw [List.all_cons] at hall
   conv=>whnf
   refine brk_i (fun _ => ?_) (fun h => absurd hk (by simpa using h))
   conv=>whnf
   refine elemK_nat hs ?_
   conv=>whnf
   have hba := hbT s.a
   have hbb := hbT s.b
   cases h2 : getV m s.a with
   | none =>
    have e1 : atM m s.a = 0 := by unfold atM; rw [h2]; rfl
    rw [e1] at hall
    refine ⟨none, findV_none (kd := Per.d) same_per h2 0, ?_⟩
    conv=>whnf
    refine arith_in (wrap_i64 (by (try dsimp only); omega)) ?_
    conv=>whnf
    cases h3 : getV m s.b with
    | none =>
     have e2 : atM m s.b = 0 := by unfold atM; rw [h3]; rfl
     rw [e2] at hall
     refine ⟨none, findV_none (kd := Per.d) same_per h3 0, ?_⟩
     conv=>whnf
     refine brk_i (fun h4 => ?_) (fun h4 => ?_)
     ·have h4 : 0 + s.w < 0 := of_decide_eq_true h4
      rw [decide_eq_false (by omega), Bool.false_and] at hall
      rw [hall]
      simp only [if_false, Bool.false_eq_true]
      conv=>whnf
      exact RetA_view 0 rfl ⟨⟨rfl, rfl⟩, rfl⟩
     ·have h4 : ¬ 0 + s.w < 0 := of_decide_eq_false h4
      rw [decide_eq_true (by omega), Bool.true_and] at hall
      conv=>whnf
      refine arith_in (wrap_i64 (by (try dsimp only); omega)) ?_
      conv=>whnf
      exact ⟨(), hall, (Wk.sub (by repeat' first|exact trivial|refine⟨?_,?_⟩|rfl|(simp only[List.length_map];rfl)|simp[PX.get]) ⟨(by first | rfl | (simp only [List.length_map]; rfl) | simp [PX.get]), trivial⟩)⟩
    | some v2 =>
     have e2 : atM m s.b = v2 := by unfold atM; rw [h3]; rfl
     rw [e2] at hall
     obtain ⟨iy, _, hy1, _⟩ := findV_some (kd := Per.d) (vd := i64D) same_per h3 0
     refine ⟨_, hy1, ?_⟩
     conv=>whnf
     refine brk_i (fun h4 => ?_) (fun h4 => ?_)
     ·have h4 : 0 + s.w < v2 := of_decide_eq_true h4
      rw [decide_eq_false (by omega), Bool.false_and] at hall
      rw [hall]
      simp only [if_false, Bool.false_eq_true]
      conv=>whnf
      exact RetA_view 0 rfl ⟨⟨rfl, rfl⟩, rfl⟩
     ·have h4 : ¬ 0 + s.w < v2 := of_decide_eq_false h4
      rw [decide_eq_true (by omega), Bool.true_and] at hall
      conv=>whnf
      refine arith_in (wrap_i64 (by (try dsimp only); omega)) ?_
      conv=>whnf
      exact ⟨(), hall, (Wk.sub (by repeat' first|exact trivial|refine⟨?_,?_⟩|rfl|(simp only[List.length_map];rfl)|simp[PX.get]) ⟨(by first | rfl | (simp only [List.length_map]; rfl) | simp [PX.get]), trivial⟩)⟩
   | some n =>
    have hn := hba n h2
    have e1 : atM m s.a = n := by unfold atM; rw [h2]; rfl
    rw [e1] at hall
    obtain ⟨ix, _, hx1, _⟩ := findV_some (kd := Per.d) (vd := i64D) same_per h2 0
    refine ⟨_, hx1, ?_⟩
    conv=>whnf
    refine arith_in (wrap_i64 (by (try dsimp only); omega)) ?_
    conv=>whnf
    cases h3 : getV m s.b with
    | none =>
     have e2 : atM m s.b = 0 := by unfold atM; rw [h3]; rfl
     rw [e2] at hall
     refine ⟨none, findV_none (kd := Per.d) same_per h3 0, ?_⟩
     conv=>whnf
     refine brk_i (fun h4 => ?_) (fun h4 => ?_)
     ·have h4 : n + s.w < 0 := of_decide_eq_true h4
      rw [decide_eq_false (by omega), Bool.false_and] at hall
      rw [hall]
      simp only [if_false, Bool.false_eq_true]
      conv=>whnf
      exact RetA_view 0 rfl ⟨⟨rfl, rfl⟩, rfl⟩
     ·have h4 : ¬ n + s.w < 0 := of_decide_eq_false h4
      rw [decide_eq_true (by omega), Bool.true_and] at hall
      conv=>whnf
      refine arith_in (wrap_i64 (by (try dsimp only); omega)) ?_
      conv=>whnf
      exact ⟨(), hall, (Wk.sub (by repeat' first|exact trivial|refine⟨?_,?_⟩|rfl|(simp only[List.length_map];rfl)|simp[PX.get]) ⟨(by first | rfl | (simp only [List.length_map]; rfl) | simp [PX.get]), trivial⟩)⟩
    | some v2 =>
     have e2 : atM m s.b = v2 := by unfold atM; rw [h3]; rfl
     rw [e2] at hall
     obtain ⟨iy, _, hy1, _⟩ := findV_some (kd := Per.d) (vd := i64D) same_per h3 0
     refine ⟨_, hy1, ?_⟩
     conv=>whnf
     refine brk_i (fun h4 => ?_) (fun h4 => ?_)
     ·have h4 : n + s.w < v2 := of_decide_eq_true h4
      rw [decide_eq_false (by omega), Bool.false_and] at hall
      rw [hall]
      simp only [if_false, Bool.false_eq_true]
      conv=>whnf
      exact RetA_view 0 rfl ⟨⟨rfl, rfl⟩, rfl⟩
     ·have h4 : ¬ n + s.w < v2 := of_decide_eq_false h4
      rw [decide_eq_true (by omega), Bool.true_and] at hall
      conv=>whnf
      refine arith_in (wrap_i64 (by (try dsimp only); omega)) ?_
      conv=>whnf
      exact ⟨(), hall, (Wk.sub (by repeat' first|exact trivial|refine⟨?_,?_⟩|rfl|(simp only[List.length_map];rfl)|simp[PX.get]) ⟨(by first | rfl | (simp only [List.length_map]; rfl) | simp [PX.get]), trivial⟩)⟩
  ·rintro _ hall
   have hall : fitM x m = true := hall
   rw [hall]
   simp only [if_true]
   conv=>whnf
   refine brk_i (fun h => absurd h (by simp)) (fun _ => ?_)
   conv=>whnf
   refine RetA_view 1 (ds := [.mv (pmD m), .bool true]) (viewL_cons (viewV_mp rfl) rfl) ⟨⟨rfl, rfl⟩, rfl⟩
end Go.PX
namespace Go.PX
open Go.Proofs
theorem fold_bnd {x : LkS} (hR : LookR x) : ∀ (l : List PStep) {y : PM × Bool} {B : Int}, (∀ e ∈ l, e ∈ x.steps) → BndM y.1 B → BndM (l.foldl tryS y).1 (B + 1100000 * l.length)
 | [], y, B, _, h => by simpa using h
 | s :: r, y, B, hl, h => by
  rw [List.foldl_cons]
  have := fold_bnd hR r (fun e he => hl e (by simp [he])) (try_bnd h (hR.w s (hl s (by simp))))
  intro p v hv
  have := this p v hv
  rw [List.length_cons]
  omega
theorem rounds_bnd {x : LkS} (hR : LookR x) : ∀ (k : Nat) {m : PM} {B : Int}, BndM m B → 0 ≤ B → BndM (roundsM x.steps k m) (B + 100000000 * k)
 | 0, m, B, h, _ => by rw [roundsM]; simpa using h
 | k + 1, m, B, h, hB => by
  have h1 := fold_bnd hR x.steps (y := (m, false)) (fun e he => he) h
  have hl := hR.len
  have h2 : BndM (roundM x.steps m).1 (B + 100000000) := fun p v hv => by have := h1 p v hv; omega
  rw [roundsM]
  split
  ·intro p v hv
   have := rounds_bnd hR k h2 (by omega) p v hv
   omega
  ·intro p v hv
   have := h2 p v hv
   omega
theorem far_bnd {x : LkS} (hR : LookR x) (p : Per) : BndM (farM x p) 4000000000 := by
 have h0 : BndM [(p, (0 : Int))] 0 := fun q v hv => by
  rw [getV] at hv
  split at hv
  ·cases hv; simp
  ·cases hv
 have := rounds_bnd hR (x.many + 2).toNat h0 (Int.le_refl 0)
 have hm := hR.many
 intro q v hv
 have := this q v hv
 omega
theorem at_bnd {x : LkS} (hR : LookR x) (p q : Per) : -4000000000 ≤ atM (farM x p) q ∧ atM (farM x p) q ≤ 4000000000 := by
 unfold atM
 cases h : getV (farM x p) q with
 | none => simp
 | some v => exact far_bnd hR p q v h
theorem find_at (m : PM) (q : Per) : ∃ r, findD q.d (pmD m) 0 = some r ∧ ((r = none ∧ atM m q = 0) ∨ ∃ i, r = some (i, i64 (atM m q))) := by
 cases h : getV m q with
 | none => exact ⟨none, findV_none (kd := Per.d) same_per h 0, .inl ⟨rfl, by unfold atM; rw [h]; rfl⟩⟩
 | some v =>
  obtain ⟨ix, _, hx, _⟩ := findV_some (kd := Per.d) (vd := i64D) same_per h 0
  exact ⟨_, hx, .inr ⟨0 + ix, by unfold atM; rw [h]; rfl⟩⟩
theorem pa72 (l : PLog) (x : LkS) (hR : LookR x) (p q : Per) (hp : fitM x (farM x p) = true) (hq : fitM x (farM x q) = true) : FnV Tryz.prog 72 [lookD l x, p.d, q.d] (aheadF x p q).d := by
 refine fnV_of mixed tysOk Tryz.func72 rfl (ft := ft72) 3 (by decide +kernel) (by rfl) fun {σ} Y st => ?_
 conv=>whnf
 have h1 : FnV Tryz.prog 69 [lookD l x, q.d] (.tup [.mv (pmD (farM x q)), .bool true]) := FnV.cast (fun {σ} => pa69 l x hR q) (by rw [hq]; rfl)
 have h2 : FnV Tryz.prog 69 [lookD l x, p.d] (.tup [.mv (pmD (farM x p)), .bool true]) := FnV.cast (fun {σ} => pa69 l x hR p) (by rw [hp]; rfl)
 have hb := at_bnd hR p q
 refine CallA_v (h1) rfl rfl ?_
 conv=>whnf
 refine CallA_v (h2) rfl rfl ?_
 conv=>whnf
 obtain ⟨r1, hr1, hc1⟩ := find_at (farM x p) q
 refine ⟨r1, hr1, ?_⟩
 rcases hc1 with ⟨rfl, e1⟩ | ⟨i1, rfl⟩
 ·conv=>whnf
  refine arith_in (wrap_i64 (by (try dsimp only); omega)) ?_
  conv=>whnf
  obtain ⟨r2, hr2, hc2⟩ := find_at (farM x q) p
  refine ⟨r2, hr2, ?_⟩
  rcases hc2 with ⟨rfl, e2⟩ | ⟨i2, rfl⟩
  ·have hd : (aheadF x p q).d = .agg [i64 (0 - 0), i64 0] := by unfold aheadF; rw [e2, Int.zero_sub]; rw [e1]; rfl
   rw [hd]
   conv=>whnf
   exact RetA_view 0 rfl ⟨⟨rfl, rfl⟩, rfl⟩
  ·have hd : (aheadF x p q).d = .agg [i64 (0 - 0), i64 (atM (farM x q) p)] := by unfold aheadF; rw [Int.zero_sub]; rw [e1]; rfl
   rw [hd]
   conv=>whnf
   exact RetA_view 0 rfl ⟨⟨rfl, rfl⟩, rfl⟩
 ·conv=>whnf
  refine arith_in (wrap_i64 (by (try dsimp only); omega)) ?_
  conv=>whnf
  obtain ⟨r2, hr2, hc2⟩ := find_at (farM x q) p
  refine ⟨r2, hr2, ?_⟩
  rcases hc2 with ⟨rfl, e2⟩ | ⟨i2, rfl⟩
  ·have hd : (aheadF x p q).d = .agg [i64 (0 - atM (farM x p) q), i64 0] := by unfold aheadF; rw [e2, Int.zero_sub]; rfl
   rw [hd]
   conv=>whnf
   exact RetA_view 0 rfl ⟨⟨rfl, rfl⟩, rfl⟩
  ·have hd : (aheadF x p q).d = .agg [i64 (0 - atM (farM x p) q), i64 (atM (farM x q) p)] := by unfold aheadF; rw [Int.zero_sub]; rfl
   rw [hd]
   conv=>whnf
   exact RetA_view 0 rfl ⟨⟨rfl, rfl⟩, rfl⟩
end Go.PX
namespace Go.PX
open Go.Proofs
def bookAt (l : PLog) (i : Int) : PBook := (l.books[i.toNat]?).getD ⟨.empty, ⟨0, 0⟩, ⟨0, 0⟩, []⟩
def checkN (l : PLog) : Int := (checkP l).2.2
def fitsP (l : PLog) : Bool × Int := if checkN l = 0 then (fitP l 0 [], 0) else (false, checkN l)
def offsL (l : PLog) (book : Int) : List Span := (List.range (setsN (bookAt l book).ents + 1)).map fun (n : Nat) => aheadF (lookF l 0 []) ⟨book, n⟩ .right
def offsF (l : PLog) (book : Int) : List Span × Int :=
 if checkN l = 0 then
  if outB book 0 ((l.books.length : Int) - 1) then ([], 4)
  else if fitP l 0 [] then (offsL l book, 0) else ([], 9)
 else ([], checkN l)
def isAt (l : PLog) (x : PAt) : Bool := !outB x.book 0 ((l.books.length : Int) - 1) && !outB x.entry 0 (((bookAt l x.book).ents.length : Int) - 1)
def entrP (l : PLog) (xs : List PAt) : Int := if checkN l = 0 then (if xs.all (isAt l) then 0 else 4) else checkN l
def downE (l : PLog) (xs : List PAt) : Int := if entrP l xs = 0 then (if fitP l 0 [] then 0 else 9) else entrP l xs
def perX (l : PLog) (x : PAt) : Per := perAt (lookF l 0 []).pers x
def instS (l : PLog) (x : PAt) : Span :=
 ⟨(entAt l x).shown - (aheadF (lookF l 0 []) (perX l x) .right).hi, (entAt l x).shown - (aheadF (lookF l 0 []) (perX l x) .right).lo⟩
def instF (l : PLog) (x : PAt) : Span × Int := if downE l [x] = 0 then (instS l x, 0) else (⟨0, 0⟩, downE l [x])
def apartS (l : PLog) (a b : PAt) : Span :=
 ⟨((entAt l b).shown - (entAt l a).shown) - (aheadF (lookF l 0 []) (perX l b) (perX l a)).hi, ((entAt l b).shown - (entAt l a).shown) - (aheadF (lookF l 0 []) (perX l b) (perX l a)).lo⟩
def orderS (s : Span) : Int := if s = ⟨0, 0⟩ then 3 else if 0 < s.lo then 1 else if s.hi < 0 then 2 else 0
def apartF (l : PLog) (a b : PAt) : Span × Int × Int := if downE l [a, b] = 0 then (apartS l a b, orderS (apartS l a b), 0) else (⟨0, 0⟩, 0, downE l [a, b])
def sameB (l : PLog) (x : PAt) (i k : Nat) (y : PEnt) : Bool :=
 !decide ((i : Int) = x.book) && (decide (y.kind = 1) && (decide (y.word = (entAt l x).word) && (decide ((apartS l x ⟨i, k⟩).lo ≤ l.near) && decide (-l.near ≤ (apartS l x ⟨i, k⟩).hi))))
def sameE (l : PLog) (x : PAt) (i : Nat) : Nat → List PEnt → List PAt
 | _, [] => []
 | k, y :: r => if sameB l x i k y then ⟨i, k⟩ :: sameE l x i (k + 1) r else sameE l x i (k + 1) r
def sameLP (l : PLog) (x : PAt) : Nat → List PBook → List PAt
 | _, [] => []
 | i, b :: r => sameE l x i 0 b.ents ++ sameLP l x (i + 1) r
def sameF (l : PLog) (x : PAt) : List PAt × Int :=
 if entrP l [x] = 0 then
  if (entAt l x).kind = 1 then (if fitP l 0 [] then (sameLP l x 0 l.books, 0) else ([], 9)) else ([], 2)
 else ([], entrP l [x])
def leastB (does : Int → Bool) : Nat → Int → Int → Int
 | 0, _, hi => hi
 | k + 1, lo, hi => if hi - lo > 1 then (if does ((lo + hi) / 2) then leastB does k lo ((lo + hi) / 2) else leastB does k ((lo + hi) / 2) hi) else hi
def needF (l : PLog) : Int × Int :=
 if checkN l = 0 then (if fitP l 1048576 [] then (leastB (fun w => fitP l w []) 40 (-1) 1048576, 0) else (0, 9)) else (0, checkN l)
def hasN (b : PBook) (n : Int) : Nat := (b.ents.filter fun y => decide (y.kind = 3 ∧ y.number = n)).length
def inN (l : PLog) (n : Int) : Nat := (l.books.filter fun b => decide (0 < hasN b n)).length
def mostN (l : PLog) (n : Int) : Nat := (l.books.map fun b => hasN b n).foldl max 0
def sharedL (l : PLog) : List Int := ((List.range' 0 100).map fun (n : Nat) => (n : Int)).filter fun n => decide (1 < inN l n)
def listsL (of : List Int) : Nat → List Int → Nat → List (List Int)
 | 0, p, _ => [p]
 | left + 1, p, start => (List.range' start (of.length - left - start)).flatMap fun (i : Nat) => listsL of left (p ++ [(of[i]?).getD 0]) (i + 1)
def listsF (of : List Int) : List (List Int) := (List.range' 0 (of.length + 1)).flatMap fun (n : Nat) => listsL of n [] 0
def confF (l : PLog) : List Int × Int :=
 if checkN l = 0 then (match (listsF (sharedL l)).find? (fitP l 0) with
  | some c => (c, 0)
  | none => ([], 9)) else ([], checkN l)
def repsL (l : PLog) : List PEnt := (l.books.flatMap PBook.ents).filter fun y => decide (y.kind = 3)
def twiceB : List (Int × ByteArray) → List PEnt → Bool
 | _, [] => false
 | m, y :: r => match getV m y.number with
  | some w => if w = y.word then twiceB (putV m y.number y.word) r else true
  | none => twiceB (putV m y.number y.word) r
def lastN (l : PLog) : Int := (repsL l).foldl (fun m y => max m y.number) 0
def missL (l : PLog) : List Int := ((List.range' 1 (lastN l).toNat).map fun (n : Nat) => (n : Int)).filter fun n => decide (inN l n = 0)
def copyL (l : PLog) : List Int := ((List.range' 1 (lastN l).toNat).map fun (n : Nat) => (n : Int)).filter fun n => decide (inN l n ≠ 0) && decide (1 < mostN l n)
def repF (l : PLog) : List Int × List Int × Int :=
 if checkN l = 0 then (if twiceB [] (repsL l) then ([], [], 5) else (missL l, copyL l, 0)) else ([], [], checkN l)
theorem entsE_of : ∀ {r : List PEnt} {k : Nat}, (∀ x ∈ r, entE x = 0) → entsE r k = (0, 0)
 | [], _, _ => rfl
 | y :: r, k, h => by rw [entsE, if_pos (h y (List.mem_cons_self ..))]; exact entsE_of fun x hx => h x (List.mem_cons_of_mem _ hx)
theorem entsE_ok : ∀ {r : List PEnt} {k : Nat}, (entsE r k).2 = 0 → ∀ x ∈ r, entE x = 0
 | [], _, _, x, hx => by cases hx
 | y :: r, k, h, x, hx => by
  rw [entsE] at h
  split at h
  ·rename_i h1
   rcases List.mem_cons.1 hx with rfl | hx
   ·exact h1
   ·exact entsE_ok h x hx
  ·rename_i h1; exact absurd h h1
theorem booksE_iff : ∀ {bs pre : List PBook} {i : Nat}, (booksE pre bs i).2.2 = 0 ↔ ∀ k b, bs[k]? = some b → headE (pre ++ bs.take k) b = 0 ∧ ∀ x ∈ b.ents, entE x = 0
 | [], pre, i => by simp [booksE]
 | c :: r, pre, i => by
  rw [booksE]
  by_cases h1 : headE pre c = 0
  ·rw [if_pos h1]
   by_cases h2 : (entsE c.ents 0).2 = 0
   ·rw [if_pos h2, booksE_iff]
    constructor
    ·intro h k b hb
     cases k with
     | zero =>
      rw [List.getElem?_cons_zero] at hb
      cases hb
      rw [List.take_zero, List.append_nil]
      exact ⟨h1, entsE_ok h2⟩
     | succ k =>
      rw [List.getElem?_cons_succ] at hb
      have := h k b hb
      rw [List.take_succ_cons]
      rwa [List.append_assoc] at this
    ·intro h k b hb
     have := h (k + 1) b (by rw [List.getElem?_cons_succ]; exact hb)
     rw [List.take_succ_cons] at this
     rwa [List.append_assoc]
   ·rw [if_neg h2]
    constructor
    ·intro h; exact absurd h h2
    ·intro h
     have := (h 0 c rfl).2
     exact absurd (by rw [entsE_of this]) h2
  ·rw [if_neg h1]
   constructor
   ·intro h; exact absurd h h1
   ·intro h
    have := (h 0 c rfl).1
    rw [List.take_zero, List.append_nil] at this
    exact absurd this h1
theorem inB_iff {n lo hi : Int} : inB n lo hi = true ↔ lo ≤ n ∧ n ≤ hi := by
 unfold inB
 rw [Bool.and_eq_true, decide_eq_true_eq, decide_eq_true_eq]
theorem outB_iff {n lo hi : Int} : outB n lo hi = false ↔ lo ≤ n ∧ n ≤ hi := by
 unfold outB
 rw [Bool.not_eq_false', inB_iff]
theorem check_iff {l : PLog} : checkN l = 0 ↔ (0 ≤ l.near ∧ l.near ≤ 60) ∧ (1 ≤ l.books.length ∧ l.books.length ≤ 3) ∧ ∀ k b, l.books[k]? = some b → headE (l.books.take k) b = 0 ∧ ∀ x ∈ b.ents, entE x = 0 := by
 unfold checkN checkP
 cases h1 : outB l.near 0 60 with
 | true =>
  simp only [if_true]
  constructor
  ·intro h; cases h
  ·intro h
   have := outB_iff.2 h.1
   rw [h1] at this; cases this
 | false =>
  simp only [Bool.false_eq_true, if_false]
  have h1 := outB_iff.1 h1
  cases h2 : outB l.books.length 1 3 with
  | true =>
   simp only [if_true]
   constructor
   ·intro h; cases h
   ·intro h
    have := outB_iff (n := l.books.length) (lo := 1) (hi := 3) |>.2 (by omega)
    rw [h2] at this; cases this
  | false =>
   simp only [Bool.false_eq_true, if_false]
   have h2 := outB_iff.1 h2
   rw [booksE_iff]
   simp only [List.nil_append]
   exact ⟨fun h => ⟨h1, by omega, h⟩, fun h => h.2.2⟩
theorem checkP_ok {l : PLog} (h : checkN l = 0) : checkP l = (0, 0, 0) := by
 have key : ∀ {bs pre : List PBook} {i : Nat}, (booksE pre bs i).2.2 = 0 → booksE pre bs i = (0, 0, 0) := by
  intro bs
  induction bs with
  | nil => intros; rfl
  | cons c r ih =>
   intro pre i h
   rw [booksE] at h ⊢
   by_cases h1 : headE pre c = 0
   ·rw [if_pos h1] at h ⊢
    by_cases h2 : (entsE c.ents 0).2 = 0
    ·rw [if_pos h2] at h ⊢
     exact ih h
    ·rw [if_neg h2] at h; exact absurd h h2
   ·rw [if_neg h1] at h; exact absurd h h1
 have hi := check_iff.1 h
 have h1 := outB_iff.2 hi.1
 have h2 := outB_iff (n := l.books.length) (lo := 1) (hi := 3) |>.2 (by omega)
 unfold checkN checkP at h
 unfold checkP
 rw [h1, h2] at h ⊢
 simp only [Bool.false_eq_true, if_false] at h ⊢
 exact key h
structure EntR (x : PEnt) : Prop where
 shown : 0 ≤ x.shown ∧ x.shown ≤ 20000
 kind : 1 ≤ x.kind ∧ x.kind ≤ 3
 number : 0 ≤ x.number ∧ x.number ≤ 99
 pass : x.kind = 1 → nameF x.word = true ∧ x.number = 0
 set : x.kind = 2 → x.word = .empty ∧ x.number = 0
 rep : x.kind = 3 → nameF x.word = true ∧ 1 ≤ x.number
theorem entE_iff {x : PEnt} : entE x = 0 ↔ EntR x := by
 unfold entE
 cases h0 : outB x.shown 0 20000 with
 | true =>
  simp only [if_true]
  refine ⟨fun h => (by cases h), fun h => ?_⟩
  have := outB_iff.2 h.shown
  rw [h0] at this; cases this
 | false =>
  have h0 := outB_iff.1 h0
  simp only [Bool.false_eq_true, if_false]
  by_cases h1 : x.kind = 1
  ·rw [if_pos h1]
   constructor
   ·intro h
    split at h
    case isFalse => cases h
    rename_i h2
    rw [Bool.and_eq_true, decide_eq_true_eq] at h2
    exact ⟨h0, by omega, by omega, fun _ => h2, fun h => by omega, fun h => by omega⟩
   ·intro h
    rw [if_pos (by rw [(h.pass h1).1, decide_eq_true (h.pass h1).2]; rfl)]
  ·rw [if_neg h1]
   by_cases h2 : x.kind = 2
   ·rw [if_pos h2]
    constructor
    ·intro h
     split at h
     case isFalse => cases h
     rename_i h3
     rw [Bool.and_eq_true, decide_eq_true_eq, decide_eq_true_eq] at h3
     exact ⟨h0, by omega, by omega, fun h => by omega, fun _ => h3, fun h => by omega⟩
    ·intro h
     rw [if_pos (by rw [decide_eq_true (h.set h2).1, decide_eq_true (h.set h2).2]; rfl)]
   ·rw [if_neg h2]
    by_cases h3 : x.kind = 3
    ·rw [if_pos h3]
     constructor
     ·intro h
      split at h
      case isFalse => cases h
      rename_i h4
      rw [Bool.and_eq_true, Bool.not_eq_true', outB_iff] at h4
      exact ⟨h0, by omega, by omega, fun h => by omega, fun h => by omega, fun _ => ⟨h4.1, h4.2.1⟩⟩
     ·intro h
      have := outB_iff (n := x.number) (lo := 1) (hi := 99) |>.2 ⟨(h.rep h3).2, h.number.2⟩
      rw [if_pos (by rw [(h.rep h3).1, this]; rfl)]
    ·rw [if_neg h3]
     exact ⟨fun h => (by cases h), fun h => by have := h.kind; omega⟩
structure HeadR (pre : List PBook) (b : PBook) : Prop where
 name : nameF b.name = true
 fresh : ∀ x ∈ pre, x.name ≠ b.name
 off : -720 ≤ b.off.lo ∧ b.off.lo ≤ b.off.hi ∧ b.off.hi ≤ 720
 set : -720 ≤ b.set.lo ∧ b.set.lo ≤ b.set.hi ∧ b.set.hi ≤ 720
 ents : b.ents.length ≤ 8
theorem headE_iff {pre : List PBook} {b : PBook} : headE pre b = 0 ↔ HeadR pre b := by
 unfold headE
 cases h1 : nameF b.name with
 | false =>
  simp only [Bool.false_eq_true, if_false]
  exact ⟨fun h => (by cases h), fun h => by rw [h.name] at h1; cases h1⟩
 | true =>
  simp only [if_true]
  cases h2 : pre.any fun x => decide (x.name = b.name) with
  | true =>
   simp only [if_true]
   refine ⟨fun h => (by cases h), fun h => ?_⟩
   rw [List.any_eq_true] at h2
   obtain ⟨x, hx, he⟩ := h2
   exact absurd (of_decide_eq_true he) (h.fresh x hx)
  | false =>
   simp only [Bool.false_eq_true, if_false]
   have hfr : ∀ x ∈ pre, x.name ≠ b.name := fun x hx he => by
    rw [List.any_eq_false] at h2
    exact h2 x hx (decide_eq_true he)
   cases h3 : outB b.off.lo (-720) 720 || outB b.off.hi (-720) 720 || outB b.set.lo (-720) 720 || outB b.set.hi (-720) 720 with
   | true =>
    simp only [if_true]
    refine ⟨fun h => (by cases h), fun h => ?_⟩
    have ho := h.off
    have hs := h.set
    rw [outB_iff.2 (by omega), outB_iff.2 (by omega), outB_iff.2 (by omega), outB_iff.2 (by omega)] at h3
    cases h3
   | false =>
    simp only [Bool.or_eq_false_iff, outB_iff] at h3
    simp only [Bool.false_eq_true, if_false]
    cases h4 : decide (b.off.lo > b.off.hi) || decide (b.set.lo > b.set.hi) with
    | true =>
     simp only [if_true]
     refine ⟨fun h => (by cases h), fun h => ?_⟩
     have ho := h.off
     have hs := h.set
     rw [decide_eq_false (by omega), decide_eq_false (by omega)] at h4
     cases h4
    | false =>
     simp only [Bool.or_eq_false_iff, decide_eq_false_iff_not] at h4
     simp only [Bool.false_eq_true, if_false]
     split
     ·rename_i h5
      exact ⟨fun h => (by cases h), fun h => by have := h.ents; omega⟩
     ·exact ⟨fun _ => ⟨h1, hfr, by omega, by omega, by omega⟩, fun _ => rfl⟩
theorem check_ok {l : PLog} (h : checkN l = 0) : LogR l := by
 obtain ⟨h1, h2, h3⟩ := check_iff.1 h
 refine ⟨h1, h2, fun b hb => ?_⟩
 obtain ⟨k, hk⟩ := List.getElem?_of_mem hb
 obtain ⟨h4, h5⟩ := h3 k b hk
 have h4 := headE_iff.1 h4
 exact ⟨h4.off, h4.set, h4.ents, fun x hx => by have := entE_iff.1 (h5 x hx); exact ⟨this.shown, this.kind, this.number⟩⟩
theorem look_R {l : PLog} (hR : LogR l) {w : Int} (hw : 0 ≤ w ∧ w ≤ 1048576) (conf : List Int) : LookR (lookF l w conf) := by
 refine ⟨look_len hR w conf, fun e he => just_w hR hw (look_sub e he), ?_⟩
 have h := lookS_ok (N := nodesL l) (l := l) (wider := w) (conf := conf) (by simp [nodesL]) l.books (i := 0) (done := []) (s := ⟨[], 0, [], []⟩) ⟨fun e he => (by cases he), fun x hx => (by cases hx), rfl, fun p hp => (by cases hp)⟩ (fun p hp => List.mem_cons_of_mem _ hp)
 have hm : (lookF l w conf).many = ((nodesF 0 l.books).length : Nat) := by have := h.many; rwa [List.nil_append] at this
 rw [hm, nodesF_len]
 have key : ∀ bs : List PBook, (∀ b ∈ bs, BookR b) → manyP bs ≤ 9 * bs.length := by
  intro bs
  induction bs with
  | nil => intro _; exact Nat.le_refl _
  | cons b r ih =>
   intro h
   have := ih fun c hc => h c (List.mem_cons_of_mem _ hc)
   have h2 := setsN_le b
   have h3 := (h b (List.mem_cons_self ..)).ents
   rw [manyP_cons, List.length_cons]; omega
 have := key l.books hR.book
 have := hR.books
 omega
theorem isAt_iff {l : PLog} {x : PAt} : isAt l x = true ↔ ∃ (i k : Nat) (b : PBook) (y : PEnt), x = ⟨i, k⟩ ∧ At l i k b y := by
 unfold isAt
 rw [Bool.and_eq_true, Bool.not_eq_true', Bool.not_eq_true', outB_iff, outB_iff]
 constructor
 ·rintro ⟨⟨h1, h2⟩, h3, h4⟩
  obtain ⟨b, hb⟩ : ∃ b, l.books[x.book.toNat]? = some b := ⟨_, List.getElem?_eq_getElem (by omega)⟩
  have hba : bookAt l x.book = b := by unfold bookAt; rw [hb]; rfl
  rw [hba] at h4
  obtain ⟨y, hy⟩ : ∃ y, b.ents[x.entry.toNat]? = some y := ⟨_, List.getElem?_eq_getElem (by omega)⟩
  refine ⟨x.book.toNat, x.entry.toNat, b, y, ?_, hb, hy⟩
  cases x
  simp only [PAt.mk.injEq]
  simp only at h1 h3
  omega
 ·rintro ⟨i, k, b, y, rfl, h⟩
  have h1 := (List.getElem?_eq_some_iff.1 h.book).1
  have h2 := (List.getElem?_eq_some_iff.1 h.ent).1
  have hba : bookAt l ((⟨i, k⟩ : PAt).book) = b := by unfold bookAt; simp only [Int.toNat_natCast, h.book, Option.getD_some]
  rw [hba]
  simp only
  omega
theorem perX_of {l : PLog} {i k : Nat} {b : PBook} {y : PEnt} (h : At l i k b y) : perX l ⟨i, k⟩ = ⟨i, perOf b k⟩ :=
 perAt_of h ((look_done l 0 []).pers.2 i b h.book (at_lt h))
theorem per_node {l : PLog} {i n : Nat} {b : PBook} (h : l.books[i]? = some b) (hn : n ≤ setsN b.ents) : (⟨i, n⟩ : Per) ∈ nodesL l := List.mem_of_getElem? (nodes_at h hn)
theorem perX_node {l : PLog} {x : PAt} (h0 : isAt l x = true) : perX l x ∈ nodesL l := by
 obtain ⟨i, k, b, y, rfl, h⟩ := isAt_iff.1 h0
 rw [perX_of h]
 exact per_node h.book (perOf_le b k)
theorem right_node (l : PLog) : Per.right ∈ nodesL l := List.mem_cons_self ..
theorem fit_far {l : PLog} {w : Int} {conf : List Int} (hf : fitP l w conf = true) {p : Per} (hp : p ∈ nodesL l) : fitM (lookF l w conf) (farM (lookF l w conf) p) = true := by
 have hs := look_star l w conf
 exact (hs.fit hp).2 ((hs.fit hs.right).1 hf)
end Go.PX
namespace Go.PX
open Go.Proofs
end Go.PX
namespace Go.PX
open Go.Proofs
end Go.PX
namespace Go.PX
open Go.Proofs Go.RowKit Go.ChangeShapes
theorem c3 : Tryz.prog.cellsOf 3 = 1 := by kernel_rfl
theorem c9 : Tryz.prog.cellsOf 9 = 1 := by kernel_rfl
theorem c22 : Tryz.prog.cellsOf 22 = 1 := by kernel_rfl
theorem c24 : Tryz.prog.cellsOf 24 = 2 := by kernel_rfl
theorem c37 : Tryz.prog.cellsOf 37 = 2 := by kernel_rfl
theorem c75 : Tryz.prog.cellsOf 75 = 4 := by kernel_rfl
theorem c80 : Tryz.prog.cellsOf 80 = 1 := by kernel_rfl
theorem c82 : Tryz.prog.cellsOf 82 = 6 := by kernel_rfl
section
variable (W : World)
theorem rdInt : Rd Tryz.prog W 3 fun ds => ∃ n, ds = [i64 n] := Rd.int Tryz.underlying3
theorem rdStr : Rd Tryz.prog W 9 fun ds => ∃ s, ds = [.str s] := Rd.str Tryz.underlying9
theorem rdSpan : Rd Tryz.prog W 37 fun ds => ∃ p : Span, ds = p.cells :=
 (Rd.struct Tryz.underlying37 c37 (.cons rfl c3 (rdInt W) (.cons rfl c3 (rdInt W) (.nil _)))).mono fun ds h => by
  obtain ⟨_, _, rfl, ⟨a, rfl⟩, _, _, rfl, ⟨b, rfl⟩, rfl⟩ := h
  exact ⟨⟨a, b⟩, rfl⟩
theorem rdEnt : Rd Tryz.prog W 75 fun ds => ∃ x : PEnt, ds = x.cells :=
 (Rd.struct Tryz.underlying75 c75 (.cons rfl c3 (rdInt W) (.cons rfl c3 (rdInt W) (.cons rfl c9 (rdStr W) (.cons rfl c3 (rdInt W) (.nil _)))))).mono fun ds h => by
  obtain ⟨_, _, rfl, ⟨a, rfl⟩, _, _, rfl, ⟨b, rfl⟩, _, _, rfl, ⟨c, rfl⟩, _, _, rfl, ⟨d, rfl⟩, rfl⟩ := h
  exact ⟨⟨a, b, c, d⟩, rfl⟩
theorem rdEnts : Rd Tryz.prog W 80 fun ds => ∃ l : List PEnt, ds = [entsD l] :=
 (Rd.slice Tryz.underlying80 c75 (by omega) (rdEnt W)).mono fun ds h => by
  obtain ⟨es, rfl, he⟩ := h
  obtain ⟨l, rfl⟩ := list_of (f := PEnt.cells) (fun _ h => h) he
  exact ⟨l, rfl⟩
theorem rdBook : Rd Tryz.prog W 82 fun ds => ∃ b : PBook, ds = b.cells :=
 (Rd.struct Tryz.underlying82 c82 (.cons rfl c9 (rdStr W) (.cons rfl c37 (rdSpan W) (.cons rfl c37 (rdSpan W) (.cons rfl c80 (rdEnts W) (.nil _)))))).mono fun ds h => by
  obtain ⟨_, _, rfl, ⟨a, rfl⟩, _, _, rfl, ⟨b, rfl⟩, _, _, rfl, ⟨c, rfl⟩, _, _, rfl, ⟨d, rfl⟩, rfl⟩ := h
  exact ⟨⟨a, b, c, d⟩, rfl⟩
theorem rdBooks : Rd Tryz.prog W 22 fun ds => ∃ l : List PBook, ds = [booksD l] :=
 (Rd.slice Tryz.underlying22 c82 (by omega) (rdBook W)).mono fun ds h => by
  obtain ⟨es, rfl, he⟩ := h
  obtain ⟨l, rfl⟩ := list_of (f := PBook.cells) (fun _ h => h) he
  exact ⟨l, rfl⟩
theorem rdLog : Rd Tryz.prog W 24 fun ds => ∃ c : PLog, ds = c.cells :=
 (Rd.struct Tryz.underlying24 c24 (.cons rfl c3 (rdInt W) (.cons rfl c22 (rdBooks W) (.nil _)))).mono fun ds h => by
  obtain ⟨_, _, rfl, ⟨a, rfl⟩, _, _, rfl, ⟨b, rfl⟩, rfl⟩ := h
  exact ⟨⟨a, b⟩, rfl⟩
end
end Go.PX
namespace Go.PX
open Go.RowKit
structure Grown (w w' : World) : Prop where
 os : w'.os = w.os
 tape : w'.tape = w.tape
 output : w'.output = w.output
 size : w.heap.size ≤ w'.heap.size
 heap : ∀ b, b < w.heap.size → w'.heap[b]? = w.heap[b]?
theorem Grown.refl (w : World) : Grown w w := ⟨rfl, rfl, rfl, Nat.le_refl _, fun _ _ => rfl⟩
theorem Grown.tr {w w' : World} (h : Grown w w') {F F' : Nat → Nat} (hf : ∀ b, w.heap.size ≤ b → F b = 0) (hF : ∀ b, b < w.heap.size → F' b = F b) : Tr F w F' w' := by
 have lt : ∀ b o, o < F b → b < w.heap.size := fun b o ho => by
  rcases Nat.lt_or_ge b w.heap.size with h | h
  ·exact h
  ·rw [hf b h] at ho; omega
 refine ⟨h.os, h.tape, h.output, h.size, fun b => ?_, fun b o ho => cell_heap (h.heap b (lt b o ho)), fun b e c hb hm => by rw [h.heap b (lt b 0 hb)]; exact hm⟩
 rcases Nat.lt_or_ge b w.heap.size with h | h
 ·rw [hF b h]; exact Nat.le_refl _
 ·rw [hf b h]; exact Nat.zero_le _
theorem fnV_calls {P : Program} {f : FuncId} {ds : List D} {r : D} (he : ∀ (vs : Array Value) (w : World), (callFunc f vs).run P w = .ok (.enter f vs) w)
  (h : ∀ (vals : Array Value) (w : World) (F : Nat → Nat), Laid P w → (∀ b, w.heap.size ≤ b → F b = 0) → RepDL F w ds vals.toList →
   Calls P f vals w fun e w' => ∃ x, e = .returned x ∧ Grown w w' ∧ ∃ F', (∀ b, b < w.heap.size → F' b = F b) ∧ (∀ b, w'.heap.size ≤ b → F' b = 0) ∧ RepD F' w' r x) : FnV P f ds r := by
 intro σ Y s
 refine ⟨he, fun cx hY L F vals w hh hr => ?_⟩
 refine (callsIn_wide.2 (h vals w F (hY.laid _ _ _ hh.hg) hh.fresh (RepVL.inj.1 hr))).mono ?_
 rintro e w' ⟨x, rfl, hgr, F', hF, hf', hx⟩
 have tr := hgr.tr hh.fresh hF
 refine ⟨x, rfl, _, [], s, L, F', ⟨⟨rfl, rfl⟩, rfl⟩, ⟨cx.stable hh.hg tr hf' fun b hb => ⟨hgr.heap b (hh.csz b hb), hF b (hh.csz b hb)⟩, fun b hb => Nat.lt_of_lt_of_le (hh.csz b hb) hgr.size, hf', (fun _ _ h => by cases h), (fun _ _ h => by cases h), (fun _ _ _ _ h => by cases h)⟩, hx, tr, fun _ _ => ⟨rfl, rfl⟩⟩
theorem enters {P : Program} {f : FuncId} {fn : Func} {c : Code} (hf : P.funcs[f]? = some fn) (hb : fn.body = some c) (hname : (fn.name != "runtime.NumGoroutine") = true) (vs : Array Value) (w : World) : (callFunc f vs).run P w = .ok (.enter f vs) w := by
 simp only [bne_iff_ne, ne_eq] at hname
 simp [callFunc, hf, hname, hb, Go.mark]
end Go.PX
namespace Go.PX
open Go.Proofs
open Go.RowKit Go.Proofs
set_option maxHeartbeats 1000000 in
set_option maxRecDepth 100000 in
theorem bld_used (b : Nat) (w : World) (h0 : w.cell? ⟨b, 0, none⟩ = some (.pointer (some ⟨b, 0, none⟩))) :
  Calls Tryz.prog 130 #[.pointer (some ⟨b, 0, none⟩)] w fun e w' => e = .returned (.tuple #[]) ∧ w' = w := by
 obtain ⟨j, hj, hjs⟩ := Option.map_eq_some_iff.1 (show (Tryz.prog.info? 188).map (·.size) = some 2 by kernel_rfl)
 go_enter Tryz.func130, Tryz.ntmps130
 go_wp2
 rw [Lib.run_neq_ptr_same w _ Tryz.underlying185 hj]
 go_wp2
 go_end0
 exact ⟨rfl, rfl⟩
set_option maxHeartbeats 1000000 in
set_option maxRecDepth 100000 in
theorem bld_fresh (b : Nat) (w : World) (h0 : w.cell? ⟨b, 0, none⟩ = some (.pointer none)) (hsh : w.shape? b = some (188, 2)) (hfz : w.frozen? ⟨b, 0, none⟩ = false) :
  Calls Tryz.prog 130 #[.pointer (some ⟨b, 0, none⟩)] w fun e w' => e = .returned (.tuple #[]) ∧ w' = w.setCell ⟨b, 0, none⟩ (.pointer (some ⟨b, 0, none⟩)) := by
 obtain ⟨j, hj, hjs⟩ := Option.map_eq_some_iff.1 (show (Tryz.prog.info? 188).map (·.size) = some 2 by kernel_rfl)
 go_enter Tryz.func130, Tryz.ntmps130
 go_wp2
 rw [Lib.run_to_unsafe w ⟨b, 0, none⟩ Tryz.underlying185 Tryz.underlying209 hj (by rw [hjs]; decide) hsh (Nat.zero_lt_succ 1)]
 simp only [Result.andThen]
 rw [Oper.upon_value]
 go_wp2
 rw [run_callFunc_extern Tryz.func139 (by kernel_rfl) (by kernel_rfl) (by kernel_rfl) (e := Extern.AbiNoEscape.same) (by kernel_rfl)]
 rw [Lib.run_noEscape]
 simp only [Result.andThen]
 rw [Oper.upon_value]
 go_wp2
 rw [Lib.run_from_unsafe w ⟨b, 0, none⟩ Tryz.underlying209 Tryz.underlying185 hj hsh (by kernel_rfl)]
 simp only [Result.andThen]
 rw [Oper.upon_value]
 go_wp2
 go_end0
 exact ⟨rfl, rfl⟩
end Go.PX
namespace Go.PX
open Go.Proofs
open Go.RowKit Go.Proofs
set_option maxHeartbeats 1000000 in
set_option maxRecDepth 100000 in
theorem bld_string (b g cap : Nat) (p : Value) (s : ByteArray) (c : Array Value) (w : World) (hb : w.heap[b]? = some (.cells #[p, .slice (some ⟨g, 0, none⟩) s.size cap] 188 (0, 0))) (hg : w.heap[g]? = some (.cells c 5 (0, 0)))
  (h0 : 0 < s.size) (hcap : s.size ≤ cap) (hc : s.size ≤ c.size) (hm : s.size ≤ 140737488355328) (htake : c.toList.take s.size = byteVals s) :
  Calls Tryz.prog 121 #[.pointer (some ⟨b, 0, none⟩)] w fun e w' => e = .returned (.string s) ∧ w' = (w.drew).freeze ⟨g, 0, none⟩ s.size := by
 have c1 : w.drew.cell? ⟨b, 1, none⟩ = some (.slice (some ⟨g, 0, none⟩) s.size cap) := by
  have : w.drew.heap[b]? = some (.cells #[p, .slice (some ⟨g, 0, none⟩) s.size cap] 188 (0, 0)) := hb
  rw [Lib.cell_of_heap this]; rfl
 have hSD : (Builtin.unsafeSliceData_ #[186] 204 #[.slice (some ⟨g, 0, none⟩) s.size cap]).run Tryz.prog w.drew = .ok (.pointer (some ⟨g, 0, none⟩)) w.drew :=
  Lib.run_unsafeSliceData_row _ _ _ _ _ _ (by omega)
 have hsl : s.data.toList.length = s.size := by rw [Array.length_toList]; rfl
 have hUS : (Builtin.unsafeString_ #[204, 3] 9 #[.pointer (some ⟨g, 0, none⟩), .int .i64 s.size]).run Tryz.prog w.drew = .ok (.string s) (w.drew.freeze ⟨g, 0, none⟩ s.size) := by
  have := Lib.run_unsafeString_row (P := Tryz.prog) w.drew 204 3 9 5 Tryz.underlying204 (by kernel_rfl) g c.size (by have hg' : w.drew.heap[g]? = some (.cells c 5 (0, 0)) := hg; simp [World.shape?, hg']) s.data.toList (by intro e; rw [e] at hsl; simp at hsl; omega) (by omega) (by omega) (by
   intro j x hx
   have hj : j < s.size := by rw [← hsl]; exact (List.getElem?_eq_some_iff.1 hx).1
   have hv : (byteVals s)[j]? = some (.int .u8 x.toNat) := by simp [byteVals, hx]
   rw [← htake, List.getElem?_take_of_lt hj] at hv
   have hg' : w.drew.heap[g]? = some (.cells c 5 (0, 0)) := hg
   rw [add_none, Nat.zero_add, Lib.cell_of_heap hg']
   simpa using hv)
  rw [hsl] at this
  exact this
 go_enter Tryz.func121, Tryz.ntmps121
 go_wp2
 go_region
 all_goals (go_wp2; go_ret; exact ⟨rfl, rfl⟩)
end Go.PX
namespace Go.PX
open Go.RowKit
theorem HeapOk.turn {σ : Type} {cx : Cx σ} {L : Loc} {F : Nat → Nat} {h : Heap} {s : σ} {w w' : World} (hh : HeapOk cx L F h s w) (g : Nat) (hF : F g = 0) (hC : ¬ cx.C s g) (hos : w'.os = w.os) (ht : w'.tape = w.tape) (hu : w'.output = w.output)
  (hsz : w'.heap.size = w.heap.size) (hk : ∀ b, b ≠ g → w'.heap[b]? = w.heap[b]?) (hne : ∀ id o, get h id = some o → Backed L id o → L.ρ id ≠ g) : HeapOk cx L F h s w' ∧ Tr F w F w' := by
 have tr : Tr F w F w' := .of_keep hos ht hu (by omega) (fun _ => Nat.le_refl _) hh.fresh fun b _ hF' => hk b (by rintro rfl; omega)
 exact ⟨hh.keep tr (fun b hb => hh.fresh b (by omega)) (fun b hb => ⟨hk b (by rintro rfl; exact hC hb), rfl⟩) fun id o hi hb => ⟨hk _ (hne id o hi hb), rfl⟩, tr⟩
theorem fnU_calls {P : Program} {f : FuncId} {args : List V} {h0 h1 : Heap} {v0 : V} (he : ∀ (vs : Array Value) (w : World), (callFunc f vs).run P w = .ok (.enter f vs) w)
  (h : ∀ {σ : Type} (cx : Cx σ) (L : Loc) (F : Nat → Nat) (s : σ) (vals : Array Value) (w : World), HeapOk cx L F h0 s w → RepVL cx.yv L F w args vals.toList →
   Calls P f vals w fun e w' => ∃ x, e = .returned x ∧ HeapOk cx L F h1 s w' ∧ RepV cx.yv L F w' v0 x ∧ Tr F w F w') : FnU P f args h0 fun v h' => v = v0 ∧ h' = h1 := by
 intro σ Y s
 refine ⟨he, fun cx hY L F vals w hh hr => ?_⟩
 refine (callsIn_wide.2 (h cx L F s vals w hh hr)).mono ?_
 rintro e w' ⟨x, rfl, hh', hx, tr⟩
 exact ⟨x, rfl, _, _, s, L, F, ⟨⟨rfl, rfl⟩, rfl⟩, hh', hx, tr, fun _ _ => ⟨rfl, rfl⟩⟩
section
variable {P : Program} {σ : Type} {Y : Hd σ}
theorem CallA_frzP (n : Nat) (ids : List Nat) {e : Env} {h h' : Heap} {s : σ} {d : Option Nat} {f : FuncId} {args args' : List V} {K : St σ → Prop} (hv : replL (objD (keepT ids h) n) args = args') (hh : cutL h (keysOf (keepT ids h)) = h')
  (hk : CallA P Y ⟨e, h', s⟩ d f args' K) : CallA P Y ⟨e, h, s⟩ d f args K := by
 obtain ⟨he, hk⟩ := hk
 subst hh hv
 refine ⟨he, fun cx hY r m L F a w vals hg hd hr => ?_⟩
 obtain ⟨F1, hg1, tr1, hvw⟩ := hg.frzPart2 (h := keepT ids h) (fun i o hi => sub_keepT ids h i o hi) n
 rw [applyWs_delL] at hg1
 refine (hk cx hY r m L F1 a w vals hg1 hd (hvw _ _ hr)).mono ?_
 rintro en w' (⟨x, rfl, st', L', F', k1, k2, k3⟩ | ⟨pv, pe, ph, ps, L', F', he, hy, hgp, trp⟩)
 ·exact .inl ⟨x, rfl, st', L', F', k1, k2, Tr.trans tr1 k3⟩
 ·exact .inr ⟨pv, pe, ph, ps, L', F', he, hy, hgp, Tr.trans tr1 trp⟩
end
end Go.PX
namespace Go.PX
open Go.Proofs
open Go.RowKit
theorem RepVL_one {yv : Option Nat} {L : Loc} {F : Nat → Nat} {w : World} {v : V} {vals : Array Value} (h : RepVL yv L F w [v] vals.toList) : ∃ x, vals = #[x] ∧ RepV yv L F w v x := by
 obtain ⟨x, l', h1, h2, h3⟩ := h
 have h3 : l' = [] := h3
 subst h3
 exact ⟨x, Array.ext' h1, h2⟩
def bldN (i : Nat) : Heap := [(i, .tb 188 [.d .nilp, .d .nils])]
def bldU (i k : Nat) (b : ByteArray) : Heap := [(i, .tb 188 [.ptr i 0, .sl k 1 0 b.size]), (k, .buf 5 b)]
theorem pa130_used (b : ByteArray) : FnU Tryz.prog 130 [.ptr 1000000 0] (bldU 1000000 1000001 b) fun v h' => v = .d (.tup []) ∧ h' = bldU 1000000 1000001 b := by
 refine fnU_calls (enters Tryz.func130 rfl (by decide +kernel)) fun {σ} cx L F s vals w hh hr => ?_
 obtain ⟨x, rfl, hx⟩ := RepVL_one hr
 have hx : x = .pointer (some ⟨L.ρ 1000000, 0, none⟩) := hx
 subst hx
 obtain ⟨c, hc, hrc⟩ := hh.obj 1000000 _ rfl
 obtain ⟨x0, l', hl, h0, _⟩ := hrc
 have h0 : x0 = .pointer (some ⟨L.ρ 1000000, 0, none⟩) := h0
 subst h0
 refine (bld_used (L.ρ 1000000) w (by rw [cell_of_row _ _ _ _ _ _ hc, ← Array.getElem?_toList, hl]; rfl)).mono ?_
 rintro e w' ⟨rfl, rfl⟩
 exact ⟨_, rfl, hh, ⟨#[], rfl, rfl⟩, Tr.refl F _⟩
theorem pa130_fresh : FnU Tryz.prog 130 [.ptr 1000000 0] (bldN 1000000) fun v h' => v = .d (.tup []) ∧ h' = [(1000000, .tb 188 [.ptr 1000000 0, .d .nils])] := by
 refine fnU_calls (enters Tryz.func130 rfl (by decide +kernel)) fun {σ} cx L F s vals w hh hr => ?_
 obtain ⟨x, rfl, hx⟩ := RepVL_one hr
 have hx : x = .pointer (some ⟨L.ρ 1000000, 0, none⟩) := hx
 subst hx
 obtain ⟨c, hc, hrc⟩ := hh.obj 1000000 _ rfl
 obtain ⟨x0, l', hl, h0, x1, l'', hl', h1, hnil⟩ := hrc
 have h0 : x0 = .pointer none := h0
 have h1 : x1 = .slice none 0 0 := h1
 have hnil : l'' = [] := hnil
 subst h0 h1 hnil hl'
 have hc' : c = #[.pointer none, .slice none 0 0] := Array.ext' hl
 subst hc'
 refine (bld_fresh (L.ρ 1000000) w (by rw [cell_of_row _ _ _ _ _ _ hc]; rfl) (by simp [World.shape?, hc]) (by simp [World.frozen?, hc])).mono ?_
 rintro e w' ⟨rfl, rfl⟩
 have hg : Good { cx with pρ := L.ρ, pκ := L.κ, base := [] } none [] L F (⟨[], bldN 1000000, s⟩ : St σ) { tmps := #[], defers := [] } w :=
  ⟨⟨hh.hg, hh.csz, hh.fresh, hh.obj, hh.own, hh.inj⟩, fun t v ht => (by cases ht), rfl, (fun b hb => by cases hb), List.nodup_nil, (fun l hl => by cases hl), fun _ _ => ⟨rfl, rfl⟩, by simp⟩
 have hblk : (w.setCell ⟨L.ρ 1000000, 0, none⟩ (.pointer (some ⟨L.ρ 1000000, 0, none⟩))).heap[L.ρ 1000000]? = some (.cells #[.pointer (some ⟨L.ρ 1000000, 0, none⟩), .slice none 0 0] 188 (0, 0)) := by
  simp [World.setCell, Array.getElem?_modify, hc]
 obtain ⟨g1, g2⟩ := hg.obj (id := 1000000) (o := .tb 188 [.ptr 1000000 0, .d .nils]) rfl trivial (w' := w.setCell ⟨L.ρ 1000000, 0, none⟩ (.pointer (some ⟨L.ρ 1000000, 0, none⟩))) rfl rfl rfl (by simp [World.setCell]) (fun b hb => by simp [World.setCell, Array.getElem?_modify, Ne.symm hb])
  (by rw [hc]; intro ds e; cases e) (by rw [hc]; intro lp e; cases e) ⟨_, hblk, _, _, rfl, rfl, _, _, rfl, rfl, rfl⟩
 have g3 := g1.heap
 exact ⟨_, rfl, ⟨g3.hg, g3.csz, g3.fresh, g3.obj, g3.own, g3.inj⟩, ⟨#[], rfl, rfl⟩, g2⟩
theorem pa121 (b : ByteArray) (h0 : 0 < b.size) (hm : b.size ≤ 140737488355328) : FnU Tryz.prog 121 [.ptr 1000000 0] (bldU 1000000 1000001 b) fun v h' => v = .d (.str b) ∧ h' = [(1000000, .tb 188 [.ptr 1000000 0, .unk])] := by
 refine fnU_calls (enters Tryz.func121 rfl (by decide +kernel)) fun {σ} cx L F s vals w hh hr => ?_
 obtain ⟨x, rfl, hx⟩ := RepVL_one hr
 have hx : x = .pointer (some ⟨L.ρ 1000000, 0, none⟩) := hx
 subst hx
 obtain ⟨c, hc, hrc⟩ := hh.obj 1000000 _ rfl
 obtain ⟨x0, l', hl, h0', x1, l'', hl', h1, hnil⟩ := hrc
 have h0' : x0 = .pointer (some ⟨L.ρ 1000000, 0, none⟩) := h0'
 have hnil : l'' = [] := hnil
 subst h0' hnil hl'
 obtain ⟨ad, cap, rfl, hcap, _, hb⟩ := h1
 rcases hb with ⟨e, _⟩ | ⟨rfl, hb⟩
 ·omega
 rw [Nat.zero_add, Nat.mul_one] at hb
 have hc' : c = #[.pointer (some ⟨L.ρ 1000000, 0, none⟩), .slice (some ⟨L.ρ 1000001, 0, none⟩) b.size cap] := Array.ext' hl
 subst hc'
 obtain ⟨c2, hc2, hk2, hs2, ht2⟩ := hh.obj 1000001 _ rfl
 refine (bld_string (L.ρ 1000000) (L.ρ 1000001) cap _ b c2 w hc hc2 h0 hcap hs2 hm ht2).mono ?_
 rintro e w' ⟨rfl, rfl⟩
 obtain ⟨q1, q2⟩ := hh.own 1000001 _ rfl trivial
 have hne : L.ρ 1000000 ≠ L.ρ 1000001 := fun e => by
  have := hh.inj 1000000 1000001 _ _ rfl rfl trivial trivial e
  omega
 have hh2 : HeapOk cx L F [(1000000, .tb 188 [.ptr 1000000 0, .unk])] s w := by
  refine ⟨hh.hg, hh.csz, hh.fresh, fun id o ho => ?_, fun id o ho hb => ?_, fun i j o p hi hj hbi hbj e => ?_⟩
  ·obtain ⟨rfl, rfl⟩ : id = 1000000 ∧ o = .tb 188 [.ptr 1000000 0, .unk] := by
    simp only [get] at ho
    split at ho
    ·rename_i he; cases ho; exact ⟨(Nat.eq_of_beq_eq_true he).symm, rfl⟩
    ·cases ho
   exact ⟨_, hc, _, _, rfl, rfl, _, _, rfl, rfl, rfl⟩
  ·obtain ⟨rfl, rfl⟩ : id = 1000000 ∧ o = .tb 188 [.ptr 1000000 0, .unk] := by
    simp only [get] at ho
    split at ho
    ·rename_i he; cases ho; exact ⟨(Nat.eq_of_beq_eq_true he).symm, rfl⟩
    ·cases ho
   exact hh.own 1000000 _ rfl trivial
  ·simp only [get] at hi hj
   split at hi
   ·rename_i he
    split at hj
    ·rename_i he2
     rw [← Nat.eq_of_beq_eq_true he, ← Nat.eq_of_beq_eq_true he2]
    ·cases hj
   ·cases hi
 obtain ⟨r1, r2⟩ := hh2.turn (w' := w.drew.freeze ⟨L.ρ 1000001, 0, none⟩ b.size) (L.ρ 1000001) q1 q2 (by simp [World.freeze]; split <;> rfl) (by simp [World.freeze]; split <;> rfl) (by simp [World.freeze]; split <;> rfl) (by simp [World.freeze]; split <;> simp)
  (fun x hx => by
   simp only [World.freeze]
   split
   ·rfl
   ·simp [Array.getElem?_modify, Ne.symm hx]; rfl) (fun id o ho hb e => by
   simp only [get] at ho
   split at ho
   ·rename_i he
    rw [← Nat.eq_of_beq_eq_true he] at e
    exact hne e
   ·cases ho)
 exact ⟨_, rfl, r1, rfl, r2⟩
end Go.PX
namespace Go.PX
open Go.Proofs
open Go.RowKit
def wsRes (s : ByteArray) : D := .tup [i64 s.size, .nili]
theorem pa119_new (s : ByteArray) (h0 : 0 < s.size) (hm : s.size ≤ 140737488355328) : FnU Tryz.prog 119 [.ptr 1000000 0, .d (.str s)] (bldN 1000000) fun v h' => v = .d (wsRes s) ∧ h' = bldU 1000000 2000000 s := by
 intro σ Y st
 refine fnC_of mixed tysOk Tryz.func119 rfl (ft := ft119) (args := [.ptr 1000000 0, .d (.str s)]) (show fnB ft119 Tryz.f119 2 = true from by decide +kernel) ?_
 conv=>whnf
 refine CallA_fn pa130_fresh [1000000] rfl ⟨_, _, rfl, rfl, rfl⟩ rfl ?_
 conv=>whnf
 refine chk_i (by simp [h0, hm]) ?_
 conv=>whnf
 exact RetA_hand [14] [.d (i64 s.size), .d .nili] (bldU 1000000 2000000 s) rfl ⟨rfl, rfl, trivial⟩ rfl ⟨⟨rfl, rfl⟩, rfl⟩
theorem pa119 (b s : ByteArray) (h0 : 0 < b.size) (hm : b.size + s.size ≤ 140737488355328) : FnU Tryz.prog 119 [.ptr 1000000 0, .d (.str s)] (bldU 1000000 1000001 b) fun v h' => v = .d (wsRes s) ∧ h' = bldU 1000000 2000000 (b ++ s) := by
 intro σ Y st
 refine fnC_of mixed tysOk Tryz.func119 rfl (ft := ft119) (args := [.ptr 1000000 0, .d (.str s)]) (show fnB ft119 Tryz.f119 2 = true from by decide +kernel) ?_
 conv=>whnf
 refine CallA_fn (pa130_used b) [1000000, 1000001] rfl ⟨_, _, rfl, rfl, _, _, rfl, rfl, rfl⟩ rfl ?_
 conv=>whnf
 refine chk_i (by simp [h0, hm]) ?_
 conv=>whnf
 exact RetA_hand [14] [.d (i64 s.size), .d .nili] (bldU 1000000 2000000 (b ++ s)) rfl ⟨rfl, rfl, trivial⟩ rfl ⟨⟨rfl, rfl⟩, rfl⟩
theorem pa118 (b : ByteArray) (h0 : 0 < b.size) (hm : b.size + 1 ≤ 140737488355328) : FnU Tryz.prog 118 [.ptr 1000000 0, .d (.int .u8 10)] (bldU 1000000 1000001 b) fun v h' => v = .d .nili ∧ h' = bldU 1000000 2000000 (b ++ ⟨#[10]⟩) := by
 intro σ Y st
 refine fnC_of mixed tysOk Tryz.func118 rfl (ft := ft118) (args := [.ptr 1000000 0, .d (.int .u8 10)]) (show fnB ft118 Tryz.f118 2 = true from by decide +kernel) ?_
 conv=>whnf
 refine CallA_fn (pa130_used b) [1000000, 1000001] rfl ⟨_, _, rfl, rfl, _, _, rfl, rfl, rfl⟩ rfl ?_
 conv=>whnf
 refine chk_i (by simp [h0]; exact hm) ?_
 conv=>whnf
 exact RetA_hand [14] [.d .nili] (bldU 1000000 2000000 (b ++ ⟨#[10]⟩)) rfl ⟨rfl, rfl, trivial⟩ rfl ⟨⟨rfl, rfl⟩, rfl⟩
end Go.PX
namespace Go.PX
open Go.Proofs
def decF : Nat → Nat → List UInt8
 | 0, _ => []
 | f + 1, u => if u < 10 then [UInt8.ofNat (48 + u)] else decF f (u / 10) ++ [UInt8.ofNat (48 + u % 10)]
theorem decF_eq : ∀ (f u : Nat), u < 10 ^ f → 0 < f → decF f u = Lib.decDigits u
 | 0, _, _, h => absurd h (by omega)
 | f + 1, u, hu, _ => by
  rw [decF, Lib.decDigits]
  by_cases h : u < 10
  ·rw [if_pos h, dif_pos h]
  ·rw [if_neg h, dif_neg h]
   have h2 : u / 10 < 10 ^ f := by
    rw [Nat.pow_succ] at hu
    exact Nat.div_lt_of_lt_mul (by omega)
   have hf : 0 < f := by
    rcases Nat.eq_zero_or_pos f with rfl | h3
    ·simp at h2; omega
    ·exact h3
   rw [decF_eq f (u / 10) h2 hf]
theorem decF_len : ∀ (f u : Nat), (decF f u).length ≤ f
 | 0, _ => Nat.le_refl _
 | f + 1, u => by
  rw [decF]
  split
  ·simp
  ·have := decF_len f (u / 10)
   simp; omega
def numL (n : Int) : List UInt8 := if n < 0 then 45 :: decF 19 n.natAbs else decF 19 n.toNat
def numB (n : Int) : ByteArray := ⟨(numL n).toArray⟩
theorem numL_eq {n : Int} (h : -1000000000000000000 ≤ n ∧ n ≤ 1000000000000000000) : numL n = Lib.itoa n := by
  unfold numL Lib.itoa
  split
  · rw [decF_eq 19 n.natAbs (by have : (10 : Nat) ^ 19 = 10000000000000000000 := by decide
                                omega) (by omega)]
  · rw [decF_eq 19 n.toNat (by have : (10 : Nat) ^ 19 = 10000000000000000000 := by decide
                               omega) (by omega)]
theorem numB_size (n : Int) : (numB n).size ≤ 20 := by
 show (numL n).toArray.size ≤ 20
 rw [List.size_toArray]
 unfold numL
 split
 ·have := decF_len 19 n.natAbs; simp; omega
 ·have := decF_len 19 n.toNat; omega
end Go.PX
namespace Go.PX
open Go.Proofs
open Go.Shelf
def Tryz.laysM171_ren : Go.Shelf.Ren := ⟨fun | 171 => 120 | 243 => 131 | 246 => 140 | 283 => 153 | 284 => 154 | 285 => 155 | 286 => 156 | 129 => 164 | 317 => 163 | 318 => 165 | 319 => 166 | 320 => 167 | 337 => 170 | 338 => 171 | n => n, fun | 3 => 3 | 9 => 9 | 2 => 2 | 4 => 4 | 171 => 223 | 0 => 0 | 53 => 224 | 37 => 186 | 5 => 5 | 173 => 227 | 212 => 238 | 51 => 91 | 20 => 20 | 213 => 239 | 46 => 214 | 232 => 250 | 233 => 251 | n => n, fun | 17 => 3 | 18 => 6 | 19 => 7 | n => n⟩
theorem Tryz.laysM171 : Go.Proofs.LaysM.n171 Tryz.prog Tryz.laysM171_ren := {
 mixed := by kernel_rfl
 f129 := Tryz.func164.trans (congrArg some (by kernel_rfl))
 f171 := Tryz.func120.trans (congrArg some (by kernel_rfl))
 f243 := Tryz.func131.trans (congrArg some (by kernel_rfl))
 f246 := Tryz.func140.trans (congrArg some (by kernel_rfl))
 f283 := Tryz.func153.trans (congrArg some (by kernel_rfl))
 f284 := Tryz.func154.trans (congrArg some (by kernel_rfl))
 f285 := Tryz.func155.trans (congrArg some (by kernel_rfl))
 f286 := Tryz.func156.trans (congrArg some (by kernel_rfl))
 f317 := Tryz.func163.trans (congrArg some (by kernel_rfl))
 f318 := Tryz.func165.trans (congrArg some (by kernel_rfl))
 f319 := Tryz.func166.trans (congrArg some (by kernel_rfl))
 f320 := Tryz.func167.trans (congrArg some (by kernel_rfl))
 f337 := Tryz.func170.trans (congrArg some (by kernel_rfl))
 f338 := Tryz.func171.trans (congrArg some (by kernel_rfl))
 t0 := Tryz.underlying0
 a0 := Tryz.isAgg0
 z0 := Tryz.sizeOf0
 v0 := Tryz.zeroValue0
 t2 := Tryz.underlying2
 a2 := Tryz.isAgg2
 z2 := Tryz.sizeOf2
 v2 := Tryz.zeroValue2
 t3 := Tryz.underlying3
 a3 := Tryz.isAgg3
 z3 := Tryz.sizeOf3
 v3 := Tryz.zeroValue3
 t4 := Tryz.underlying4
 a4 := Tryz.isAgg4
 z4 := Tryz.sizeOf4
 v4 := Tryz.zeroValue4
 t5 := Tryz.underlying5
 a5 := Tryz.isAgg5
 z5 := Tryz.sizeOf5
 v5 := Tryz.zeroValue5
 t9 := Tryz.underlying9
 a9 := Tryz.isAgg9
 z9 := Tryz.sizeOf9
 v9 := Tryz.zeroValue9
 t20 := Tryz.underlying20
 a20 := Tryz.isAgg20
 z20 := Tryz.sizeOf20
 v20 := Tryz.zeroValue20
 t37 := Tryz.underlying186
 a37 := Tryz.isAgg186
 z37 := Tryz.sizeOf186
 v37 := Tryz.zeroValue186
 t46 := Tryz.underlying214
 a46 := Tryz.isAgg214
 z46 := Tryz.sizeOf214
 v46 := Tryz.zeroValue214
 t51 := Tryz.underlying91
 a51 := Tryz.isAgg91
 z51 := Tryz.sizeOf91
 v51 := Tryz.zeroValue91
 t53 := Tryz.underlying224
 a53 := Tryz.isAgg224
 z53 := Tryz.sizeOf224
 v53 := Tryz.zeroValue224
 t171 := Tryz.underlying223
 a171 := Tryz.isAgg223
 z171 := Tryz.sizeOf223
 v171 := Tryz.zeroValue223
 t173 := Tryz.underlying227
 a173 := Tryz.isAgg227
 z173 := Tryz.sizeOf227
 v173 := Tryz.zeroValue227
 t212 := Tryz.underlying238
 a212 := Tryz.isAgg238
 z212 := Tryz.sizeOf238
 v212 := Tryz.zeroValue238
 t213 := Tryz.underlying239
 a213 := Tryz.isAgg239
 z213 := Tryz.sizeOf239
 t232 := Tryz.underlying250
 a232 := Tryz.isAgg250
 z232 := Tryz.sizeOf250
 v232 := Tryz.zeroValue250
 t233 := Tryz.underlying251
 a233 := Tryz.isAgg251
 z233 := Tryz.sizeOf251
 v233 := Tryz.zeroValue251
 g17 := by kernel_rfl
 g18 := by kernel_rfl
 g19 := by kernel_rfl
 i0 := by kernel_rfl
 i2 := by kernel_rfl
 i3 := by kernel_rfl
 i4 := by kernel_rfl
 i5 := by kernel_rfl
 i9 := by kernel_rfl
 i20 := by kernel_rfl
 i37 := by kernel_rfl
 i46 := by kernel_rfl
 i51 := by kernel_rfl
 i53 := by kernel_rfl
 i171 := by kernel_rfl
 i173 := by kernel_rfl
 i212 := by kernel_rfl
 i232 := by kernel_rfl
 i233 := by kernel_rfl
 m17 := by kernel_rfl
 m18 := by kernel_rfl
 m19 := by kernel_rfl }
open Go.RowKit Go.Sort Go.Lib in
theorem Tryz.strconv_Itoa (n : Int) (h0 : -9223372036854775808 ≤ n) (h1 : n ≤ 9223372036854775807) (w : World) (htab : Lib.TabIs Tryz.prog w "internal/strconv.uint64pow10" .u64 Lib.pow10Tab) :
  Calls Tryz.prog 120 #[.int .i64 n] w fun e w' => e = .returned (.string ⟨(Lib.itoa n).toArray⟩) ∧ ∃ k os, w' = grow (w.drewN k) os := Any.strconv_Itoa Tryz.laysM171 n h0 h1 w htab
def Tryz.laysC172_ren : Go.Shelf.Ren := ⟨fun | 172 => 125 | 244 => 134 | 245 => 135 | 247 => 145 | 279 => 146 | 280 => 147 | 281 => 148 | 282 => 149 | 287 => 159 | 316 => 160 | 171 => 120 | 205 => 161 | 321 => 168 | 322 => 169 | 243 => 131 | 246 => 140 | 283 => 153 | 284 => 154 | 285 => 155 | 286 => 156 | 129 => 164 | 317 => 163 | 318 => 165 | 319 => 166 | 320 => 167 | 337 => 170 | 338 => 171 | n => n, fun | 9 => 9 | 3 => 3 | 75 => 191 | 76 => 193 | 4 => 4 | 5 => 5 | 167 => 215 | 37 => 186 | 0 => 0 | 85 => 216 | 2 => 2 | 168 => 218 | 53 => 224 | 175 => 231 | 46 => 214 | 210 => 235 | 127 => 204 | 145 => 244 | 143 => 242 | 21 => 21 | 171 => 223 | 173 => 227 | 212 => 238 | 51 => 91 | 20 => 20 | 213 => 239 | 232 => 250 | 233 => 251 | 80 => 134 | n => n, fun | 15 => 1 | 16 => 2 | 17 => 3 | 18 => 6 | 19 => 7 | n => n⟩
theorem Tryz.laysC172 : Go.Proofs.LaysC.n172 Tryz.prog Tryz.laysC172_ren := {
 mixed := by kernel_rfl
 f129 := Tryz.func164.trans (congrArg some (by kernel_rfl))
 f171 := Tryz.func120.trans (congrArg some (by kernel_rfl))
 f172 := Tryz.func125.trans (congrArg some (by kernel_rfl))
 f205 := Tryz.func161.trans (congrArg some (by kernel_rfl))
 f243 := Tryz.func131.trans (congrArg some (by kernel_rfl))
 f244 := Tryz.func134.trans (congrArg some (by kernel_rfl))
 f245 := Tryz.func135.trans (congrArg some (by kernel_rfl))
 f246 := Tryz.func140.trans (congrArg some (by kernel_rfl))
 f247 := Tryz.func145.trans (congrArg some (by kernel_rfl))
 f279 := Tryz.func146.trans (congrArg some (by kernel_rfl))
 f280 := Tryz.func147.trans (congrArg some (by kernel_rfl))
 f281 := Tryz.func148.trans (congrArg some (by kernel_rfl))
 f282 := Tryz.func149.trans (congrArg some (by kernel_rfl))
 f283 := Tryz.func153.trans (congrArg some (by kernel_rfl))
 f284 := Tryz.func154.trans (congrArg some (by kernel_rfl))
 f285 := Tryz.func155.trans (congrArg some (by kernel_rfl))
 f286 := Tryz.func156.trans (congrArg some (by kernel_rfl))
 f287 := Tryz.func159.trans (congrArg some (by kernel_rfl))
 f316 := Tryz.func160.trans (congrArg some (by kernel_rfl))
 f317 := Tryz.func163.trans (congrArg some (by kernel_rfl))
 f318 := Tryz.func165.trans (congrArg some (by kernel_rfl))
 f319 := Tryz.func166.trans (congrArg some (by kernel_rfl))
 f320 := Tryz.func167.trans (congrArg some (by kernel_rfl))
 f321 := Tryz.func168.trans (congrArg some (by kernel_rfl))
 f322 := Tryz.func169.trans (congrArg some (by kernel_rfl))
 f337 := Tryz.func170.trans (congrArg some (by kernel_rfl))
 f338 := Tryz.func171.trans (congrArg some (by kernel_rfl))
 t0 := Tryz.underlying0
 a0 := Tryz.isAgg0
 z0 := Tryz.sizeOf0
 v0 := Tryz.zeroValue0
 t2 := Tryz.underlying2
 a2 := Tryz.isAgg2
 z2 := Tryz.sizeOf2
 v2 := Tryz.zeroValue2
 t3 := Tryz.underlying3
 a3 := Tryz.isAgg3
 z3 := Tryz.sizeOf3
 v3 := Tryz.zeroValue3
 t4 := Tryz.underlying4
 a4 := Tryz.isAgg4
 z4 := Tryz.sizeOf4
 v4 := Tryz.zeroValue4
 t5 := Tryz.underlying5
 a5 := Tryz.isAgg5
 z5 := Tryz.sizeOf5
 v5 := Tryz.zeroValue5
 t9 := Tryz.underlying9
 a9 := Tryz.isAgg9
 z9 := Tryz.sizeOf9
 v9 := Tryz.zeroValue9
 t20 := Tryz.underlying20
 a20 := Tryz.isAgg20
 z20 := Tryz.sizeOf20
 v20 := Tryz.zeroValue20
 t21 := Tryz.underlying21
 a21 := Tryz.isAgg21
 z21 := Tryz.sizeOf21
 v21 := Tryz.zeroValue21
 t37 := Tryz.underlying186
 a37 := Tryz.isAgg186
 z37 := Tryz.sizeOf186
 v37 := Tryz.zeroValue186
 t46 := Tryz.underlying214
 a46 := Tryz.isAgg214
 z46 := Tryz.sizeOf214
 v46 := Tryz.zeroValue214
 t51 := Tryz.underlying91
 a51 := Tryz.isAgg91
 z51 := Tryz.sizeOf91
 v51 := Tryz.zeroValue91
 t53 := Tryz.underlying224
 a53 := Tryz.isAgg224
 z53 := Tryz.sizeOf224
 v53 := Tryz.zeroValue224
 t75 := Tryz.underlying191
 a75 := Tryz.isAgg191
 z75 := Tryz.sizeOf191
 v75 := Tryz.zeroValue191
 t76 := Tryz.underlying193
 a76 := Tryz.isAgg193
 z76 := Tryz.sizeOf193
 v76 := Tryz.zeroValue193
 t85 := Tryz.underlying216
 a85 := Tryz.isAgg216
 z85 := Tryz.sizeOf216
 v85 := Tryz.zeroValue216
 t127 := Tryz.underlying204
 a127 := Tryz.isAgg204
 z127 := Tryz.sizeOf204
 v127 := Tryz.zeroValue204
 t143 := Tryz.underlying242
 a143 := Tryz.isAgg242
 z143 := Tryz.sizeOf242
 v143 := Tryz.zeroValue242
 t145 := Tryz.underlying244
 a145 := Tryz.isAgg244
 z145 := Tryz.sizeOf244
 v145 := Tryz.zeroValue244
 t167 := Tryz.underlying215
 a167 := Tryz.isAgg215
 z167 := Tryz.sizeOf215
 v167 := Tryz.zeroValue215
 t168 := Tryz.underlying218
 a168 := Tryz.isAgg218
 z168 := Tryz.sizeOf218
 v168 := Tryz.zeroValue218
 t171 := Tryz.underlying223
 a171 := Tryz.isAgg223
 z171 := Tryz.sizeOf223
 v171 := Tryz.zeroValue223
 t173 := Tryz.underlying227
 a173 := Tryz.isAgg227
 z173 := Tryz.sizeOf227
 v173 := Tryz.zeroValue227
 t175 := Tryz.underlying231
 a175 := Tryz.isAgg231
 z175 := Tryz.sizeOf231
 v175 := Tryz.zeroValue231
 t210 := Tryz.underlying235
 a210 := Tryz.isAgg235
 z210 := Tryz.sizeOf235
 v210 := Tryz.zeroValue235
 t212 := Tryz.underlying238
 a212 := Tryz.isAgg238
 z212 := Tryz.sizeOf238
 v212 := Tryz.zeroValue238
 t213 := Tryz.underlying239
 a213 := Tryz.isAgg239
 z213 := Tryz.sizeOf239
 t232 := Tryz.underlying250
 a232 := Tryz.isAgg250
 z232 := Tryz.sizeOf250
 v232 := Tryz.zeroValue250
 t233 := Tryz.underlying251
 a233 := Tryz.isAgg251
 z233 := Tryz.sizeOf251
 v233 := Tryz.zeroValue251
 g15 := by kernel_rfl
 g16 := by kernel_rfl
 g17 := by kernel_rfl
 g18 := by kernel_rfl
 g19 := by kernel_rfl
 t80 := Tryz.underlying134
 a80 := Tryz.isAgg134
 z80 := Tryz.sizeOf134
 v80 := Tryz.zeroValue134
 i0 := by kernel_rfl
 i2 := by kernel_rfl
 i3 := by kernel_rfl
 i4 := by kernel_rfl
 i5 := by kernel_rfl
 i9 := by kernel_rfl
 i20 := by kernel_rfl
 i21 := by kernel_rfl
 i37 := by kernel_rfl
 i46 := by kernel_rfl
 i51 := by kernel_rfl
 i53 := by kernel_rfl
 i75 := by kernel_rfl
 i76 := by kernel_rfl
 i80 := by kernel_rfl
 i85 := by kernel_rfl
 i127 := by kernel_rfl
 i143 := by kernel_rfl
 i145 := by kernel_rfl
 i167 := by kernel_rfl
 i168 := by kernel_rfl
 i171 := by kernel_rfl
 i173 := by kernel_rfl
 i175 := by kernel_rfl
 i210 := by kernel_rfl
 i212 := by kernel_rfl
 i232 := by kernel_rfl
 i233 := by kernel_rfl
 m15 := by kernel_rfl
 m16 := by kernel_rfl
 m17 := by kernel_rfl
 m18 := by kernel_rfl
 m19 := by kernel_rfl
 c0 := by kernel_rfl
 c2 := by kernel_rfl
 c3 := by kernel_rfl
 c4 := by kernel_rfl
 c5 := by kernel_rfl
 c9 := by kernel_rfl
 c20 := by kernel_rfl
 c21 := by kernel_rfl
 c37 := by kernel_rfl
 c46 := by kernel_rfl
 c51 := by kernel_rfl
 c53 := by kernel_rfl
 c75 := by kernel_rfl
 c76 := by kernel_rfl
 c80 := by kernel_rfl
 c85 := by kernel_rfl
 c127 := by kernel_rfl
 c143 := by kernel_rfl
 c145 := by kernel_rfl
 c167 := by kernel_rfl
 c168 := by kernel_rfl
 c171 := by kernel_rfl
 c173 := by kernel_rfl
 c175 := by kernel_rfl
 c210 := by kernel_rfl
 c212 := by kernel_rfl
 c213 := by kernel_rfl
 c232 := by kernel_rfl
 c233 := by kernel_rfl }
open Go.RowKit in
theorem Tryz.strconv_Atoi_ok (s : ByteArray) (hmax : s.size ≤ 9223372036854775806) (v : Int) (h : Lib.atoiAll s.data.toList = .ok v) (w : World) :
  Calls Tryz.prog 125 #[.string s] w fun e w' => e = .returned (.tuple #[.int .i64 v, .nilIface]) ∧ (w' = w ∨ ∃ t, w' = Lib.bytesWorld w 5 t) := Any.strconv_Atoi_ok Tryz.laysC172 s hmax v h w
def Tryz.lays145_ren : Go.Shelf.Ren := ⟨fun | 145 => 94 | 220 => 123 | 219 => 132 | 217 => 141 | 225 => 142 | 224 => 143 | 267 => 144 | 266 => 157 | 314 => 158 | n => n, fun | 9 => 9 | 4 => 4 | 59 => 160 | 3 => 3 | 5 => 5 | 46 => 214 | 146 => 229 | 51 => 91 | n => n, fun | 1 => 0 | n => n⟩
theorem Tryz.lays145 : Go.Proofs.Lays.n145 Tryz.prog Tryz.lays145_ren := {
 mixed := by kernel_rfl
 f145 := Tryz.func94.trans (congrArg some (by kernel_rfl))
 f217 := Tryz.func141.trans (congrArg some (by kernel_rfl))
 f219 := Tryz.func132.trans (congrArg some (by kernel_rfl))
 f220 := Tryz.func123.trans (congrArg some (by kernel_rfl))
 f224 := Tryz.func143.trans (congrArg some (by kernel_rfl))
 f225 := Tryz.func142.trans (congrArg some (by kernel_rfl))
 f266 := Tryz.func157.trans (congrArg some (by kernel_rfl))
 f267 := Tryz.func144.trans (congrArg some (by kernel_rfl))
 f314 := Tryz.func158.trans (congrArg some (by kernel_rfl))
 t3 := Tryz.underlying3
 a3 := Tryz.isAgg3
 z3 := Tryz.sizeOf3
 v3 := Tryz.zeroValue3
 t4 := Tryz.underlying4
 a4 := Tryz.isAgg4
 z4 := Tryz.sizeOf4
 v4 := Tryz.zeroValue4
 t5 := Tryz.underlying5
 a5 := Tryz.isAgg5
 z5 := Tryz.sizeOf5
 v5 := Tryz.zeroValue5
 t9 := Tryz.underlying9
 a9 := Tryz.isAgg9
 z9 := Tryz.sizeOf9
 v9 := Tryz.zeroValue9
 t46 := Tryz.underlying214
 a46 := Tryz.isAgg214
 z46 := Tryz.sizeOf214
 v46 := Tryz.zeroValue214
 t51 := Tryz.underlying91
 a51 := Tryz.isAgg91
 z51 := Tryz.sizeOf91
 v51 := Tryz.zeroValue91
 t59 := Tryz.underlying160
 a59 := Tryz.isAgg160
 z59 := Tryz.sizeOf160
 v59 := Tryz.zeroValue160
 t146 := Tryz.underlying229
 a146 := Tryz.isAgg229
 z146 := Tryz.sizeOf229
 v146 := Tryz.zeroValue229
 g1 := by kernel_rfl }
open Go.RowKit Go.Lib in
theorem Tryz.strings_Cut (s sep : ByteArray) (m : Int) (w : World) (hs : s.size < 4294967281) (hm : w.cell? ⟨0, 0, none⟩ = some (.int .i64 m)) :
  Calls Tryz.prog 94 #[.string s, .string sep] w fun e w' => e = .returned (.tuple #[.string ⟨(Lib.cut s.data.toList sep.data.toList).1.toArray⟩, .string ⟨(Lib.cut s.data.toList sep.data.toList).2.1.toArray⟩, .bool (Lib.cut s.data.toList sep.data.toList).2.2]) ∧ ∃ n, w' = w.drewN n := Any.strings_Cut Tryz.lays145 s sep m w hs hm
def Tryz.lays146_ren : Go.Shelf.Ren := ⟨fun | 146 => 99 | 221 => 126 | 268 => 136 | 138 => 137 | 143 => 138 | 195 => 150 | 197 => 151 | 218 => 152 | 219 => 132 | 260 => 162 | 217 => 141 | 225 => 142 | 224 => 143 | 267 => 144 | 266 => 157 | 314 => 158 | n => n, fun | 9 => 9 | 31 => 108 | 3 => 3 | 4 => 4 | 0 => 0 | 105 => 221 | 21 => 21 | 5 => 5 | 46 => 214 | 119 => 245 | 139 => 248 | 138 => 247 | 146 => 229 | 51 => 91 | n => n, fun | 1 => 0 | 3 => 4 | 4 => 5 | n => n⟩
theorem Tryz.lays146 : Go.Proofs.Lays.n146 Tryz.prog Tryz.lays146_ren := {
 mixed := by kernel_rfl
 f138 := Tryz.func137.trans (congrArg some (by kernel_rfl))
 f143 := Tryz.func138.trans (congrArg some (by kernel_rfl))
 f146 := Tryz.func99.trans (congrArg some (by kernel_rfl))
 f195 := Tryz.func150.trans (congrArg some (by kernel_rfl))
 f197 := Tryz.func151.trans (congrArg some (by kernel_rfl))
 f217 := Tryz.func141.trans (congrArg some (by kernel_rfl))
 f218 := Tryz.func152.trans (congrArg some (by kernel_rfl))
 f219 := Tryz.func132.trans (congrArg some (by kernel_rfl))
 f221 := Tryz.func126.trans (congrArg some (by kernel_rfl))
 f224 := Tryz.func143.trans (congrArg some (by kernel_rfl))
 f225 := Tryz.func142.trans (congrArg some (by kernel_rfl))
 f260 := Tryz.func162.trans (congrArg some (by kernel_rfl))
 f266 := Tryz.func157.trans (congrArg some (by kernel_rfl))
 f267 := Tryz.func144.trans (congrArg some (by kernel_rfl))
 f268 := Tryz.func136.trans (congrArg some (by kernel_rfl))
 f314 := Tryz.func158.trans (congrArg some (by kernel_rfl))
 t0 := Tryz.underlying0
 a0 := Tryz.isAgg0
 z0 := Tryz.sizeOf0
 v0 := Tryz.zeroValue0
 t3 := Tryz.underlying3
 a3 := Tryz.isAgg3
 z3 := Tryz.sizeOf3
 v3 := Tryz.zeroValue3
 t4 := Tryz.underlying4
 a4 := Tryz.isAgg4
 z4 := Tryz.sizeOf4
 v4 := Tryz.zeroValue4
 t5 := Tryz.underlying5
 a5 := Tryz.isAgg5
 z5 := Tryz.sizeOf5
 v5 := Tryz.zeroValue5
 t9 := Tryz.underlying9
 a9 := Tryz.isAgg9
 z9 := Tryz.sizeOf9
 v9 := Tryz.zeroValue9
 t21 := Tryz.underlying21
 a21 := Tryz.isAgg21
 z21 := Tryz.sizeOf21
 v21 := Tryz.zeroValue21
 t31 := Tryz.underlying108
 a31 := Tryz.isAgg108
 z31 := Tryz.sizeOf108
 v31 := Tryz.zeroValue108
 t46 := Tryz.underlying214
 a46 := Tryz.isAgg214
 z46 := Tryz.sizeOf214
 v46 := Tryz.zeroValue214
 t51 := Tryz.underlying91
 a51 := Tryz.isAgg91
 z51 := Tryz.sizeOf91
 v51 := Tryz.zeroValue91
 t105 := Tryz.underlying221
 a105 := Tryz.isAgg221
 z105 := Tryz.sizeOf221
 v105 := Tryz.zeroValue221
 t119 := Tryz.underlying245
 a119 := Tryz.isAgg245
 z119 := Tryz.sizeOf245
 t138 := Tryz.underlying247
 a138 := Tryz.isAgg247
 z138 := Tryz.sizeOf247
 v138 := Tryz.zeroValue247
 t139 := Tryz.underlying248
 a139 := Tryz.isAgg248
 z139 := Tryz.sizeOf248
 v139 := Tryz.zeroValue248
 t146 := Tryz.underlying229
 a146 := Tryz.isAgg229
 z146 := Tryz.sizeOf229
 v146 := Tryz.zeroValue229
 g1 := by kernel_rfl
 g3 := by kernel_rfl
 g4 := by kernel_rfl }
open Go.RowKit Go.Lib in
theorem Tryz.strings_Split (s sep : ByteArray) (m : Int) (w : World) (hs : s.size < 4294967281) (hm : w.cell? ⟨0, 0, none⟩ = some (.int .i64 m)) (h1 : 1 ≤ sep.size) :
  Calls Tryz.prog 99 #[.string s, .string sep] w fun e w' =>
   e = .returned (.slice (some ⟨w.heap.size, 0, none⟩) (Lib.countB s sep + 1) (Lib.countB s sep + 1)) ∧ w' = w.alloc (.cells ((Lib.splitB sep 0 (Lib.countB s sep) s).map Value.string).toArray 9) := Any.strings_Split Tryz.lays146 (by kernel_rfl) s sep m w hs hm h1
theorem pa120 (n : Int) (h : -1000000000000000000 ≤ n ∧ n ≤ 1000000000000000000) : FnV Tryz.prog 120 [i64 n] (.str (numB n)) := by
 refine fnV_calls (enters Tryz.func120 rfl (by decide +kernel)) fun vals w F hl hf hr => ?_
 obtain ⟨x, l', h1, h2, h3⟩ := hr
 have h2 : x = .int .i64 n := h2
 have h3 : l' = [] := h3
 subst h2 h3
 have hv : vals = #[.int .i64 n] := Array.ext' h1
 subst hv
 refine (Tryz.strconv_Itoa n (by omega) (by omega) w (hl.tab 3 (by kernel_rfl))).mono ?_
 rintro e w' ⟨rfl, k, os, rfl⟩
 have hx : (⟨(Lib.itoa n).toArray⟩ : ByteArray) = numB n := by rw [numB, numL_eq h]
 rw [hx]
 have hsz : (Go.Sort.grow (w.drewN k) os).heap.size = w.heap.size + os.size := by simp [Go.Sort.grow, World.drewN]
 refine ⟨_, rfl, ⟨rfl, rfl, rfl, by omega, fun b hb => ?_⟩, F, fun _ _ => rfl, fun b hb => hf b (by omega), rfl⟩
 show (w.heap ++ os)[b]? = _
 rw [Array.getElem?_append_left hb]
end Go.PX
namespace Go.PX
open Go.Proofs
open Go.RowKit
def cut1 (c : UInt8) : List UInt8 → List UInt8 × List UInt8 × Bool
 | [] => ([], [], false)
 | x :: r => if x = c then ([], r, true) else (x :: (cut1 c r).1, (cut1 c r).2.1, (cut1 c r).2.2)
def headC (x : UInt8) : List (List UInt8) → List (List UInt8)
 | [] => [[x]]
 | a :: t => (x :: a) :: t
def splitL (c : UInt8) : List UInt8 → List (List UInt8)
 | [] => [[]]
 | x :: r => if x = c then [] :: splitL c r else headC x (splitL c r)
theorem idx_nil (c : UInt8) : Lib.index [] [c] = -1 := rfl
theorem idx_eq (c : UInt8) (r : List UInt8) : Lib.index (c :: r) [c] = 0 := by
 rw [Lib.index_one, Lib.indexByte]; simp
theorem idx_ne {c x : UInt8} (h : x ≠ c) (r : List UInt8) : Lib.index (x :: r) [c] = if Lib.index r [c] == -1 then -1 else Lib.index r [c] + 1 := by
 rw [Lib.index_one, Lib.indexByte, Lib.index_one]; simp [h]
theorem cut_eq (c : UInt8) : ∀ l : List UInt8, Lib.cut l [c] = cut1 c l
 | [] => by simp [Lib.cut, idx_nil, cut1]
 | x :: r => by
  rw [cut1]
  by_cases h : x = c
  ·subst h
   rw [if_pos rfl, Lib.cut, idx_eq]; simp
  ·rw [if_neg h, ← cut_eq c r]
   have hge := Lib.index_ge r [c]
   unfold Lib.cut
   rw [idx_ne h]
   by_cases h1 : Lib.index r [c] = -1
   ·simp [h1]
   ·obtain ⟨i, hi⟩ : ∃ i : Nat, Lib.index r [c] = i := ⟨(Lib.index r [c]).toNat, by omega⟩
    rw [hi]
    have h2 : ((i : Int) == -1) = false := by first | (simp; done) | (simp; omega)
    rw [h2]
    have h3 : (0 : Int) ≤ (i : Int) + 1 := by omega
    have h4 : (0 : Int) ≤ (i : Int) := by omega
    simp only [Bool.false_eq_true, if_false, if_pos h3, if_pos h4]
    have h5 : ((i : Int) + 1).toNat = i + 1 := by omega
    have h6 : ((i : Int)).toNat = i := by omega
    rw [h5, h6]
    simp
theorem splitL_ne (c : UInt8) : ∀ l, splitL c l ≠ []
 | [] => by simp [splitL]
 | x :: r => by
  rw [splitL]
  split
  ·simp
  ·cases splitL c r <;> simp [headC]
theorem splitK_eq (c : UInt8) : ∀ l : List UInt8, Lib.splitK [c] 0 (l.count c) l = splitL c l
 | [] => rfl
 | x :: r => by
  have ih := splitK_eq c r
  rw [splitL]
  by_cases h : x = c
  ·subst h
   rw [if_pos rfl, List.count_cons_self, Lib.splitK, idx_eq, ← ih]
   simp
  ·rw [if_neg h, List.count_cons_of_ne (by simpa using h)]
   cases hk : r.count c with
   | zero =>
    rw [hk] at ih
    rw [← ih]; rfl
   | succ k =>
    rw [hk] at ih
    rw [← ih]
    have hge := Lib.index_ge r [c]
    rw [Lib.splitK, Lib.splitK, idx_ne h]
    by_cases h1 : Lib.index r [c] = -1
    ·rw [h1]; simp [headC]
    ·obtain ⟨i, hi⟩ : ∃ i : Nat, Lib.index r [c] = i := ⟨(Lib.index r [c]).toNat, by omega⟩
     rw [hi]
     have h2 : ((i : Int) == -1) = false := by first | (simp; done) | (simp; omega)
     have h3 : (((i : Int) + 1) == -1) = false := by first | (simp; done) | (simp; omega)
     rw [h2]
     simp only [Bool.false_eq_true, if_false]
     rw [h3]
     have h5 : ((i : Int) + 1).toNat = i + 1 := by omega
     have h6 : ((i : Int)).toNat = i := by omega
     simp only [Bool.false_eq_true, if_false, h5, h6, headC]
     simp
def piecesB (c : UInt8) (s : ByteArray) : List ByteArray := (splitL c s.data.toList).map fun l => ⟨l.toArray⟩
theorem splitB_eq (c : UInt8) (s : ByteArray) : Lib.splitB ⟨#[c]⟩ 0 (Lib.countB s ⟨#[c]⟩) s = piecesB c s := by
 have h := Lib.splitB_data ⟨#[c]⟩ 0 (Lib.countB s ⟨#[c]⟩) s
 have hc : Lib.countB s ⟨#[c]⟩ = s.data.toList.count c := Lib.count_one c s.data.toList
 rw [hc] at h ⊢
 have h2 : (⟨#[c]⟩ : ByteArray).data.toList = [c] := rfl
 rw [h2, splitK_eq] at h
 unfold piecesB
 rw [← h, List.map_map]
 conv => lhs; rw [← List.map_id (Lib.splitB ⟨#[c]⟩ 0 (s.data.toList.count c) s)]
 refine List.map_congr_left fun x _ => ?_
 cases x; simp
def atoiX (s : ByteArray) : Option Int :=
 match Lib.atoiAll s.data.toList with
 | .ok v => some v
 | _ => none
theorem str_vals {F : Nat → Nat} {w : World} {s : ByteArray} {vals : Array Value} (hr : RepDL F w [.str s] vals.toList) : vals = #[.string s] := by
 obtain ⟨x, l', h1, h2, h3⟩ := hr
 have h2 : x = .string s := h2
 have h3 : l' = [] := h3
 subst h2 h3
 exact Array.ext' h1
theorem str_vals2 {F : Nat → Nat} {w : World} {s t : ByteArray} {vals : Array Value} (hr : RepDL F w [.str s, .str t] vals.toList) : vals = #[.string s, .string t] := by
 obtain ⟨x, l', h1, h2, y, l2, rfl, h3, h4⟩ := hr
 have h2 : x = .string s := h2
 have h3 : y = .string t := h3
 have h4 : l2 = [] := h4
 subst h2 h3 h4
 exact Array.ext' h1
theorem Grown.of {w w' : World} (h : Below w.heap.size w w') : Grown w w' := ⟨h.os, h.tape, h.output, h.size, h.block⟩
theorem pa125 (s : ByteArray) (v : Int) (hs : s.size ≤ 1000000000) (h : atoiX s = some v) : FnV Tryz.prog 125 [.str s] (.tup [i64 v, .nili]) := by
 refine fnV_calls (enters Tryz.func125 rfl (by decide +kernel)) fun vals w F hl hf hr => ?_
 have ha : Lib.atoiAll s.data.toList = .ok v := by
  unfold atoiX at h
  split at h
  ·rename_i u hu; cases h; exact hu
  ·cases h
 rw [str_vals hr]
 refine (Tryz.strconv_Atoi_ok s (by omega) v ha w).mono ?_
 rintro e w' ⟨rfl, rfl | ⟨t, rfl⟩⟩
 ·exact ⟨_, rfl, Grown.refl _, F, fun _ _ => rfl, hf, _, rfl, _, _, rfl, rfl, _, _, rfl, rfl, rfl⟩
 ·have h2 := Lib.bytesWorld_size w 5 t
  exact ⟨_, rfl, Grown.of (Lib.bytesWorld_below w 5 t), F, fun _ _ => rfl, fun b hb => hf b (by omega), _, rfl, _, _, rfl, rfl, _, _, rfl, rfl, rfl⟩
theorem pa94 (s : ByteArray) (c : UInt8) (hs : s.size ≤ 1000000000) : FnV Tryz.prog 94 [.str s, .str ⟨#[c]⟩] (.tup [.str ⟨(cut1 c s.data.toList).1.toArray⟩, .str ⟨(cut1 c s.data.toList).2.1.toArray⟩, .bool (cut1 c s.data.toList).2.2]) := by
 refine fnV_calls (enters Tryz.func94 rfl (by decide +kernel)) fun vals w F hl hf hr => ?_
 rw [str_vals2 hr]
 obtain ⟨m, hm⟩ := hl.len 0 (by kernel_rfl)
 have hc := cut_eq c s.data.toList
 refine (Tryz.strings_Cut s ⟨#[c]⟩ m w (by omega) hm).mono ?_
 rintro e w' ⟨rfl, n, rfl⟩
 have h2 : (⟨#[c]⟩ : ByteArray).data.toList = [c] := rfl
 rw [h2, hc]
 exact ⟨_, rfl, ⟨rfl, rfl, rfl, Nat.le_refl _, fun _ _ => rfl⟩, F, fun _ _ => rfl, hf, _, rfl, _, _, rfl, rfl, _, _, rfl, rfl, _, _, rfl, rfl, rfl⟩
def wordsD (l : List ByteArray) : D := .vs (l.map fun x => [.str x])
theorem repEs_strs {F : Nat → Nat} {w : World} {b : Nat} : ∀ (l : List ByteArray) (off : Nat), (∀ i x, l[i]? = some x → off + i < F b ∧ w.cell? ⟨b, off + i, none⟩ = some (.string x)) → RepEs F w b off 1 (l.map fun x => [D.str x])
 | [], _, _ => trivial
 | x :: r, off, h => by
  obtain ⟨h1, h2⟩ := h 0 x rfl
  exact ⟨rfl, ⟨h1, ⟨_, h2, rfl⟩, trivial⟩, repEs_strs r (off + 1) fun i y hy => by
   have := h (i + 1) y hy
   rwa [show off + (i + 1) = off + 1 + i by omega] at this⟩
theorem pa99 (s : ByteArray) (c : UInt8) (hs : s.size ≤ 1000000000) : FnV Tryz.prog 99 [.str s, .str ⟨#[c]⟩] (wordsD (piecesB c s)) := by
 refine fnV_calls (enters Tryz.func99 rfl (by decide +kernel)) fun vals w F hl hf hr => ?_
 rw [str_vals2 hr]
 obtain ⟨m, hm⟩ := hl.len 0 (by kernel_rfl)
 refine (Tryz.strings_Split s ⟨#[c]⟩ m w (by omega) hm (Nat.le_refl 1)).mono ?_
 rintro e w' ⟨rfl, rfl⟩
 have hlen := Lib.splitB_all ⟨#[c]⟩ (Nat.le_refl 1) 0 _ s rfl
 rw [splitB_eq] at hlen ⊢
 rw [← hlen]
 generalize piecesB c s = l at hlen ⊢
 have hne : l ≠ [] := by rintro rfl; simp at hlen
 refine ⟨_, rfl, ⟨rfl, rfl, rfl, by simp, fun b hb => by show (w.heap.push _)[b]? = _; rw [Array.getElem?_push_lt hb, Array.getElem?_eq_getElem hb]⟩, fun b => if b = w.heap.size then l.length else F b, fun b hb => if_neg (by omega), fun b hb => ?_, _, _, _, rfl, by simp, Nat.le_refl _, fun _ => ⟨_, 0, 1, rfl, Nat.one_pos, repEs_strs l 0 fun i x hx => ?_⟩⟩
 ·have : (w.alloc (.cells (l.map Value.string).toArray 9)).heap.size = w.heap.size + 1 := by simp
  show (if b = w.heap.size then l.length else F b) = 0
  rw [if_neg (by omega)]
  exact hf b (by omega)
 ·have hi : i < l.length := (List.getElem?_eq_some_iff.1 hx).1
  refine ⟨by simp; exact hi, ?_⟩
  rw [cell_of_row _ _ _ _ _ _ (heap_alloc_new w _)]
  simp [hx]
end Go.PX
