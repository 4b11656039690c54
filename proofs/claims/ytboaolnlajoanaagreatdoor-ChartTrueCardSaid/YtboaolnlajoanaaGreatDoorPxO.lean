import Derived.Test.YtboaolnlajoanaaGreatDoorPxN
import Derived.Test.YtboaolnlajoanaaGreatDoorPxL
import Derived.Test.YtboaolnlajoanaaGreatDoorPxK
set_option linter.all false
set_option maxRecDepth 10000
namespace Go.PX
open Go.Proofs
structure FewC (c : Cht) : Prop where
 marks : c.marks.length < 1000000
 sands : c.sands.length < 1000000
 paints : ∀ m ∈ c.marks, m.paints.length < 1000000
 corners : ∀ s ∈ c.sands, s.corners.length < 1000000
set_option maxHeartbeats 4000000 in
theorem ch40 (a b : Cht) (ha : FewC a) : FnV Tryz.prog 40 [a.d, b.d] (.bool (decide (a = b))) := by
 refine fnV_of mixed tysOk Tryz.func40 rfl (ft := ft40) 2 (by decide +kernel) (by rfl) fun {σ} Y st => ?_
 conv=>whnf
 have hm1 := ha.marks
 have hs1 := ha.sands
 refine brk_i (fun h0 => ?_) (fun h0 => ?_)
 ·have h0 : a.marks.length ≠ b.marks.length := by
   intro e; simp [e] at h0
  conv=>whnf
  rw [decide_eq_false (by rintro rfl; exact h0 rfl)]
  exact RetA_view 0 rfl ⟨⟨rfl, rfl⟩, rfl⟩
 have hml : a.marks.length = b.marks.length := by
  have := h0
  simp at this; omega
 conv=>whnf
 refine brk_i (fun h0 => ?_) (fun h0 => ?_)
 ·have h0 : a.sands.length ≠ b.sands.length := by
   intro e; simp [e] at h0
  conv=>whnf
  rw [decide_eq_false (by rintro rfl; exact h0 rfl)]
  exact RetA_view 0 rfl ⟨⟨rfl, rfl⟩, rfl⟩
 have hsl : a.sands.length = b.sands.length := by
  have := h0
  simp at this; omega
 conv=>whnf
 refine LoopA_p (T := tys) tysOk (by exact drawsB_spec mixed tysOk (by decide +kernel)) (α := Nat) (fun i => ⟨[(2, .ptr 2 0), (3, .ptr 3 0), (5, .d (i64 i))], [(2, .box (.dd a.cells)), (3, .box (.dd b.cells))], st⟩) (fun i => i ≤ a.marks.length ∧ a.marks.take i = b.marks.take i) (fun i => a.marks.length - i) 0
  (Wk.sub ⟨(by first | rfl | (simp only [List.length_map]; rfl) | simp [PX.get]), (by first | rfl | (simp only [List.length_map]; rfl) | simp [PX.get]), (by first | rfl | (simp only [List.length_map]; rfl) | simp [PX.get]), trivial⟩ ⟨(by first | rfl | (simp only [List.length_map]; rfl) | simp [PX.get]), (by first | rfl | (simp only [List.length_map]; rfl) | simp [PX.get]), trivial⟩) (by simp) ?_
 rintro i ⟨hi, he⟩
 conv=>whnf
 refine brk_i (fun hc => ?_) (fun hc => ?_)
 ·have hc : i < a.marks.length := by simpa using hc
  have hc' : i < b.marks.length := by omega
  have hpl := ha.paints a.marks[i] (List.getElem_mem hc)
  have hne : a.marks[i] ≠ b.marks[i] → a ≠ b := by rintro h rfl; exact h rfl
  have hnx : a.marks[i] = b.marks[i] → a.marks.take (i + 1) = b.marks.take (i + 1) := fun h1 => by rw [List.take_succ_eq_append_getElem hc, List.take_succ_eq_append_getElem hc', he, h1]
  generalize hx : a.marks[i] = x at *
  generalize hy : b.marks[i] = y at *
  conv=>whnf
  refine elemK_i x.cells (by simp [hc, hx]) ?_
  conv=>whnf
  refine elemK_i y.cells (by simp [hc', hy]) ?_
  conv=>whnf
  refine brk_i (fun h1 => ?_) (fun h1 => ?_)
  ·have h1 : x ≠ y := by rintro rfl; simp at h1
   conv=>whnf
   rw [decide_eq_false (hne h1)]
   exact RetA_view 0 rfl ⟨⟨rfl, rfl⟩, rfl⟩
  have n1 : x.name = y.name := by simpa using h1
  conv=>whnf
  refine brk_i (fun h1 => ?_) (fun h1 => ?_)
  ·have h1 : x ≠ y := by rintro rfl; simp at h1
   conv=>whnf
   rw [decide_eq_false (hne h1)]
   exact RetA_view 0 rfl ⟨⟨rfl, rfl⟩, rfl⟩
  have n2 : x.at' = y.at' := by
   cases h4 : x.at' with
   | mk p q =>
    cases h5 : y.at' with
    | mk u v =>
     rw [h4, h5] at h1
     simpa using h1
  conv=>whnf
  refine brk_i (fun h1 => ?_) (fun h1 => ?_)
  ·have h1 : x ≠ y := by rintro rfl; simp at h1
   conv=>whnf
   rw [decide_eq_false (hne h1)]
   exact RetA_view 0 rfl ⟨⟨rfl, rfl⟩, rfl⟩
  have hxy : x.paints.length = y.paints.length := by
   have := h1
   simp at this; omega
  conv=>whnf
  refine LoopA_p (T := tys) tysOk (by exact drawsB_spec mixed tysOk (by decide +kernel)) (α := Nat) (fun k => ⟨[(2, .ptr 2 0), (3, .ptr 3 0), (5, .d (i64 i)), (6, .ptr 6 0), (7, .ptr 7 0), (8, .d (i64 k))], [(2, .box (.dd a.cells)), (3, .box (.dd b.cells)), (6, .box (.dd x.cells)), (7, .box (.dd y.cells))], st⟩) (fun k => k ≤ x.paints.length ∧ x.paints.take k = y.paints.take k) (fun k => x.paints.length - k) 0
   (Wk.sub ⟨(by first | rfl | (simp only [List.length_map]; rfl) | simp [PX.get]), (by first | rfl | (simp only [List.length_map]; rfl) | simp [PX.get]), (by first | rfl | (simp only [List.length_map]; rfl) | simp [PX.get]), (by first | rfl | (simp only [List.length_map]; rfl) | simp [PX.get]), (by first | rfl | (simp only [List.length_map]; rfl) | simp [PX.get]), (by first | rfl | (simp only [List.length_map]; rfl) | simp [PX.get]), trivial⟩ ⟨(by first | rfl | (simp only [List.length_map]; rfl) | simp [PX.get]), (by first | rfl | (simp only [List.length_map]; rfl) | simp [PX.get]), (by first | rfl | (simp only [List.length_map]; rfl) | simp [PX.get]), (by first | rfl | (simp only [List.length_map]; rfl) | simp [PX.get]), trivial⟩) (by simp) ?_
  rintro k ⟨hk, hke⟩
  conv=>whnf
  refine brk_i (fun hc2 => ?_) (fun hc2 => ?_)
  ·have hc2 : k < x.paints.length := by simpa using hc2
   have hc3 : k < y.paints.length := by omega
   conv=>whnf
   refine elemK_i x.paints[k].cells (by simp [hc2]) ?_
   conv=>whnf
   refine elemK_i y.paints[k].cells (by simp [hc3]) ?_
   conv=>whnf
   refine brk_i (fun h1 => ?_) (fun h1 => ?_)
   ·conv=>whnf
    have h1 : x.paints[k] ≠ y.paints[k] := by
     intro e
     rw [e] at h1
     simp at h1
    rw [decide_eq_false (hne (by rintro rfl; exact h1 rfl))]
    exact RetA_view 0 rfl ⟨⟨rfl, rfl⟩, rfl⟩
   ·have h1 : x.paints[k] = y.paints[k] := by
     cases hx : x.paints[k] with
     | mk p q =>
      cases hy : y.paints[k] with
      | mk u v =>
       rw [hx, hy] at h1
       simpa using h1
    refine arith_in (wrap_i64 (by (try dsimp only); omega)) ?_
    conv=>whnf
    exact ⟨k + 1, by omega, ⟨hc2, by rw [List.take_succ_eq_append_getElem hc2, List.take_succ_eq_append_getElem hc3, hke, h1]⟩, (Wk.sub ⟨(by first | rfl | (simp only [List.length_map]; rfl) | simp [PX.get]), (by first | rfl | (simp only [List.length_map]; rfl) | simp [PX.get]), (by first | rfl | (simp only [List.length_map]; rfl) | simp [PX.get]), (by first | rfl | (simp only [List.length_map]; rfl) | simp [PX.get]), (by first | rfl | (simp only [List.length_map]; rfl) | simp [PX.get]), (by first | rfl | (simp only [List.length_map]; rfl) | simp [PX.get]), trivial⟩ ⟨(by first | rfl | (simp only [List.length_map]; rfl) | simp [PX.get]), (by first | rfl | (simp only [List.length_map]; rfl) | simp [PX.get]), (by first | rfl | (simp only [List.length_map]; rfl) | simp [PX.get]), (by first | rfl | (simp only [List.length_map]; rfl) | simp [PX.get]), trivial⟩)⟩
  ·have hc2 : ¬ k < x.paints.length := by simpa using hc2
   rw [List.take_of_length_le (by omega), List.take_of_length_le (by omega)] at hke
   have hxe : x = y := by
    cases x; cases y
    simp only at n1 n2 hke
    rw [n1, n2, hke]
   conv=>whnf
   refine arith_in (wrap_i64 (by (try dsimp only); omega)) ?_
   conv=>whnf
   exact ⟨i + 1, by omega, ⟨hc, hnx hxe⟩, (Wk.sub ⟨(by first | rfl | (simp only [List.length_map]; rfl) | simp [PX.get]), (by first | rfl | (simp only [List.length_map]; rfl) | simp [PX.get]), (by first | rfl | (simp only [List.length_map]; rfl) | simp [PX.get]), trivial⟩ ⟨(by first | rfl | (simp only [List.length_map]; rfl) | simp [PX.get]), (by first | rfl | (simp only [List.length_map]; rfl) | simp [PX.get]), trivial⟩)⟩
 ·have hc : ¬ i < a.marks.length := by simpa using hc
  rw [List.take_of_length_le (by omega), List.take_of_length_le (by omega)] at he
  conv=>whnf
  refine LoopA_p (T := tys) tysOk (by exact drawsB_spec mixed tysOk (by decide +kernel)) (α := Nat) (fun i => ⟨[(2, .ptr 2 0), (3, .ptr 3 0), (9, .d (i64 i))], [(2, .box (.dd a.cells)), (3, .box (.dd b.cells))], st⟩) (fun i => i ≤ a.sands.length ∧ a.sands.take i = b.sands.take i) (fun i => a.sands.length - i) 0
   (Wk.sub ⟨(by first | rfl | (simp only [List.length_map]; rfl) | simp [PX.get]), (by first | rfl | (simp only [List.length_map]; rfl) | simp [PX.get]), (by first | rfl | (simp only [List.length_map]; rfl) | simp [PX.get]), trivial⟩ ⟨(by first | rfl | (simp only [List.length_map]; rfl) | simp [PX.get]), (by first | rfl | (simp only [List.length_map]; rfl) | simp [PX.get]), trivial⟩) (by simp) ?_
  rintro i ⟨hi, hes⟩
  conv=>whnf
  refine brk_i (fun hc => ?_) (fun hc => ?_)
  ·have hc : i < a.sands.length := by simpa using hc
   have hc' : i < b.sands.length := by omega
   have hpl := ha.corners a.sands[i] (List.getElem_mem hc)
   have hne : a.sands[i] ≠ b.sands[i] → a ≠ b := by rintro h rfl; exact h rfl
   have hnx : a.sands[i] = b.sands[i] → a.sands.take (i + 1) = b.sands.take (i + 1) := fun h1 => by rw [List.take_succ_eq_append_getElem hc, List.take_succ_eq_append_getElem hc', hes, h1]
   generalize hx : a.sands[i] = x at *
   generalize hy : b.sands[i] = y at *
   conv=>whnf
   refine elemK_i x.cells (by simp [hc, hx]) ?_
   conv=>whnf
   refine elemK_i y.cells (by simp [hc', hy]) ?_
   conv=>whnf
   refine brk_i (fun h1 => ?_) (fun h1 => ?_)
   ·have h1 : x ≠ y := by rintro rfl; simp at h1
    conv=>whnf
    rw [decide_eq_false (hne h1)]
    exact RetA_view 0 rfl ⟨⟨rfl, rfl⟩, rfl⟩
   have n1 : x.name = y.name := by simpa using h1
   conv=>whnf
   refine brk_i (fun h1 => ?_) (fun h1 => ?_)
   ·have h1 : x ≠ y := by rintro rfl; simp at h1
    conv=>whnf
    rw [decide_eq_false (hne h1)]
    exact RetA_view 0 rfl ⟨⟨rfl, rfl⟩, rfl⟩
   have n2 : x.moves = y.moves := by
    cases h4 : x.moves with
    | mk p q =>
     cases h5 : y.moves with
     | mk u v =>
      rw [h4, h5] at h1
      cases p; cases q; cases u; cases v
      simp at h1 ⊢
      exact h1
   conv=>whnf
   refine CallA_view (ch94 x.corners y.corners hpl) rfl 1 rfl ?_
   conv=>whnf
   refine brk_i (fun h1 => ?_) (fun h1 => ?_)
   ·have h1 : x ≠ y := by rintro rfl; simp at h1
    conv=>whnf
    rw [decide_eq_false (hne h1)]
    exact RetA_view 0 rfl ⟨⟨rfl, rfl⟩, rfl⟩
   have n3 : x.corners = y.corners := by simpa using h1
   have hxe : x = y := by
    cases x; cases y
    simp only at n1 n2 n3
    rw [n1, n2, n3]
   conv=>whnf
   refine arith_in (wrap_i64 (by (try dsimp only); omega)) ?_
   conv=>whnf
   exact ⟨i + 1, by omega, ⟨hc, hnx hxe⟩, (Wk.sub ⟨(by first | rfl | (simp only [List.length_map]; rfl) | simp [PX.get]), (by first | rfl | (simp only [List.length_map]; rfl) | simp [PX.get]), (by first | rfl | (simp only [List.length_map]; rfl) | simp [PX.get]), trivial⟩ ⟨(by first | rfl | (simp only [List.length_map]; rfl) | simp [PX.get]), (by first | rfl | (simp only [List.length_map]; rfl) | simp [PX.get]), trivial⟩)⟩
  ·have hc : ¬ i < a.sands.length := by simpa using hc
   rw [List.take_of_length_le (by omega), List.take_of_length_le (by omega)] at hes
   have hab : a = b := by
    cases a; cases b
    simp only at he hes
    rw [he, hes]
   conv=>whnf
   rw [decide_eq_true hab]
   exact RetA_view 0 rfl ⟨⟨rfl, rfl⟩, rfl⟩
end Go.PX
namespace Go.PX
open Go.Proofs
theorem e1 : vecV 31 = ⟨-195, 981⟩ ∧ vecE 31 = 0 := by decide +kernel
theorem e2 : onA exC ⟨150, 50⟩ = [0] ∧ onB exC ⟨150, 50⟩ = [0] ∧ openX exC ⟨150, 50⟩ = 0 := by decide +kernel
theorem e3 : onA exC ⟨205, 50⟩ = [] ∧ onB exC ⟨205, 50⟩ = [0] ∧ openX exC ⟨205, 50⟩ = 0 := by decide +kernel
theorem e4 : clearV exC ⟨0, 0⟩ 101 = (0, ⟨0, -5⟩) ∧ clearE exC ⟨0, 0⟩ 101 = 0 := by decide +kernel
theorem e5 : clearE exC ⟨0, 0⟩ 100 = 4 := by decide +kernel
theorem e6 : radV exC ⟨0, 0⟩ = 100 ∧ openX exC ⟨0, 0⟩ = 0 := by decide +kernel
theorem e7 : marC exC 50 0 = 2 ∧ marE exC 50 0 = 0 := by decide +kernel
theorem e8 : seenV exC 20 0 ⟨0, 0⟩ = 3 ∧ seenE exC 20 0 ⟨0, 0⟩ = 0 := by decide +kernel
theorem e9 : ptsL exC 20 1 ⟨⟨-2010, -1990⟩, ⟨0, 0⟩⟩ = [8, 24] ∧ ptsE exC 20 1 ⟨⟨-2010, -1990⟩, ⟨0, 0⟩⟩ = 0 := by decide +kernel
theorem e10 : writeX exC = exT ∧ (checkX exC).2.2 = 0 := by decide +kernel
theorem e11 : readX exT = (exC, 0) := by decide +kernel
theorem e12 : seenE exC 90 1 ⟨0, 0⟩ = 9 := by decide +kernel
end Go.PX
namespace Go.PX
open Go.Proofs
theorem a1 : FnV Tryz.prog 16 [i64 31] (.tup [Pt.d ⟨-195, 981⟩, i64 0]) := FnV.cast (ch16 31) (by rw [e1.1, e1.2])
theorem a2 : FnV Tryz.prog 23 [exC.d, Pt.d ⟨150, 50⟩] (.tup [intsD [0], intsD [0], i64 0]) := FnV.cast (ch23 exC ⟨150, 50⟩) (by rw [e2.1, e2.2.1, e2.2.2])
theorem a3 : FnV Tryz.prog 23 [exC.d, Pt.d ⟨205, 50⟩] (.tup [intsD [], intsD [0], i64 0]) := FnV.cast (ch23 exC ⟨205, 50⟩) (by rw [e3.1, e3.2.1, e3.2.2])
theorem a4 : FnV Tryz.prog 26 [exC.d, Pt.d ⟨0, 0⟩, i64 101] (.tup [i64 0, Pt.d ⟨0, -5⟩, i64 0]) := FnV.cast (ch26 exC ⟨0, 0⟩ 101) (by rw [e4.1, e4.2])
theorem a5 : FnV Tryz.prog 26 [exC.d, Pt.d ⟨0, 0⟩, i64 100] (.tup [i64 (clearV exC ⟨0, 0⟩ 100).1, (clearV exC ⟨0, 0⟩ 100).2.d, i64 4]) := FnV.cast (ch26 exC ⟨0, 0⟩ 100) (by rw [e5])
theorem a6 : FnV Tryz.prog 28 [exC.d, Pt.d ⟨0, 0⟩] (.tup [i64 100, i64 0]) := FnV.cast (ch28 exC ⟨0, 0⟩) (by rw [e6.1, e6.2])
theorem a7 : FnV Tryz.prog 30 [exC.d, i64 50, i64 0] (.tup [i64 2, i64 0]) := FnV.cast (ch30 exC 50 0) (by rw [e7.1, e7.2])
theorem a8 : FnV Tryz.prog 32 [exC.d, i64 20, i64 0, Pt.d ⟨0, 0⟩] (.tup [i64 3, i64 0]) := FnV.cast (ch32 exC 20 0 ⟨0, 0⟩) (by rw [e8.1, e8.2])
theorem a9 : FnV Tryz.prog 34 [exC.d, i64 20, i64 1, Box.d ⟨⟨-2010, -1990⟩, ⟨0, 0⟩⟩] (.tup [intsD [8, 24], i64 0]) := FnV.cast (ch34 exC 20 1 ⟨⟨-2010, -1990⟩, ⟨0, 0⟩⟩) (by rw [e9.1, e9.2])
theorem a10 : FnV Tryz.prog 36 [exC.d] (.tup [.str exT, i64 0]) := FnV.cast (ch36 exC) (by rw [e10.1, e10.2])
theorem a11 : FnV Tryz.prog 38 [.str exT] (.tup [exC.d, i64 0]) := FnV.cast (ch38 exT) (by rw [e11])
theorem a12 : FnV Tryz.prog 32 [exC.d, i64 90, i64 1, Pt.d ⟨0, 0⟩] (.tup [i64 (seenV exC 90 1 ⟨0, 0⟩), i64 9]) := FnV.cast (ch32 exC 90 1 ⟨0, 0⟩) (by rw [e12])
theorem few_ex : FewC exC := ⟨by decide, by decide, by decide, by decide⟩
theorem a13 : FnV Tryz.prog 40 [exC.d, exC.d] (.bool true) := FnV.cast (ch40 exC exC few_ex) (by simp)
theorem a14 : FnV Tryz.prog 18 [.str ⟨#[97, 45, 98]⟩] (.bool true) := FnV.cast (fn47 ⟨#[97, 45, 98]⟩) (congrArg D.bool (by decide +kernel))
theorem a15 : FnV Tryz.prog 18 [.str ⟨#[97, 45, 45, 98]⟩] (.bool false) := FnV.cast (fn47 ⟨#[97, 45, 45, 98]⟩) (congrArg D.bool (by decide +kernel))
theorem a16 (l : List Int) (hl : l.length < 1000000) : FnV Tryz.prog 25 [intsD l, intsD l] (.bool true) := FnV.cast (fn19 l l hl) (by simp)
set_option maxHeartbeats 8000000 in
theorem ch22 : FnV Tryz.prog 22 [] (.bool true) := by
 refine fnV_of mixed tysOk Tryz.func22 rfl (ft := ft22) 0 (by decide +kernel) (by rfl) fun {σ} Y st => ?_
 conv=>whnf
 repeat' (first
  | (refine CallA_v (a1) rfl rfl ?_; conv=>whnf)
  | (refine CallA_view (a1) rfl 1 rfl ?_; conv=>whnf)
  | (refine DrawCall_v (a1) rfl rfl ?_; conv=>whnf)
  | (refine DrawCall_view (a1) rfl 1 rfl ?_; conv=>whnf)
  | (refine CallA_v (ch41) rfl rfl ?_; conv=>whnf)
  | (refine CallA_view (ch41) rfl 1 rfl ?_; conv=>whnf)
  | (refine DrawCall_v (ch41) rfl rfl ?_; conv=>whnf)
  | (refine DrawCall_view (ch41) rfl 1 rfl ?_; conv=>whnf)
  | (refine CallA_v (ch42 _ _) rfl rfl ?_; conv=>whnf)
  | (refine CallA_view (ch42 _ _) rfl 1 rfl ?_; conv=>whnf)
  | (refine DrawCall_v (ch42 _ _) rfl rfl ?_; conv=>whnf)
  | (refine DrawCall_view (ch42 _ _) rfl 1 rfl ?_; conv=>whnf)
  | (refine CallA_v (ch52 _ _ _ _) rfl rfl ?_; conv=>whnf)
  | (refine CallA_view (ch52 _ _ _ _) rfl 1 rfl ?_; conv=>whnf)
  | (refine DrawCall_v (ch52 _ _ _ _) rfl rfl ?_; conv=>whnf)
  | (refine DrawCall_view (ch52 _ _ _ _) rfl 1 rfl ?_; conv=>whnf)
  | (refine CallA_v (a2) rfl rfl ?_; conv=>whnf)
  | (refine CallA_view (a2) rfl 1 rfl ?_; conv=>whnf)
  | (refine DrawCall_v (a2) rfl rfl ?_; conv=>whnf)
  | (refine DrawCall_view (a2) rfl 1 rfl ?_; conv=>whnf)
  | (refine CallA_v (a3) rfl rfl ?_; conv=>whnf)
  | (refine CallA_view (a3) rfl 1 rfl ?_; conv=>whnf)
  | (refine DrawCall_v (a3) rfl rfl ?_; conv=>whnf)
  | (refine DrawCall_view (a3) rfl 1 rfl ?_; conv=>whnf)
  | (refine CallA_v (a4) rfl rfl ?_; conv=>whnf)
  | (refine CallA_view (a4) rfl 1 rfl ?_; conv=>whnf)
  | (refine DrawCall_v (a4) rfl rfl ?_; conv=>whnf)
  | (refine DrawCall_view (a4) rfl 1 rfl ?_; conv=>whnf)
  | (refine CallA_v (a5) rfl rfl ?_; conv=>whnf)
  | (refine CallA_view (a5) rfl 1 rfl ?_; conv=>whnf)
  | (refine DrawCall_v (a5) rfl rfl ?_; conv=>whnf)
  | (refine DrawCall_view (a5) rfl 1 rfl ?_; conv=>whnf)
  | (refine CallA_v (a6) rfl rfl ?_; conv=>whnf)
  | (refine CallA_view (a6) rfl 1 rfl ?_; conv=>whnf)
  | (refine DrawCall_v (a6) rfl rfl ?_; conv=>whnf)
  | (refine DrawCall_view (a6) rfl 1 rfl ?_; conv=>whnf)
  | (refine CallA_v (a7) rfl rfl ?_; conv=>whnf)
  | (refine CallA_view (a7) rfl 1 rfl ?_; conv=>whnf)
  | (refine DrawCall_v (a7) rfl rfl ?_; conv=>whnf)
  | (refine DrawCall_view (a7) rfl 1 rfl ?_; conv=>whnf)
  | (refine CallA_v (a8) rfl rfl ?_; conv=>whnf)
  | (refine CallA_view (a8) rfl 1 rfl ?_; conv=>whnf)
  | (refine DrawCall_v (a8) rfl rfl ?_; conv=>whnf)
  | (refine DrawCall_view (a8) rfl 1 rfl ?_; conv=>whnf)
  | (refine CallA_v (a9) rfl rfl ?_; conv=>whnf)
  | (refine CallA_view (a9) rfl 1 rfl ?_; conv=>whnf)
  | (refine DrawCall_v (a9) rfl rfl ?_; conv=>whnf)
  | (refine DrawCall_view (a9) rfl 1 rfl ?_; conv=>whnf)
  | (refine CallA_v (a10) rfl rfl ?_; conv=>whnf)
  | (refine CallA_view (a10) rfl 1 rfl ?_; conv=>whnf)
  | (refine DrawCall_v (a10) rfl rfl ?_; conv=>whnf)
  | (refine DrawCall_view (a10) rfl 1 rfl ?_; conv=>whnf)
  | (refine CallA_v (ch69) rfl rfl ?_; conv=>whnf)
  | (refine CallA_view (ch69) rfl 1 rfl ?_; conv=>whnf)
  | (refine DrawCall_v (ch69) rfl rfl ?_; conv=>whnf)
  | (refine DrawCall_view (ch69) rfl 1 rfl ?_; conv=>whnf)
  | (refine CallA_v (a11) rfl rfl ?_; conv=>whnf)
  | (refine CallA_view (a11) rfl 1 rfl ?_; conv=>whnf)
  | (refine DrawCall_v (a11) rfl rfl ?_; conv=>whnf)
  | (refine DrawCall_view (a11) rfl 1 rfl ?_; conv=>whnf)
  | (refine CallA_v (a12) rfl rfl ?_; conv=>whnf)
  | (refine CallA_view (a12) rfl 1 rfl ?_; conv=>whnf)
  | (refine DrawCall_v (a12) rfl rfl ?_; conv=>whnf)
  | (refine DrawCall_view (a12) rfl 1 rfl ?_; conv=>whnf)
  | (refine CallA_v (a14) rfl rfl ?_; conv=>whnf)
  | (refine CallA_view (a14) rfl 1 rfl ?_; conv=>whnf)
  | (refine DrawCall_v (a14) rfl rfl ?_; conv=>whnf)
  | (refine DrawCall_view (a14) rfl 1 rfl ?_; conv=>whnf)
  | (refine CallA_v (a15) rfl rfl ?_; conv=>whnf)
  | (refine CallA_view (a15) rfl 1 rfl ?_; conv=>whnf)
  | (refine DrawCall_v (a15) rfl rfl ?_; conv=>whnf)
  | (refine DrawCall_view (a15) rfl 1 rfl ?_; conv=>whnf)
  | (refine CallA_v (a16 [0] (by decide)) rfl rfl ?_; conv=>whnf)
  | (refine CallA_view (a16 [0] (by decide)) rfl 1 rfl ?_; conv=>whnf)
  | (refine DrawCall_v (a16 [0] (by decide)) rfl rfl ?_; conv=>whnf)
  | (refine DrawCall_view (a16 [0] (by decide)) rfl 1 rfl ?_; conv=>whnf)
  | (refine CallA_v (a16 [8, 24] (by decide)) rfl rfl ?_; conv=>whnf)
  | (refine CallA_view (a16 [8, 24] (by decide)) rfl 1 rfl ?_; conv=>whnf)
  | (refine DrawCall_v (a16 [8, 24] (by decide)) rfl rfl ?_; conv=>whnf)
  | (refine DrawCall_view (a16 [8, 24] (by decide)) rfl 1 rfl ?_; conv=>whnf)
  | (refine CallA_v (a13) rfl rfl ?_; conv=>whnf)
  | (refine CallA_view (a13) rfl 1 rfl ?_; conv=>whnf)
  | (refine DrawCall_v (a13) rfl rfl ?_; conv=>whnf)
  | (refine DrawCall_view (a13) rfl 1 rfl ?_; conv=>whnf)
  | (refine arith_in (wrap_i64 (by (try dsimp only); omega)) ?_; conv=>whnf)
  | (refine elemK_nat (by assumption) ?_; conv=>whnf)
  | (refine ownK_whole (by first | rfl | assumption | (simp [Els.len]; done) | (simp [Els.len]; omega)) ?_; conv=>whnf)
  | (refine chk_i (by first | (exact decide_eq_true (by (try simp only [List.length_map]); omega)) | (simp [Els.len, Els.cons, V.cells, Els.toV, injL]; done) | (simp [Els.len, Els.cons, V.cells, Els.toV, injL]; omega)) ?_; conv=>whnf)
  | fail)
 exact RetA_view 0 rfl ⟨⟨rfl, rfl⟩, rfl⟩
end Go.PX
namespace Go.PX
open Go.Proofs
def atP (l : List Pt) (i : Nat) : Pt := (l[i]?).getD ⟨0, 0⟩
def cornerOk (l : List Pt) (i n : Nat) : Bool := decide (n = i) || decide (n = (i + 1) % l.length) || decide (0 < leftF ((atP l ((i + 1) % l.length)).sub (atP l i)) ((atP l n).sub (atP l i)))
def rowOk (l : List Pt) (i : Nat) : Bool := (List.range l.length).all (cornerOk l i)
def roundR (l : List Pt) : Bool := (List.range l.length).all (rowOk l)
theorem atP_get {l : List Pt} {i : Nat} (h : i < l.length) : l[i]? = some (atP l i) := by
 unfold atP
 simp [h]
theorem atP_mem {l : List Pt} {i : Nat} (h : i < l.length) : atP l i ∈ l := by
 unfold atP
 rw [List.getElem?_eq_getElem h]
 exact List.getElem_mem h
theorem range_get {n i q : Nat} (h : (List.range n)[i]? = some q) : q = i := by
 have hi : i < n := by simpa using (List.getElem?_eq_some_iff.1 h).1
 rw [List.getElem?_range hi] at h
 cases h; rfl
set_option maxHeartbeats 2000000 in
theorem ch106 (l : List Pt) (hl : l.length < 1000) (hp : ∀ p ∈ l, Pin 10000 p) : FnV Tryz.prog 106 [ptsD l] (.bool (roundR l)) := by
 refine fnV_of mixed tysOk Tryz.func106 rfl (ft := ft106) 1 (by decide +kernel) (by rfl) fun {σ} Y st => ?_
 conv=>whnf
 refine LoopA_i (T := tys) tysOk (by exact drawsB_spec mixed tysOk (by decide +kernel)) (List.range l.length) (fun i (_ : Unit) => ⟨[(0, .d (ptsD l)), (3, .d (i64 i))], [], st⟩) (fun i r _ => roundR l = r.all (rowOk l)) () (Wk.sub ⟨(by first | rfl | (simp only [List.length_map]; rfl) | simp [PX.get]), (by first | rfl | (simp only [List.length_map]; rfl) | simp [PX.get]), trivial⟩ trivial) rfl ?_ ?_
 ·rintro i q r _ hqi hi hr hk
  have hq := range_get hqi
  subst hq
  have hil : q < l.length := by simpa using hi
  rw [List.all_cons] at hk
  conv=>whnf
  refine brk_i (fun _ => ?_) (fun h => absurd h (by simp; omega))
  conv=>whnf
  refine arith_in (wrap_i64 (by (try dsimp only); omega)) ?_
  conv=>whnf
  have hk0 : ((q : Int) + 1).tmod (((l.map Pt.cells).length : Nat) : Int) = (((q + 1) % l.length : Nat) : Int) := by
   rw [List.length_map, Int.tmod_eq_emod_of_nonneg (by omega)]
   first | exact (Int.natCast_mod _ _).symm | exact (Int.natCast_emod _ _).symm | norm_cast
  rw [hk0]
  have hkl : (q + 1) % l.length < l.length := Nat.mod_lt _ (by omega)
  generalize hkk : (q + 1) % l.length = k at hkl
  refine brk_i (fun _ => ?_) (fun h => absurd h (by simp; rintro rfl; simp at hil))
  conv=>whnf
  refine LoopA_i (T := tys) tysOk (by exact drawsB_spec mixed tysOk (by decide +kernel)) (List.range l.length) (fun n (_ : Unit) => ⟨[(0, .d (ptsD l)), (3, .d (i64 q)), (4, .d (i64 k)), (5, .d (i64 n))], [], st⟩) (fun n r _ => rowOk l q = r.all (cornerOk l q)) () (Wk.sub ⟨(by first | rfl | (simp only [List.length_map]; rfl) | simp [PX.get]), (by first | rfl | (simp only [List.length_map]; rfl) | simp [PX.get]), (by first | rfl | (simp only [List.length_map]; rfl) | simp [PX.get]), (by first | rfl | (simp only [List.length_map]; rfl) | simp [PX.get]), trivial⟩ trivial) rfl ?_ ?_
  ·rintro n n' r2 _ hni hn hr2 hk2
   have hq2 := range_get hni
   subst hq2
   have hnl : n' < l.length := by simpa using hn
   rw [List.all_cons] at hk2
   have hpk := hp _ (atP_mem hkl)
   have hpq := hp _ (atP_mem hil)
   have hpn := hp _ (atP_mem hnl)
   conv=>whnf
   refine brk_i (fun _ => ?_) (fun h => absurd h (by simp; omega))
   conv=>whnf
   have hcor : cornerOk l q n' = (decide (n' = q) || decide (n' = k) || decide (0 < leftF ((atP l k).sub (atP l q)) ((atP l n').sub (atP l q)))) := by unfold cornerOk; rw [hkk]
   refine brk_i (fun h1 => ?_) (fun h1 => ?_)
   ·have h1 : n' ≠ q := by simp at h1; omega
    conv=>whnf
    refine brk_i (fun h2 => ?_) (fun h2 => ?_)
    ·have h2 : n' ≠ k := by simp at h2; omega
     rw [decide_eq_false h1, decide_eq_false h2, Bool.false_or, Bool.false_or] at hcor
     conv=>whnf
     refine elemK_nat (atP_get hkl) ?_
     conv=>whnf
     refine elemK_nat (atP_get hil) ?_
     conv=>whnf
     refine DrawCall_v (ds := [(atP l k).d, (atP l q).d]) (ch84 (atP l k) (atP l q) (hpk.mono (by omega)) (hpq.mono (by omega))) rfl rfl ?_
     conv=>whnf
     refine elemK_nat (atP_get hnl) ?_
     conv=>whnf
     refine elemK_nat (atP_get hil) ?_
     conv=>whnf
     refine DrawCall_v (ds := [(atP l n').d, (atP l q).d]) (ch84 (atP l n') (atP l q) (hpn.mono (by omega)) (hpq.mono (by omega))) rfl rfl ?_
     conv=>whnf
     refine DrawCall_v (ds := [((atP l k).sub (atP l q)).d, ((atP l n').sub (atP l q)).d]) (ch95 _ _ ((hpk.sub hpq).mono (by omega)) ((hpn.sub hpq).mono (by omega))) rfl rfl ?_
     conv=>whnf
     refine brk_i (fun h3 => ?_) (fun h3 => ?_)
     ·have h3 : leftF ((atP l k).sub (atP l q)) ((atP l n').sub (atP l q)) ≤ 0 := of_decide_eq_true h3
      rw [decide_eq_false (by omega)] at hcor
      rw [hcor, Bool.false_and] at hk2
      rw [hk2, Bool.false_and] at hk
      rw [hk]
      conv=>whnf
      exact RetA_view 0 rfl ⟨⟨rfl, rfl⟩, rfl⟩
     ·have h3 : ¬ leftF ((atP l k).sub (atP l q)) ((atP l n').sub (atP l q)) ≤ 0 := of_decide_eq_false h3
      rw [decide_eq_true (by omega)] at hcor
      rw [hcor, Bool.true_and] at hk2
      conv=>whnf
      refine arith_in (wrap_i64 (by (try dsimp only); omega)) ?_
      conv=>whnf
      exact ⟨(), hk2, Wk.sub ⟨rfl, rfl, rfl, congrArg (fun z => some (V.d (i64 z))) (by omega), trivial⟩ trivial⟩
    ·have h2 : n' = k := by simp at h2; omega
     rw [decide_eq_true h2, Bool.or_true, Bool.true_or] at hcor
     rw [hcor, Bool.true_and] at hk2
     conv=>whnf
     refine arith_in (wrap_i64 (by (try dsimp only); omega)) ?_
     conv=>whnf
     exact ⟨(), hk2, Wk.sub ⟨rfl, rfl, rfl, congrArg (fun z => some (V.d (i64 z))) (by omega), trivial⟩ trivial⟩
   ·have h1 : n' = q := by simp at h1; omega
    rw [decide_eq_true h1, Bool.true_or, Bool.true_or] at hcor
    rw [hcor, Bool.true_and] at hk2
    conv=>whnf
    refine arith_in (wrap_i64 (by (try dsimp only); omega)) ?_
    conv=>whnf
    exact ⟨(), hk2, Wk.sub ⟨rfl, rfl, rfl, congrArg (fun z => some (V.d (i64 z))) (by omega), trivial⟩ trivial⟩
  ·rintro _ hk2
   conv=>whnf
   refine brk_i (fun h => absurd h (by simp)) (fun _ => ?_)
   rw [hk2] at hk
   conv=>whnf
   refine arith_in (wrap_i64 (by (try dsimp only); omega)) ?_
   conv=>whnf
   exact ⟨(), hk, Wk.sub ⟨rfl, congrArg (fun z => some (V.d (i64 z))) (by omega), trivial⟩ trivial⟩
 ·rintro _ hk
  conv=>whnf
  refine brk_i (fun h => absurd h (by simp)) (fun _ => ?_)
  conv=>whnf
  rw [hk]
  exact RetA_view 0 rfl ⟨⟨rfl, rfl⟩, rfl⟩
end Go.PX
namespace Go.PX
open Go.Proofs
def sandR (s : Sand) : Int :=
 if inB s.corners.length 3 8 then (if (s.corners.all fun p => withinB 10000 p) then (if boxE 500 s.moves = 0 then (if roundR s.corners then 0 else 9) else boxE 500 s.moves) else 7) else 3
set_option maxHeartbeats 2000000 in
theorem ch68 (s : Sand) : FnV Tryz.prog 68 [s.d] (i64 (sandR s)) := by
 refine fnV_of mixed tysOk Tryz.func68 rfl (ft := ft68) 1 (by decide +kernel) (by rfl) fun {σ} Y st => ?_
 conv=>whnf
 refine CallA_view (fn118 s.corners.length 3 8) rfl 1 (by simp; rfl) ?_
 cases h1 : inB (s.corners.length : Int) 3 8 with
 | false =>
  have he : sandR s = 3 := by unfold sandR; rw [h1]; rfl
  rw [he]
  conv=>whnf
  exact RetA_view 0 rfl ⟨⟨rfl, rfl⟩, rfl⟩
 | true =>
  have h1b := h1
  rw [inB_iff] at h1
  have he : sandR s = if (s.corners.all fun p => withinB 10000 p) then (if boxE 500 s.moves = 0 then (if roundR s.corners then 0 else 9) else boxE 500 s.moves) else 7 := by unfold sandR; rw [h1b, if_pos rfl]
  conv=>whnf
  refine LoopA_i (T := tys) tysOk (by exact drawsB_spec mixed tysOk (by decide +kernel)) s.corners (fun i (_ : Unit) => ⟨[(1, .ptr 1 0), (3, .d (i64 i))], [(1, .box (.dd s.cells))], st⟩) (fun i r _ => (s.corners.all fun p => withinB 10000 p) = r.all fun p => withinB 10000 p) () (Wk.sub ⟨(by first | rfl | (simp only [List.length_map]; rfl) | simp [PX.get]), (by first | rfl | (simp only [List.length_map]; rfl) | simp [PX.get]), trivial⟩ ⟨(by first | rfl | (simp only [List.length_map]; rfl) | simp [PX.get]), trivial⟩) rfl ?_ ?_
  ·rintro i p r _ hpi hi hr hk
   rw [List.all_cons] at hk
   conv=>whnf
   refine brk_i (fun _ => ?_) (fun h => absurd hi (by simpa using h))
   conv=>whnf
   refine elemK_nat hpi ?_
   conv=>whnf
   refine CallA_view (ds := [p.d, i64 10000]) (ch55 p 10000 (by omega)) rfl 1 rfl ?_
   cases hw : withinB 10000 p with
   | false =>
    rw [hw, Bool.false_and] at hk
    rw [hk, if_neg (by simp)] at he
    rw [he]
    conv=>whnf
    exact RetA_view 0 rfl ⟨⟨rfl, rfl⟩, rfl⟩
   | true =>
    rw [hw, Bool.true_and] at hk
    conv=>whnf
    refine arith_in (wrap_i64 (by (try dsimp only); omega)) ?_
    conv=>whnf
    exact ⟨(), hk, (Wk.sub ⟨(by first | rfl | (simp only [List.length_map]; rfl) | simp [PX.get]), (by first | rfl | (simp only [List.length_map]; rfl) | simp [PX.get]), trivial⟩ ⟨(by first | rfl | (simp only [List.length_map]; rfl) | simp [PX.get]), trivial⟩)⟩
  ·rintro _ hk
   have hk : (s.corners.all fun p => withinB 10000 p) = true := hk
   rw [hk, if_pos rfl] at he
   have hp : ∀ p ∈ s.corners, Pin 10000 p := by
    intro p hp
    exact within_iff.1 (List.all_eq_true.1 hk p hp)
   conv=>whnf
   refine brk_i (fun h => absurd h (by simp)) (fun _ => ?_)
   conv=>whnf
   refine CallA_view (ds := [s.moves.d, i64 (-500), i64 500]) (ch56 s.moves 500 (by omega)) rfl 1 rfl ?_
   conv=>whnf
   refine brk_i (fun h3 => ?_) (fun h3 => ?_)
   ·have h3 : boxE 500 s.moves = 0 := by simpa using h3
    rw [if_pos h3] at he
    rw [h3]
    conv=>whnf
    refine CallA_view (ds := [ptsD s.corners]) (ch106 s.corners (by omega) hp) rfl 1 rfl ?_
    cases hr : roundR s.corners with
    | true =>
     rw [hr, if_pos rfl] at he
     rw [he]
     conv=>whnf
     exact RetA_view 0 rfl ⟨⟨rfl, rfl⟩, rfl⟩
    | false =>
     rw [hr, if_neg (by simp)] at he
     rw [he]
     conv=>whnf
     exact RetA_view 0 rfl ⟨⟨rfl, rfl⟩, rfl⟩
   ·have h3 : ¬ boxE 500 s.moves = 0 := by simpa using h3
    rw [if_neg h3] at he
    rw [he]
    conv=>whnf
    exact RetA_view 0 rfl ⟨⟨rfl, rfl⟩, rfl⟩
end Go.PX
namespace Go.PX
open Go.Proofs
def markER (ns : List ByteArray) (m : Mark) : Int :=
 if freshF m.name ns = 0 then (if farM m then 7 else paintE m.paints) else freshF m.name ns
def marksR : List ByteArray → Int → List Mark → (Int × Int) ⊕ List ByteArray
 | ns, _, [] => .inr ns
 | ns, i, m :: r => if markER ns m = 0 then marksR (ns ++ [m.name]) (i + 1) r else .inl (i, markER ns m)
def sandER (ns : List ByteArray) (s : Sand) : Int := if freshF s.name ns = 0 then sandR s else freshF s.name ns
def sandsR : List ByteArray → Int → List Sand → Int × Int × Int
 | _, _, [] => (0, 0, 0)
 | ns, i, s :: r => if sandER ns s = 0 then sandsR (ns ++ [s.name]) (i + 1) r else (2, i, sandER ns s)
def checkR (c : Cht) : Int × Int × Int :=
 if c.marks.length > 8 then (1, 0, 3) else match marksR [] 0 c.marks with
 | .inl (i, e) => (1, i, e)
 | .inr ns => if c.sands.length > 4 then (2, 0, 3) else sandsR ns 0 c.sands
def strsC (l : List ByteArray) : List (List D) := l.map fun s => [.str s]
set_option maxHeartbeats 4000000 in
theorem ch21 (c : Cht) : FnV Tryz.prog 21 [c.d] (.tup [i64 (checkR c).1, i64 (checkR c).2.1, i64 (checkR c).2.2]) := by
 refine fnV_of mixed tysOk Tryz.func21 rfl (ft := ft21) 1 (by decide +kernel) (by rfl) fun {σ} Y st => ?_
 conv=>whnf
 refine brk_i (fun h0 => ?_) (fun h0 => ?_)
 ·have h0 : c.marks.length > 8 := by have := of_decide_eq_true h0; simp at this; omega
  have he : checkR c = (1, 0, 3) := by unfold checkR; rw [if_pos h0]
  rw [he]
  conv=>whnf
  exact RetA_view 0 rfl ⟨⟨rfl, rfl⟩, rfl⟩
 have h0 : ¬ c.marks.length > 8 := by have := of_decide_eq_false h0; simp at this; omega
 have he : checkR c = match marksR [] 0 c.marks with
  | .inl (i, e) => (1, i, e)
  | .inr ns => if c.sands.length > 4 then (2, 0, 3) else sandsR ns 0 c.sands := by unfold checkR; rw [if_neg h0]
 conv=>whnf
 refine LoopA_i (T := tys) tysOk (by exact drawsB_spec mixed tysOk (by decide +kernel)) c.marks (fun i (ns : List ByteArray) => ⟨[(1, .ptr 1 0), (5, .sl 900001 1 0 ns.length), (6, .d (i64 i))], [(1, .box (.dd c.cells)), (900001, .arr 1 (.dd (strsC ns)))], st⟩) (fun i r ns => ns.length ≤ i ∧ marksR [] 0 c.marks = marksR ns i r) [] ((Wk.born 5 900001 1 rfl rfl rfl).trans (Wk.sub ⟨(by first | rfl | (simp only [List.length_map]; rfl) | simp [PX.get]), (by first | rfl | (simp only [List.length_map]; rfl) | simp [PX.get]), (by first | rfl | (simp only [List.length_map]; rfl) | simp [PX.get]), trivial⟩ ⟨(by first | rfl | (simp only [List.length_map]; rfl) | simp [PX.get]), (by first | rfl | (simp only [List.length_map]; rfl) | simp [PX.get]), trivial⟩)) ⟨by simp, rfl⟩ ?_ ?_
 ·rintro i m r ns hmi hi hr ⟨hns, hk⟩
  rw [marksR] at hk
  conv=>whnf
  refine brk_i (fun _ => ?_) (fun h => absurd hi (by simpa using h))
  conv=>whnf
  refine elemK_nat hmi ?_
  conv=>whnf
  refine CallA_view (fn91 m.name ns (by omega)) rfl 1 (viewL_cons rfl (viewL_cons (viewV_sl rfl (by simp [strsC])) rfl)) ?_
  conv=>whnf
  refine ownK_whole rfl ?_
  conv=>whnf
  refine ownK_whole (by simp [Els.len, strsC]) ?_
  conv=>whnf
  refine chk_i (decide_eq_true (by show ((strsC ns).length + 1) * 16 ≤ _; simp only [strsC, List.length_map]; omega)) ?_
  conv=>whnf
  by_cases hf : freshF m.name ns = 0
  case neg =>
   have hm : markER ns m = freshF m.name ns := by unfold markER; rw [if_neg hf]
   rw [hm, if_neg hf] at hk
   have he2 : checkR c = (1, (i : Int), freshF m.name ns) := by rw [he, hk]
   rw [he2, decide_eq_false hf]
   conv=>whnf
   refine brk_i (fun h => absurd h (by simp [hf])) (fun _ => ?_)
   conv=>whnf
   refine brk_i (fun _ => ?_) (fun h => absurd h (by simp [hf]))
   conv=>whnf
   exact RetA_view 0 rfl ⟨⟨rfl, rfl⟩, rfl⟩
  rw [decide_eq_true hf]
  conv=>whnf
  refine CallA_view (ds := [m.at'.d, i64 30000]) (ch55 m.at' 30000 (by omega)) rfl 1 rfl ?_
  cases hw : withinB 30000 m.at' with
  | false =>
   have hm : markER ns m = 7 := by unfold markER farM; rw [if_pos hf, hw]; rfl
   rw [hm, if_neg (by simp)] at hk
   have he2 : checkR c = (1, (i : Int), 7) := by rw [he, hk]
   rw [he2]
   conv=>whnf
   exact RetA_view 0 rfl ⟨⟨rfl, rfl⟩, rfl⟩
  | true =>
   have hm : markER ns m = paintE m.paints := by unfold markER farM; rw [if_pos hf, hw]; rfl
   rw [hm] at hk
   conv=>whnf
   refine brk_i (fun _ => ?_) (fun h => absurd h (by simp [hf]))
   conv=>whnf
   refine CallA_v (ch67 m.paints) rfl rfl ?_
   conv=>whnf
   refine brk_i (fun hp => ?_) (fun hp => ?_)
   ·have hp : ¬ paintE m.paints = 0 := by simpa using hp
    rw [if_neg hp] at hk
    have he2 : checkR c = (1, (i : Int), paintE m.paints) := by rw [he, hk]
    rw [he2]
    conv=>whnf
    exact RetA_view 0 rfl ⟨⟨rfl, rfl⟩, rfl⟩
   ·have hp : paintE m.paints = 0 := by simpa using hp
    rw [if_pos hp] at hk
    conv=>whnf
    refine arith_in (wrap_i64 (by (try dsimp only); omega)) ?_
    conv=>whnf
    exact ⟨ns ++ [m.name], ⟨by simp; omega, hk⟩, (Wk.move 35 900001 rfl rfl).trans (Wk.sub ⟨rfl, congrArg (fun z : Nat => some (V.sl 900001 1 0 z)) (by simp [Els.len, strsC]), congrArg (fun z => some (V.d (i64 z))) (by omega), trivial⟩ ⟨rfl, congrArg (fun z => some (Obj.arr 1 (.dd z))) (by simp [strsC]), trivial⟩)⟩
 ·rintro ns ⟨hns, hk⟩
  have he2 : checkR c = if c.sands.length > 4 then (2, 0, 3) else sandsR ns 0 c.sands := by rw [he, hk, marksR]
  conv=>whnf
  refine brk_i (fun h => absurd h (by simp)) (fun _ => ?_)
  conv=>whnf
  refine brk_i (fun h1 => ?_) (fun h1 => ?_)
  ·have h1 : c.sands.length > 4 := by have := of_decide_eq_true h1; simp at this; omega
   rw [if_pos h1] at he2
   rw [he2]
   conv=>whnf
   exact RetA_view 0 rfl ⟨⟨rfl, rfl⟩, rfl⟩
  have h1 : ¬ c.sands.length > 4 := by have := of_decide_eq_false h1; simp at this; omega
  rw [if_neg h1] at he2
  conv=>whnf
  refine LoopA_i (T := tys) tysOk (by exact drawsB_spec mixed tysOk (by decide +kernel)) c.sands (fun i (ns : List ByteArray) => ⟨[(1, .ptr 1 0), (5, .sl 900001 1 0 ns.length), (9, .d (i64 i))], [(1, .box (.dd c.cells)), (900001, .arr 1 (.dd (strsC ns)))], st⟩) (fun i r ns => ns.length ≤ 8 + i ∧ checkR c = sandsR ns i r) ns (Wk.sub ⟨(by first | rfl | (simp only [List.length_map]; rfl) | simp [PX.get]), (by first | rfl | (simp only [List.length_map]; rfl) | simp [PX.get]), (by first | rfl | (simp only [List.length_map]; rfl) | simp [PX.get]), trivial⟩ ⟨(by first | rfl | (simp only [List.length_map]; rfl) | simp [PX.get]), (by first | rfl | (simp only [List.length_map]; rfl) | simp [PX.get]), trivial⟩) ⟨by omega, he2⟩ ?_ ?_
  ·rintro i m r ns hmi hi hr ⟨hns, hk⟩
   rw [sandsR] at hk
   conv=>whnf
   refine brk_i (fun _ => ?_) (fun h => absurd hi (by simpa using h))
   conv=>whnf
   refine elemK_nat hmi ?_
   conv=>whnf
   refine CallA_view (fn91 m.name ns (by omega)) rfl 1 (viewL_cons rfl (viewL_cons (viewV_sl rfl (by simp [strsC])) rfl)) ?_
   conv=>whnf
   refine elemK_nat hmi ?_
   conv=>whnf
   refine ownK_whole rfl ?_
   conv=>whnf
   refine ownK_whole (by simp [Els.len, strsC]) ?_
   conv=>whnf
   refine chk_i (decide_eq_true (by show ((strsC ns).length + 1) * 16 ≤ _; simp only [strsC, List.length_map]; omega)) ?_
   conv=>whnf
   by_cases hf : freshF m.name ns = 0
   case neg =>
    have hm : sandER ns m = freshF m.name ns := by unfold sandER; rw [if_neg hf]
    rw [hm, if_neg hf] at hk
    rw [hk, decide_eq_false hf]
    conv=>whnf
    refine brk_i (fun _ => ?_) (fun h => absurd h (by simp [hf]))
    conv=>whnf
    exact RetA_view 0 rfl ⟨⟨rfl, rfl⟩, rfl⟩
   have hm : sandER ns m = sandR m := by unfold sandER; rw [if_pos hf]
   rw [hm] at hk
   rw [decide_eq_true hf]
   conv=>whnf
   refine elemK_nat hmi ?_
   conv=>whnf
   refine CallA_view (ds := [m.d]) (ch68 m) rfl 1 rfl ?_
   conv=>whnf
   refine brk_i (fun hp => ?_) (fun hp => ?_)
   ·have hp : ¬ sandR m = 0 := by simpa using hp
    rw [if_neg hp] at hk
    rw [hk]
    conv=>whnf
    exact RetA_view 0 rfl ⟨⟨rfl, rfl⟩, rfl⟩
   ·have hp : sandR m = 0 := by simpa using hp
    rw [if_pos hp] at hk
    conv=>whnf
    refine arith_in (wrap_i64 (by (try dsimp only); omega)) ?_
    conv=>whnf
    exact ⟨ns ++ [m.name], ⟨by simp; omega, hk⟩, (Wk.move 80 900001 rfl rfl).trans (Wk.sub ⟨rfl, congrArg (fun z : Nat => some (V.sl 900001 1 0 z)) (by simp [Els.len, strsC]), congrArg (fun z => some (V.d (i64 z))) (by omega), trivial⟩ ⟨rfl, congrArg (fun z => some (Obj.arr 1 (.dd z))) (by simp [strsC]), trivial⟩)⟩
  ·rintro ns ⟨hns, hk⟩
   rw [sandsR] at hk
   rw [hk]
   conv=>whnf
   refine brk_i (fun h => absurd h (by simp)) (fun _ => ?_)
   conv=>whnf
   exact RetA_view 0 rfl ⟨⟨rfl, rfl⟩, rfl⟩
end Go.PX
namespace Go.PX
open Go.Proofs
theorem rightL_count (x : Pt × Pt) : ∀ (l : List Pt) (n : Int), rightL x l n = n + (l.countP fun p => decide (leftF x.2 (p.sub x.1) ≤ 0) : Nat)
 | [], n => by simp [rightL]
 | p :: r, n => by
  rw [rightL, rightL_count x r, List.countP_cons]
  by_cases h : leftF x.2 (p.sub x.1) ≤ 0
  ·simp [h]; omega
  ·simp [h]
theorem map_atP (l : List Pt) : (List.range l.length).map (atP l) = l := by
 apply List.ext_getElem
 ·simp
 ·intro i h1 h2
  simp [atP, h2]
theorem count_two {l : List Nat} (hn : l.Nodup) {i k : Nat} (hi : i ∈ l) (hk : k ∈ l) (hik : i ≠ k) (g : Nat → Bool) (gi : g i = true) (gk : g k = true) : l.countP g = 2 ↔ ∀ n ∈ l, n ≠ i → n ≠ k → g n = false := by
 have hk1 : k ∈ l.erase i := (List.mem_erase_of_ne (Ne.symm hik)).2 hk
 have e1 : l.countP g = (l.erase i).countP g + 1 := by
  rw [(List.perm_cons_erase hi).countP_eq g, List.countP_cons_of_pos gi]
 have e2 : (l.erase i).countP g = ((l.erase i).erase k).countP g + 1 := by
  rw [(List.perm_cons_erase hk1).countP_eq g, List.countP_cons_of_pos gk]
 have e3 : l.countP g = 2 ↔ ((l.erase i).erase k).countP g = 0 := by omega
 rw [e3, List.countP_eq_zero]
 have hn1 : (l.erase i).Nodup := hn.erase i
 constructor
 ·intro h n hn' h1 h2
  have := h n (hn1.mem_erase_iff.2 ⟨h2, hn.mem_erase_iff.2 ⟨h1, hn'⟩⟩)
  simpa using this
 ·intro h n hn'
  obtain ⟨h2, h3⟩ := hn1.mem_erase_iff.1 hn'
  obtain ⟨h1, h4⟩ := hn.mem_erase_iff.1 h3
  simp [h n h4 h1 h2]
theorem side_row {s : Sand} (h3 : 3 ≤ s.corners.length) {i k : Nat} (hi : i < s.corners.length) (hk : k < s.corners.length) (hik : i ≠ k) (hki : (i + 1) % s.corners.length = k) :
  sideOk s (atP s.corners i, (atP s.corners k).sub (atP s.corners i)) = rowOk s.corners i := by
 have hz : ∀ b : Pt, leftF b ⟨0, 0⟩ = 0 := fun b => by simp [leftF]
 have hb : ∀ b : Pt, leftF b b = 0 := fun b => by simp [leftF, Int.mul_comm]
 have hs : ∀ b : Pt, b.sub b = ⟨0, 0⟩ := fun b => by simp [Pt.sub]
 generalize hl : s.corners = l at *
 generalize hbb : (atP l k).sub (atP l i) = b
 let g : Nat → Bool := fun n => decide (leftF b ((atP l n).sub (atP l i)) ≤ 0)
 have gi : g i = true := by show decide _ = true; rw [hs, hz]; rfl
 have gk : g k = true := by show decide _ = true; rw [hbb, hb]; rfl
 have hcnt : rightL (atP l i, b) l 0 = 2 ↔ ∀ n < l.length, n ≠ i → n ≠ k → g n = false := by
  have h1 := rightL_count (atP l i, b) l 0
  have h2 : (l.countP fun p => decide (leftF b (p.sub (atP l i)) ≤ 0)) = (List.range l.length).countP g := by
   have h5 := List.countP_map (p := fun p => decide (leftF b (p.sub (atP l i)) ≤ 0)) (f := atP l) (l := List.range l.length)
   rw [map_atP] at h5
   exact h5
  have h3 := count_two (List.nodup_range (n := l.length)) (List.mem_range.2 hi) (List.mem_range.2 hk) hik g gi gk
  rw [h1, h2]
  constructor
  ·intro h n hn
   exact h3.1 (by omega) n (List.mem_range.2 hn)
  ·intro h
   have := h3.2 fun n hn => h n (List.mem_range.1 hn)
   omega
 obtain ⟨t, ht, hti, htk⟩ : ∃ t < l.length, t ≠ i ∧ t ≠ k := by
  by_cases h0 : 0 ≠ i ∧ 0 ≠ k
  ·exact ⟨0, by omega, h0⟩
  by_cases h1 : 1 ≠ i ∧ 1 ≠ k
  ·exact ⟨1, by omega, h1⟩
  ·exact ⟨2, by omega, by omega, by omega⟩
 have hrow : rowOk l i = true ↔ ∀ n < l.length, n ≠ i → n ≠ k → 0 < leftF b ((atP l n).sub (atP l i)) := by
  unfold rowOk
  rw [List.all_eq_true]
  constructor
  ·intro h n hn h1 h2
   have := h n (List.mem_range.2 hn)
   unfold cornerOk at this
   rw [hki, hbb] at this
   simpa [h1, h2] using this
  ·intro h n hn
   have hn := List.mem_range.1 hn
   unfold cornerOk
   rw [hki, hbb]
   by_cases h1 : n = i
   ·simp [h1]
   by_cases h2 : n = k
   ·simp [h2]
   ·simp [h n hn h1 h2]
 rw [Bool.eq_iff_iff, hrow]
 unfold sideOk
 simp only [hl, Bool.and_eq_true, decide_eq_true_eq, Bool.not_eq_true', Bool.and_eq_false_imp, decide_eq_false_iff_not]
 rw [hcnt]
 constructor
 ·rintro ⟨h1, _⟩ n hn hni hnk
  have := h1 n hn hni hnk
  have : ¬ leftF b ((atP l n).sub (atP l i)) ≤ 0 := by simpa [g] using this
  omega
 ·intro h
  refine ⟨fun n hn h1 h2 => ?_, fun hx hy => ?_⟩
  ·have := h n hn h1 h2
   show decide _ = false
   exact decide_eq_false (by omega)
  ·have := h t ht hti htk
   unfold leftF at this
   rw [hx, hy] at this
   simp at this
theorem sidesL_map : ∀ (l : List Pt) (a : Pt), sidesL a l = (List.range l.length).map fun j => ((if j = 0 then a else atP l (j - 1)), (atP l j).sub (if j = 0 then a else atP l (j - 1)))
 | [], _ => rfl
 | p :: r, a => by
  rw [sidesL, sidesL_map r p, List.length_cons, List.range_succ_eq_map, List.map_cons, List.map_map]
  congr 1
  apply List.map_congr_left
  intro j hj
  have h1 : (if j = 0 then p else atP r (j - 1)) = atP (p :: r) j := by
   cases j with
   | zero => rfl
   | succ j => simp [atP]
  have h2 : atP (p :: r) (j + 1) = atP r j := by simp [atP]
  show ((if j = 0 then p else atP r (j - 1)), (atP r j).sub (if j = 0 then p else atP r (j - 1))) = _
  simp only [Function.comp, Nat.succ_ne_zero, if_false, Nat.succ_sub_one, h1]
  rw [show Nat.succ j = j + 1 from rfl, h2]
theorem sides_round {s : Sand} (h3 : 3 ≤ s.corners.length) : (sidesF s).all (sideOk s) = roundR s.corners := by
 have hlast : lastP s.corners = atP s.corners (s.corners.length - 1) := rfl
 unfold sidesF roundR
 rw [sidesL_map, hlast, List.all_map]
 have hside : ∀ j < s.corners.length, ((sideOk s) ∘ fun j => ((if j = 0 then atP s.corners (s.corners.length - 1) else atP s.corners (j - 1)), (atP s.corners j).sub (if j = 0 then atP s.corners (s.corners.length - 1) else atP s.corners (j - 1)))) j = rowOk s.corners (if j = 0 then s.corners.length - 1 else j - 1) := by
  intro j hj
  show sideOk s _ = _
  by_cases h0 : j = 0
  ·subst h0
   simp only [if_true]
   exact side_row h3 (by omega) hj (by omega) (by rw [Nat.sub_add_cancel (by omega), Nat.mod_self])
  ·simp only [if_neg h0]
   exact side_row h3 (by omega) hj (by omega) (by rw [Nat.sub_add_cancel (by omega), Nat.mod_eq_of_lt hj])
 rw [Bool.eq_iff_iff, List.all_eq_true, List.all_eq_true]
 constructor
 ·intro h i hi
  have hi := List.mem_range.1 hi
  have hk : (i + 1) % s.corners.length < s.corners.length := Nat.mod_lt _ (by omega)
  have := h ((i + 1) % s.corners.length) (List.mem_range.2 hk)
  rw [hside _ hk] at this
  have he : (if (i + 1) % s.corners.length = 0 then s.corners.length - 1 else (i + 1) % s.corners.length - 1) = i := by
   by_cases hl : i + 1 < s.corners.length
   ·rw [Nat.mod_eq_of_lt hl, if_neg (by omega)]; omega
   ·have : i + 1 = s.corners.length := by omega
    rw [this, Nat.mod_self, if_pos rfl]; omega
  rw [he] at this
  exact this
 ·intro h j hj
  have hj := List.mem_range.1 hj
  rw [hside j hj]
  refine h _ (List.mem_range.2 ?_)
  split <;> omega
theorem sand_eq (s : Sand) : sandE s = sandR s := by
 unfold sandE sandR
 cases h1 : inB (s.corners.length : Int) 3 8 with
 | false => rfl
 | true =>
  rw [inB_iff] at h1
  have e : (s.corners.any fun p => !withinB 10000 p) = !(s.corners.all fun p => withinB 10000 p) := by
   rw [List.any_eq_not_all_not]; simp
  rw [e, sides_round (by omega)]
  cases s.corners.all fun p => withinB 10000 p <;> simp
def Same (m : Nms) (ns : List ByteArray) : Prop := ∀ n, 0 ≤ (getM m n).getD 0 ∧ (0 < (getM m n).getD 0 ↔ n ∈ ns)
theorem Same.inc {m : Nms} {ns : List ByteArray} (h : Same m ns) (n : ByteArray) : Same (incS m n) (ns ++ [n]) := by
 intro u
 unfold incS
 rw [getM_put]
 split
 ·rename_i hu
  subst hu
  have := (h u).1
  simp; omega
 ·rename_i hu
  have := h u
  refine ⟨this.1, ?_⟩
  rw [this.2]
  simp [hu]
theorem fresh_eq {m : Nms} {ns : List ByteArray} (h : Same m ns) (n : ByteArray) : freshE m n = freshF n ns := by
 have hn := h n
 unfold freshE freshF
 have hany : (ns.any fun y => decide (y = n)) = true ↔ n ∈ ns := by simp
 by_cases hm : n ∈ ns
 ·have := hn.2.2 hm
  rw [if_pos (show (getM m n).getD 0 + 1 > 1 by omega), if_pos (hany.2 hm)]
 ·have : ¬ 0 < (getM m n).getD 0 := fun h => hm (hn.2.1 h)
  rw [if_neg (show ¬ (getM m n).getD 0 + 1 > 1 by omega), if_neg (fun h => hm (hany.1 h))]
theorem marks_eq : ∀ (l : List Mark) (m : Nms) (ns : List ByteArray) (i : Int), Same m ns → (∃ e, marksL m i l = .inl e ∧ marksR ns i l = .inl e) ∨ ∃ m' ns', marksL m i l = .inr m' ∧ marksR ns i l = .inr ns' ∧ Same m' ns'
 | [], m, ns, i, h => .inr ⟨m, ns, rfl, rfl, h⟩
 | x :: r, m, ns, i, h => by
  have he : markE m x = markER ns x := by unfold markE markER; rw [fresh_eq h]
  rw [marksL, marksR, he]
  by_cases h0 : markER ns x = 0
  ·rw [if_pos h0, if_pos h0]
   exact marks_eq r _ _ _ (h.inc x.name)
  ·rw [if_neg h0, if_neg h0]
   exact .inl ⟨_, rfl, rfl⟩
theorem sands_eq : ∀ (l : List Sand) (m : Nms) (ns : List ByteArray) (i : Int), Same m ns → sandsL m i l = sandsR ns i l
 | [], _, _, _, _ => rfl
 | x :: r, m, ns, i, h => by
  have he : sandE' m x = sandER ns x := by unfold sandE' sandER; rw [fresh_eq h, sand_eq]
  rw [sandsL, sandsR, he]
  by_cases h0 : sandER ns x = 0
  ·rw [if_pos h0, if_pos h0]
   exact sands_eq r _ _ _ (h.inc x.name)
  ·rw [if_neg h0, if_neg h0]
theorem check_eq (c : Cht) : checkX c = checkR c := by
 unfold checkX checkR
 have h0 : Same [] [] := fun n => by simp [getM]
 rcases marks_eq c.marks [] [] 0 h0 with ⟨e, h1, h2⟩ | ⟨m', ns', h1, h2, h3⟩
 ·rw [h1, h2]
 ·rw [h1, h2]
  simp only
  rw [sands_eq c.sands m' ns' 0 h3]
end Go.PX
namespace Go.PX
open Go.Proofs
end Go.PX
namespace Go.PX
open Go.Proofs
theorem ch21x (c : Cht) : FnV Tryz.prog 21 [c.d] (.tup [i64 (checkX c).1, i64 (checkX c).2.1, i64 (checkX c).2.2]) := FnV.cast (ch21 c) (by rw [check_eq])
end Go.PX
namespace Go.PX
open Go.Proofs
end Go.PX
namespace Go.PX
open Go.Proofs
end Go.PX
namespace Go.PX
open Go.Proofs
end Go.PX
namespace Go.PX
open Go.Proofs
def movesL (b : Box) : List Pt := (spanL b.x).flatMap fun x => (spanL b.y).map fun y => ⟨x, y⟩
end Go.PX
namespace Go.PX
open Go.Proofs
end Go.PX
namespace Go.PX
open Go.Proofs
end Go.PX
namespace Go.PX
open Go.Proofs Go.RowKit Go.ChangeShapes
end Go.PX
namespace Go.PX
open Go.Proofs
end Go.PX
namespace Go.PX
open Go.Proofs
def nxS (l : List Pt) (i : Nat) : Pt := atP l ((i + 1) % l.length)
def liesR (s : Sand) (m p : Pt) : Bool := (List.range s.corners.length).all fun i => decide (0 ≤ leftF ((nxS s.corners i).sub (atP s.corners i)) ((p.sub m).sub (atP s.corners i)))
theorem mem_sides {s : Sand} (h0 : 0 < s.corners.length) (z : Pt × Pt) : z ∈ sidesF s ↔ ∃ i, i < s.corners.length ∧ z = (atP s.corners i, sideF s.corners.length (atP s.corners) i) := by
 have hlast : lastP s.corners = atP s.corners (s.corners.length - 1) := rfl
 unfold sidesF
 rw [sidesL_map, hlast, List.mem_map]
 constructor
 ·rintro ⟨j, hj, rfl⟩
  have hj := List.mem_range.1 hj
  by_cases h : j = 0
  ·subst h
   refine ⟨s.corners.length - 1, by omega, ?_⟩
   simp only [if_true]
   unfold sideF
   rw [Nat.sub_add_cancel (by omega), Nat.mod_self]
  ·refine ⟨j - 1, by omega, ?_⟩
   simp only [if_neg h]
   unfold sideF
   rw [Nat.sub_add_cancel (by omega), Nat.mod_eq_of_lt hj]
 ·rintro ⟨i, hi, rfl⟩
  by_cases h : i + 1 = s.corners.length
  ·refine ⟨0, List.mem_range.2 h0, ?_⟩
   simp only [if_true]
   unfold sideF
   rw [h, Nat.mod_self, show s.corners.length - 1 = i by omega]
  ·refine ⟨i + 1, List.mem_range.2 (by omega), ?_⟩
   simp only [if_neg (Nat.succ_ne_zero i)]
   unfold sideF
   rw [Nat.mod_eq_of_lt (show i + 1 < s.corners.length by omega), Nat.add_sub_cancel]
theorem liesR_iff {s : Sand} {m p : Pt} : liesR s m p = true ↔ ∀ i, i < s.corners.length → 0 ≤ farF s.corners.length (atP s.corners) (p.sub m) i := by
 unfold liesR
 rw [List.all_eq_true]
 constructor
 ·intro h i hi
  exact of_decide_eq_true (h i (List.mem_range.2 hi))
 ·intro h i hi
  exact decide_eq_true (h i (List.mem_range.1 hi))
def inSp (l : Span) (y : Int) : Prop := l.lo ≤ y ∧ y ≤ l.hi
theorem cutF_iff (l : Span) (f n y : Int) : inSp (cutF l f n) y ↔ inSp l y ∧ n ≤ f * y := by
 unfold inSp cutF
 by_cases h1 : 0 < f
 ·rw [if_pos h1]
  have h2 : -((-n) / f) ≤ y ↔ n ≤ f * y := by
   have : -((-n) / f) ≤ y ↔ -y ≤ (-n) / f := by omega
   rw [this, Int.le_ediv_iff_mul_le h1, Int.neg_mul, Int.mul_comm y f]; omega
  rw [← h2]
  simp only
  omega
 ·rw [if_neg h1]
  by_cases h2 : f < 0
  ·rw [if_pos h2]
   have h3 : y ≤ (-n) / (-f) ↔ n ≤ f * y := by
    rw [Int.le_ediv_iff_mul_le (by omega), Int.mul_neg, Int.mul_comm y f]; omega
   rw [← h3]
   simp only
   omega
  ·rw [if_neg h2]
   have h3 : f = 0 := by omega
   subst h3
   rw [Int.zero_mul]
   split
   ·simp only; omega
   ·omega
theorem rows_foldl (x : Int) (p : Pt) (y : Int) : ∀ (l : List (Pt × Pt)) (a : Span), inSp (l.foldl (rowStep x p) a) y ↔ inSp a y ∧ ∀ z ∈ l, 0 ≤ leftF z.2 ((p.sub ⟨x, y⟩).sub z.1)
 | [], a => by simp
 | z :: l, a => by
  rw [List.foldl_cons, rows_foldl x p y l]
  have h1 : z.2.y * ((p.x - z.1.x) - x) - z.2.x * (p.y - z.1.y) ≤ (-z.2.x) * y ↔ 0 ≤ leftF z.2 ((p.sub ⟨x, y⟩).sub z.1) := by
   have : leftF z.2 ((p.sub ⟨x, y⟩).sub z.1) = (-z.2.x) * y - (z.2.y * ((p.x - z.1.x) - x) - z.2.x * (p.y - z.1.y)) := by
    unfold leftF Pt.sub; grind
   omega
  unfold rowStep
  rw [cutF_iff, h1]
  constructor
  ·rintro ⟨⟨h2, h3⟩, h4⟩
   refine ⟨h2, fun w hw => ?_⟩
   rcases List.mem_cons.1 hw with rfl | hw
   ·exact h3
   ·exact h4 w hw
  ·rintro ⟨h2, h3⟩
   exact ⟨⟨h2, h3 z (by simp)⟩, fun w hw => h3 w (by simp [hw])⟩
theorem rows_iff {s : Sand} (h : SandR s) (x : Int) (p : Pt) (y : Int) : inSp (rowsX s x p) y ↔ inSp s.moves.y y ∧ liesR s ⟨x, y⟩ p = true := by
 have h3 := h.len.1
 unfold rowsX
 rw [rows_foldl, liesR_iff]
 refine and_congr_right fun _ => ?_
 constructor
 ·intro h i hi
  exact h _ ((mem_sides (by omega) _).2 ⟨i, hi, rfl⟩)
 ·intro h z hz
  obtain ⟨k, hk, rfl⟩ := (mem_sides (by omega) z).1 hz
  exact h k hk
theorem mem_upX : ∀ (k : Nat) (v y : Int), y ∈ upX k v ↔ v ≤ y ∧ y < v + k
 | 0, v, y => by simp [upX]
 | k + 1, v, y => by
  rw [upX, List.mem_cons, mem_upX k]; omega
theorem mem_spanL (b : Span) (y : Int) : y ∈ spanL b ↔ b.lo ≤ y ∧ y ≤ b.hi := by
 unfold spanL
 rw [mem_upX]; omega
theorem mem_movesL (b : Box) (m : Pt) : m ∈ movesL b ↔ (b.x.lo ≤ m.x ∧ m.x ≤ b.x.hi) ∧ (b.y.lo ≤ m.y ∧ m.y ≤ b.y.hi) := by
 unfold movesL
 rw [List.mem_flatMap]
 constructor
 ·rintro ⟨x, hx, h⟩
  obtain ⟨y, hy, rfl⟩ := List.mem_map.1 h
  exact ⟨(mem_spanL _ _).1 hx, (mem_spanL _ _).1 hy⟩
 ·rintro ⟨hx, hy⟩
  exact ⟨m.x, (mem_spanL _ _).2 hx, List.mem_map.2 ⟨m.y, (mem_spanL _ _).2 hy, rfl⟩⟩
def sureS (s : Sand) (p : Pt) : Bool := (movesL s.moves).all fun m => liesR s m p
def someS (s : Sand) (p : Pt) : Bool := (movesL s.moves).any fun m => liesR s m p
theorem any_eq {s : Sand} (h : SandR s) (p : Pt) : anyRow s p = someS s p := by
 have hx := h.x
 rw [Bool.eq_iff_iff]
 unfold anyRow someS xsX
 rw [List.any_eq_true, List.any_eq_true]
 constructor
 ·rintro ⟨x, hx, h1⟩
  have h1 := of_decide_eq_true h1
  rw [mem_upX] at hx
  obtain ⟨hy, hl⟩ := (rows_iff h x p (rowsX s x p).lo).1 ⟨Int.le_refl _, h1⟩
  exact ⟨⟨x, (rowsX s x p).lo⟩, (mem_movesL _ _).2 ⟨by simp only; omega, hy⟩, hl⟩
 ·rintro ⟨m, hm, hl⟩
  obtain ⟨h1, h2⟩ := (mem_movesL _ _).1 hm
  refine ⟨m.x, (mem_upX _ _ _).2 (by omega), decide_eq_true ?_⟩
  have := (rows_iff h m.x p m.y).2 ⟨h2, hl⟩
  unfold inSp at this
  omega
theorem all_eq {s : Sand} (h : SandR s) (p : Pt) : allRow s p = sureS s p := by
 have hx := h.x
 have hy := h.y
 rw [Bool.eq_iff_iff]
 unfold allRow sureS xsX
 rw [List.all_eq_true, List.all_eq_true]
 constructor
 ·rintro h1 m hm
  obtain ⟨h2, h3⟩ := (mem_movesL _ _).1 hm
  have h4 := of_decide_eq_true (h1 m.x ((mem_upX _ _ _).2 (by omega)))
  exact ((rows_iff h m.x p m.y).1 (by rw [h4]; exact h3)).2
 ·rintro h1 x hx
  rw [mem_upX] at hx
  have h2 : ∀ y, inSp s.moves.y y → inSp (rowsX s x p) y := fun y hy => (rows_iff h x p y).2 ⟨hy, h1 _ ((mem_movesL _ _).2 ⟨by simp only; omega, hy⟩)⟩
  have h3 : ∀ y, inSp (rowsX s x p) y → inSp s.moves.y y := fun y hy => ((rows_iff h x p y).1 hy).1
  have a1 := h2 s.moves.y.lo ⟨Int.le_refl _, by omega⟩
  have a2 := h2 s.moves.y.hi ⟨by omega, Int.le_refl _⟩
  unfold inSp at a1 a2 h3
  have a3 := h3 (rowsX s x p).lo ⟨Int.le_refl _, by omega⟩
  have a4 := h3 (rowsX s x p).hi ⟨by omega, Int.le_refl _⟩
  have e1 : (rowsX s x p).lo = s.moves.y.lo := by omega
  have e2 : (rowsX s x p).hi = s.moves.y.hi := by omega
  refine decide_eq_true ?_
  generalize rowsX s x p = R at *
  cases R; cases hs : s.moves.y
  rw [hs] at e1 e2
  simp only at e1 e2
  rw [e1, e2]
end Go.PX
namespace Go.PX
open Go.Proofs
end Go.PX
namespace Go.PX
open Go.Proofs
end Go.PX
namespace Go.PX
open Go.Proofs
def sureR (p : Pt) : Int → List Sand → List Int
 | _, [] => []
 | i, s :: r => if sureS s p then i :: sureR p (i + 1) r else sureR p (i + 1) r
def someR (p : Pt) : Int → List Sand → List Int
 | _, [] => []
 | i, s :: r => if someS s p then i :: someR p (i + 1) r else someR p (i + 1) r
def onRA (c : Cht) (p : Pt) : List Int := if openX c p = 0 then sureR p 0 c.sands else []
def onRB (c : Cht) (p : Pt) : List Int := if openX c p = 0 then someR p 0 c.sands else []
theorem sure_eq (p : Pt) : ∀ (l : List Sand) (i : Int), (∀ s ∈ l, SandR s) → sureF p i l = sureR p i l
 | [], _, _ => rfl
 | s :: l, i, h => by rw [sureF, sureR, all_eq (h s (by simp)), sure_eq p l _ fun t ht => h t (by simp [ht])]
theorem some_eq (p : Pt) : ∀ (l : List Sand) (i : Int), (∀ s ∈ l, SandR s) → someF p i l = someR p i l
 | [], _, _ => rfl
 | s :: l, i, h => by rw [someF, someR, any_eq (h s (by simp)), some_eq p l _ fun t ht => h t (by simp [ht])]
theorem onA_eq (c : Cht) (p : Pt) : onA c p = onRA c p := by
 unfold onA onRA
 split
 ·rename_i h; exact sure_eq _ _ _ (openX_ok h).1.sand
 ·rfl
theorem onB_eq (c : Cht) (p : Pt) : onB c p = onRB c p := by
 unfold onB onRB
 split
 ·rename_i h; exact some_eq _ _ _ (openX_ok h).1.sand
 ·rfl
theorem mem_sureR (p : Pt) : ∀ (l : List Sand) (i n : Int), n ∈ sureR p i l ↔ ∃ k : Nat, n = i + k ∧ ∃ s, l[k]? = some s ∧ sureS s p = true
 | [], i, n => by simp [sureR]
 | s :: l, i, n => by
  have ih := mem_sureR p l (i + 1) n
  have hstep : (∃ k : Nat, n = i + k ∧ ∃ t, (s :: l)[k]? = some t ∧ sureS t p = true) ↔ (n = i ∧ sureS s p = true) ∨ ∃ k : Nat, n = i + 1 + k ∧ ∃ t, l[k]? = some t ∧ sureS t p = true := by
   constructor
   ·rintro ⟨k, hk, t, ht, h⟩
    cases k with
    | zero => simp at ht; subst ht; exact .inl ⟨by omega, h⟩
    | succ k => exact .inr ⟨k, by omega, t, by simpa using ht, h⟩
   ·rintro (⟨h1, h2⟩ | ⟨k, hk, t, ht, h⟩)
    ·exact ⟨0, by omega, s, by simp, h2⟩
    ·exact ⟨k + 1, by omega, t, by simpa using ht, h⟩
  rw [hstep, ← ih, sureR]
  split
  ·rename_i h; simp [h]
  ·rename_i h; simp [h]
theorem mem_someR (p : Pt) : ∀ (l : List Sand) (i n : Int), n ∈ someR p i l ↔ ∃ k : Nat, n = i + k ∧ ∃ s, l[k]? = some s ∧ someS s p = true
 | [], i, n => by simp [someR]
 | s :: l, i, n => by
  have ih := mem_someR p l (i + 1) n
  have hstep : (∃ k : Nat, n = i + k ∧ ∃ t, (s :: l)[k]? = some t ∧ someS t p = true) ↔ (n = i ∧ someS s p = true) ∨ ∃ k : Nat, n = i + 1 + k ∧ ∃ t, l[k]? = some t ∧ someS t p = true := by
   constructor
   ·rintro ⟨k, hk, t, ht, h⟩
    cases k with
    | zero => simp at ht; subst ht; exact .inl ⟨by omega, h⟩
    | succ k => exact .inr ⟨k, by omega, t, by simpa using ht, h⟩
   ·rintro (⟨h1, h2⟩ | ⟨k, hk, t, ht, h⟩)
    ·exact ⟨0, by omega, s, by simp, h2⟩
    ·exact ⟨k + 1, by omega, t, by simpa using ht, h⟩
  rw [hstep, ← ih, someR]
  split
  ·rename_i h; simp [h]
  ·rename_i h; simp [h]
end Go.PX
namespace Go.PX
open Go.Proofs
theorem mod_i {l q : Nat} (hl : 0 < l) : ((q : Int) + 1).tmod (l : Int) = (((q + 1) % l : Nat) : Int) := by
 rw [Int.tmod_eq_emod_of_nonneg (by omega)]
 first | exact (Int.natCast_mod _ _).symm | exact (Int.natCast_emod _ _).symm | norm_cast
def lieAt (s : Sand) (m p : Pt) (i : Nat) : Bool := decide (0 ≤ leftF ((nxS s.corners i).sub (atP s.corners i)) ((p.sub m).sub (atP s.corners i)))
set_option maxHeartbeats 1000000 in
theorem ch46 (s : Sand) (hR : SandR s) (m p : Pt) (hm : Pin 1000 m) (hp : Pin 10000 p) : FnV Tryz.prog 46 [s.d, m.d, p.d] (.bool (liesR s m p)) := by
 refine fnV_of mixed tysOk Tryz.func46 rfl (ft := ft46) 3 (by decide +kernel) (by rfl) fun {σ} Y st => ?_
 conv=>whnf
 have hlen := hR.len
 have hl : liesR s m p = (List.range s.corners.length).all (lieAt s m p) := rfl
 refine LoopA_i (T := tys) tysOk (by exact drawsB_spec mixed tysOk (by decide +kernel)) (List.range s.corners.length) (fun i (_ : Unit) => ⟨[(4, .ptr 4 0), (5, .ptr 5 0), (7, .d (ptsD s.corners)), (8, .d (i64 i))], [(4, .box (.dd m.cells)), (5, .box (.dd p.cells))], st⟩) (fun i r _ => liesR s m p = r.all (lieAt s m p)) () (Wk.sub ⟨(by first | rfl | (simp only [List.length_map]; rfl) | simp [PX.get]), (by first | rfl | (simp only [List.length_map]; rfl) | simp [PX.get]), (by first | rfl | (simp only [List.length_map]; rfl) | simp [PX.get]), (by first | rfl | (simp only [List.length_map]; rfl) | simp [PX.get]), trivial⟩ ⟨(by first | rfl | (simp only [List.length_map]; rfl) | simp [PX.get]), (by first | rfl | (simp only [List.length_map]; rfl) | simp [PX.get]), trivial⟩) hl ?_ ?_
 ·rintro i q r _ hqi hi hr hk
  have hq := range_get hqi
  subst hq
  have hil : q < s.corners.length := by simpa using hi
  rw [List.all_cons] at hk
  conv=>whnf
  refine brk_i (fun _ => ?_) (fun h => absurd h (by simp; omega))
  conv=>whnf
  refine arith_in (wrap_i64 (by (try dsimp only); omega)) ?_
  conv=>whnf
  have hk0 : ((q : Int) + 1).tmod (((s.corners.map Pt.cells).length : Nat) : Int) = (((q + 1) % s.corners.length : Nat) : Int) := by
   rw [List.length_map]; exact mod_i (by omega)
  rw [hk0]
  have hkl : (q + 1) % s.corners.length < s.corners.length := Nat.mod_lt _ (by omega)
  have hlie : lieAt s m p q = decide (0 ≤ leftF ((atP s.corners ((q + 1) % s.corners.length)).sub (atP s.corners q)) ((p.sub m).sub (atP s.corners q))) := rfl
  generalize hkk : (q + 1) % s.corners.length = k at hkl hlie
  refine brk_i (fun _ => ?_) (fun h => absurd h (by simp; rintro h; rw [h] at hlen; simp at hlen))
  conv=>whnf
  have hpk := hR.pin _ (atP_mem hkl)
  have hpq := hR.pin _ (atP_mem hil)
  refine elemK_nat (atP_get hkl) ?_
  conv=>whnf
  refine elemK_nat (atP_get hil) ?_
  conv=>whnf
  refine DrawCall_v (ds := [(atP s.corners k).d, (atP s.corners q).d]) (ch84 _ _ (hpk.mono (by omega)) (hpq.mono (by omega))) rfl rfl ?_
  conv=>whnf
  refine DrawCall_v (ds := [p.d, m.d]) (ch84 _ _ (hp.mono (by omega)) (hm.mono (by omega))) rfl rfl ?_
  conv=>whnf
  refine elemK_nat (atP_get hil) ?_
  conv=>whnf
  refine DrawCall_v (ds := [(p.sub m).d, (atP s.corners q).d]) (ch84 _ _ ((hp.sub hm).mono (by omega)) (hpq.mono (by omega))) rfl rfl ?_
  conv=>whnf
  refine DrawCall_v (ds := [((atP s.corners k).sub (atP s.corners q)).d, ((p.sub m).sub (atP s.corners q)).d]) (ch95 _ _ ((hpk.sub hpq).mono (by omega)) (((hp.sub hm).sub hpq).mono (by omega))) rfl rfl ?_
  conv=>whnf
  refine brk_i (fun h3 => ?_) (fun h3 => ?_)
  ·have h3 : leftF ((atP s.corners k).sub (atP s.corners q)) ((p.sub m).sub (atP s.corners q)) < 0 := of_decide_eq_true h3
   rw [decide_eq_false (by omega)] at hlie
   rw [hlie, Bool.false_and] at hk
   rw [hk]
   conv=>whnf
   exact RetA_view 0 rfl ⟨⟨rfl, rfl⟩, rfl⟩
  ·have h3 : ¬ leftF ((atP s.corners k).sub (atP s.corners q)) ((p.sub m).sub (atP s.corners q)) < 0 := of_decide_eq_false h3
   rw [decide_eq_true (by omega)] at hlie
   rw [hlie, Bool.true_and] at hk
   conv=>whnf
   refine arith_in (wrap_i64 (by (try dsimp only); omega)) ?_
   conv=>whnf
   exact ⟨(), hk, Wk.sub ⟨rfl, rfl, rfl, congrArg (fun z => some (V.d (i64 z))) (by omega), trivial⟩ ⟨rfl, rfl, trivial⟩⟩
 ·rintro _ hk
  conv=>whnf
  refine brk_i (fun h => absurd h (by simp)) (fun _ => ?_)
  conv=>whnf
  rw [hk]
  exact RetA_view 0 rfl ⟨⟨rfl, rfl⟩, rfl⟩
end Go.PX
namespace Go.PX
open Go.Proofs
theorem move_pin {s : Sand} (h : SandR s) {m : Pt} (hm : m ∈ movesL s.moves) : Pin 500 m := by
 have hx := h.x
 have hy := h.y
 have := (mem_movesL _ _).1 hm
 exact ⟨by omega, by omega⟩
end Go.PX
namespace Go.PX
open Go.Proofs
end Go.PX
namespace Go.PX
open Go.Proofs
end Go.PX
namespace Go.PX
open Go.Proofs
theorem sureF_len (p : Pt) : ∀ (l : List Sand) (i : Int), (sureF p i l).length ≤ l.length
 | [], _ => Nat.le_refl _
 | s :: l, i => by
  have := sureF_len p l (i + 1)
  rw [sureF]
  split <;> simp <;> omega
theorem someF_len (p : Pt) : ∀ (l : List Sand) (i : Int), (someF p i l).length ≤ l.length
 | [], _ => Nat.le_refl _
 | s :: l, i => by
  have := someF_len p l (i + 1)
  rw [someF]
  split <;> simp <;> omega
theorem onA_len (c : Cht) (p : Pt) : (onA c p).length < 1000000 := by
 unfold onA
 split
 ·rename_i h
  have := sureF_len p c.sands 0
  have := (openX_ok h).1.sands
  omega
 ·simp
theorem onB_len (c : Cht) (p : Pt) : (onB c p).length < 1000000 := by
 unfold onB
 split
 ·rename_i h
  have := someF_len p c.sands 0
  have := (openX_ok h).1.sands
  omega
 ·simp
end Go.PX
namespace Go.PX
open Go.Proofs
def valL (c : Cht) : Bool := decide ((checkX c).2.2 = 0)
theorem ch43 (c : Cht) : FnV Tryz.prog 43 [c.d] (.bool (valL c)) := by
 refine fnV_of mixed tysOk Tryz.func43 rfl (ft := ft43) 1 (by decide +kernel) (by rfl) fun {σ} Y st => ?_
 conv=>whnf
 refine CallA_v (ch21x c) rfl rfl ?_
 conv=>whnf
 exact RetA_view 1 rfl ⟨⟨rfl, rfl⟩, rfl⟩
def wordsU (l : List Int) : D := .vs (l.map fun b => [.int .u16 b])
def turnF (x : List Int) (n : Nat) : Int := if x = [] then 0 else x.getD (n % x.length) 0
def U16 (x : List Int) : Prop := ∀ b ∈ x, 0 ≤ b ∧ b ≤ 65535
theorem ch49 (x : List Int) (hx : U16 x) (n : Nat) : FnV Tryz.prog 49 [wordsU x, i64 n] (i64 (turnF x n)) := by
 refine fnV_of mixed tysOk Tryz.func49 rfl (ft := ft49) 2 (by decide +kernel) (by rfl) fun {σ} Y st => ?_
 conv=>whnf
 by_cases h : x = []
 ·subst h
  conv=>whnf
  exact RetA_view 0 rfl ⟨⟨rfl, rfl⟩, rfl⟩
 ·have hl : 0 < x.length := List.length_pos_iff.2 h
  refine brk_i (fun h1 => absurd h1 (by simp [h])) (fun _ => ?_)
  conv=>whnf
  refine chk_i (decide_eq_true (by rw [List.length_map]; omega)) ?_
  conv=>whnf
  rw [List.length_map]
  have hm := Nat.mod_lt n hl
  have he : ((n : Int).tmod (x.length : Int)) = ((n % x.length : Nat) : Int) := by
   rw [Int.tmod_eq_emod_of_nonneg (by omega)]; omega
  rw [he]
  have hg : x[n % x.length]? = some (x[n % x.length]) := List.getElem?_eq_getElem hm
  refine elemK_nat hg ?_
  conv=>whnf
  have hb := hx _ (List.mem_of_getElem? hg)
  have ht : turnF x n = x[n % x.length] := by
   unfold turnF
   rw [if_neg h, List.getD_eq_getElem?_getD, hg]; rfl
  rw [← ht] at hb ⊢
  refine arith_in (wrap_i64 (by (try dsimp only); omega)) ?_
  conv=>whnf
  exact RetA_view 0 rfl ⟨⟨rfl, rfl⟩, rfl⟩
theorem turn_bd {x : List Int} (hx : U16 x) (n : Nat) : 0 ≤ turnF x n ∧ turnF x n ≤ 65535 := by
 unfold turnF
 split
 ·omega
 ·rename_i h
  have hm := Nat.mod_lt n (List.length_pos_iff.2 h)
  rw [List.getD_eq_getElem?_getD, List.getElem?_eq_getElem hm]
  exact hx _ (List.getElem_mem _)
def amongF (s : Span) (n : Int) : Int := s.lo + n.tmod (s.hi - s.lo + 1)
theorem among_in {s : Span} {n : Int} (hs : s.lo ≤ s.hi) (hn : 0 ≤ n) : s.lo ≤ amongF s n ∧ amongF s n ≤ s.hi := by
 have h1 := Int.tmod_nonneg (s.hi - s.lo + 1) hn
 have h2 := Int.tmod_lt_of_pos n (b := s.hi - s.lo + 1) (by omega)
 unfold amongF
 omega
theorem ch57 (s : Span) (n : Int) (hs : s.lo ≤ s.hi) (hb : -1000000 ≤ s.lo ∧ s.hi ≤ 1000000) (hn : 0 ≤ n ∧ n ≤ 1000000) : FnV Tryz.prog 57 [.agg (Span.cells s), i64 n] (i64 (amongF s n)) := by
 refine fnV_of mixed tysOk Tryz.func57 rfl (ft := ft57) 2 (by decide +kernel) (by rfl) fun {σ} Y st => ?_
 conv=>whnf
 have h1 := among_in hs hn.1
 refine arith_in (wrap_i64 (by (try dsimp only); omega)) ?_
 conv=>whnf
 refine arith_in (wrap_i64 (by (try dsimp only); omega)) ?_
 conv=>whnf
 refine chk_i (decide_eq_true (by omega)) ?_
 conv=>whnf
 refine arith_in (wrap_i64 (by unfold amongF at h1; omega)) ?_
 conv=>whnf
 exact RetA_view 0 rfl ⟨⟨rfl, rfl⟩, rfl⟩
def movP (s : Sand) (l : List Int) (n : Nat) : Pt := ⟨amongF s.moves.x (turnF l (2 * n)), amongF s.moves.y (turnF l (2 * n + 1))⟩
theorem ch47 (s : Sand) (hR : SandR s) (l : List Int) (hl : U16 l) (n : Nat) (hn : n < 1000000) : FnV Tryz.prog 47 [s.d, wordsU l, i64 n] (movP s l n).d := by
 refine fnV_of mixed tysOk Tryz.func47 rfl (ft := ft47) 3 (by decide +kernel) (by rfl) fun {σ} Y st => ?_
 conv=>whnf
 have hx := hR.x
 have hy := hR.y
 have h1 := turn_bd hl (2 * n)
 have h2 := turn_bd hl (2 * n + 1)
 refine arith_to ((((2 * n : Nat) : Int))) (by (try dsimp only); omega) (wrap_i64 (by (try dsimp only); omega)) ?_
 conv=>whnf
 refine DrawCall_v (ds := [wordsU l, i64 ((2 * n : Nat) : Int)]) (ch49 l hl (2 * n)) rfl rfl ?_
 conv=>whnf
 refine DrawCall_v (ds := [.agg (Span.cells s.moves.x), i64 (turnF l (2 * n))]) (ch57 s.moves.x _ (by omega) (by omega) (by omega)) rfl rfl ?_
 conv=>whnf
 refine arith_to ((((2 * n : Nat) : Int))) (by (try dsimp only); omega) (wrap_i64 (by (try dsimp only); omega)) ?_
 conv=>whnf
 refine arith_to ((((2 * n + 1 : Nat) : Int))) (by (try dsimp only); omega) (wrap_i64 (by (try dsimp only); omega)) ?_
 conv=>whnf
 refine DrawCall_v (ds := [wordsU l, i64 ((2 * n + 1 : Nat) : Int)]) (ch49 l hl (2 * n + 1)) rfl rfl ?_
 conv=>whnf
 refine DrawCall_v (ds := [.agg (Span.cells s.moves.y), i64 (turnF l (2 * n + 1))]) (ch57 s.moves.y _ (by omega) (by omega) (by omega)) rfl rfl ?_
 conv=>whnf
 refine DrawCall_v (ch42 _ _) rfl rfl ?_
 conv=>whnf
 exact RetA_view 0 rfl ⟨⟨rfl, rfl⟩, rfl⟩
theorem movP_mem {s : Sand} (hR : SandR s) {l : List Int} (hl : U16 l) (n : Nat) : movP s l n ∈ movesL s.moves := by
 have hx := hR.x
 have hy := hR.y
 rw [mem_movesL]
 exact ⟨among_in (by omega) (turn_bd hl _).1, among_in (by omega) (turn_bd hl _).1⟩
theorem ch48 (l : List Int) (hl : l.length < 1000000) (n : Int) : FnV Tryz.prog 48 [intsD l, i64 n] (.bool (decide (n ∈ l))) := by
 refine fnV_of mixed tysOk Tryz.func48 rfl (ft := ft48) 2 (by decide +kernel) (by rfl) fun {σ} Y st => ?_
 conv=>whnf
 refine LoopA_i (T := tys) tysOk (by exact drawsB_spec mixed tysOk (by decide +kernel)) l (fun i (_ : Unit) => ⟨[(0, .d (intsD l)), (1, .d (i64 n)), (5, .d (i64 i))], [], st⟩) (fun i r _ => decide (n ∈ l) = decide (n ∈ r)) () (Wk.sub ⟨(by first | rfl | (simp only [List.length_map]; rfl) | simp [PX.get]), (by first | rfl | (simp only [List.length_map]; rfl) | simp [PX.get]), (by first | rfl | (simp only [List.length_map]; rfl) | simp [PX.get]), trivial⟩ trivial) rfl ?_ ?_
 ·rintro i x r _ hxi hi hir hk
  conv=>whnf
  refine brk_i (fun _ => ?_) (fun h => absurd hi (by simpa using h))
  conv=>whnf
  refine elemK_nat hxi ?_
  conv=>whnf
  refine brk_i (fun h1 => ?_) (fun h1 => ?_)
  ·have h1 : x = n := of_decide_eq_true h1
   have hk : decide (n ∈ l) = true := by rw [hk]; simp [h1]
   rw [hk]
   conv=>whnf
   exact RetA_view 0 rfl ⟨⟨rfl, rfl⟩, rfl⟩
  ·have h1 : x ≠ n := of_decide_eq_false h1
   have hk : decide (n ∈ l) = decide (n ∈ r) := by rw [hk]; simp [Ne.symm h1]
   conv=>whnf
   refine arith_in (wrap_i64 (by (try dsimp only); omega)) ?_
   conv=>whnf
   exact ⟨(), hk, (Wk.sub ⟨(by first | rfl | (simp only [List.length_map]; rfl) | simp [PX.get]), (by first | rfl | (simp only [List.length_map]; rfl) | simp [PX.get]), (by first | rfl | (simp only [List.length_map]; rfl) | simp [PX.get]), trivial⟩ trivial)⟩
 ·rintro _ hk
  have hk : decide (n ∈ l) = false := by rw [hk]; simp
  conv=>whnf
  refine brk_i (fun h => absurd h (by simp)) (fun _ => ?_)
  conv=>whnf
  rw [hk]
  exact RetA_view 0 rfl ⟨⟨rfl, rfl⟩, rfl⟩
theorem ch45 (a b : List Int) (ha : a.length < 1000000) (hb : b.length < 1000000) : FnV Tryz.prog 45 [intsD a, intsD b] (.bool (a.all fun x => decide (x ∈ b))) := by
 refine fnV_of mixed tysOk Tryz.func45 rfl (ft := ft45) 2 (by decide +kernel) (by rfl) fun {σ} Y st => ?_
 conv=>whnf
 refine LoopA_i (T := tys) tysOk (by exact drawsB_spec mixed tysOk (by decide +kernel)) a (fun i (_ : Unit) => ⟨[(0, .d (intsD a)), (1, .d (intsD b)), (5, .d (i64 i))], [], st⟩) (fun i r _ => (a.all fun x => decide (x ∈ b)) = r.all fun x => decide (x ∈ b)) () (Wk.sub ⟨(by first | rfl | (simp only [List.length_map]; rfl) | simp [PX.get]), (by first | rfl | (simp only [List.length_map]; rfl) | simp [PX.get]), (by first | rfl | (simp only [List.length_map]; rfl) | simp [PX.get]), trivial⟩ trivial) rfl ?_ ?_
 ·rintro i x r _ hxi hi hir hk
  rw [List.all_cons] at hk
  conv=>whnf
  refine brk_i (fun _ => ?_) (fun h => absurd hi (by simpa using h))
  conv=>whnf
  refine elemK_nat hxi ?_
  conv=>whnf
  refine CallA_v (ch48 b hb x) rfl rfl ?_
  conv=>whnf
  cases hm : decide (x ∈ b) with
  | false =>
   rw [hm, Bool.false_and] at hk
   rw [hk]
   conv=>whnf
   exact RetA_view 0 rfl ⟨⟨rfl, rfl⟩, rfl⟩
  | true =>
   rw [hm, Bool.true_and] at hk
   conv=>whnf
   refine arith_in (wrap_i64 (by (try dsimp only); omega)) ?_
   conv=>whnf
   exact ⟨(), hk, (Wk.sub ⟨(by first | rfl | (simp only [List.length_map]; rfl) | simp [PX.get]), (by first | rfl | (simp only [List.length_map]; rfl) | simp [PX.get]), (by first | rfl | (simp only [List.length_map]; rfl) | simp [PX.get]), trivial⟩ trivial)⟩
 ·rintro _ hk
  rw [List.all_nil] at hk
  conv=>whnf
  refine brk_i (fun h => absurd h (by simp)) (fun _ => ?_)
  conv=>whnf
  rw [hk]
  exact RetA_view 0 rfl ⟨⟨rfl, rfl⟩, rfl⟩
theorem within_true {a b : List Int} (ha : a.length < 1000000) (hb : b.length < 1000000) (h : ∀ x ∈ a, x ∈ b) : FnV Tryz.prog 45 [intsD a, intsD b] (.bool true) :=
 FnV.cast (ch45 a b ha hb) (by rw [show (a.all fun x => decide (x ∈ b)) = true from List.all_eq_true.2 fun x hx => decide_eq_true (h x hx)])
def clampF (n : Int) : Int := max (-10000) (min 10000 n)
def clampP (p : Pt) : Pt := ⟨clampF p.x, clampF p.y⟩
def awayP (l : List Int) : Pt := ⟨(turnF l 1).tmod 400 - 200, (turnF l 2).tmod 400 - 200⟩
def atS (l : List Sand) (i : Nat) : Sand := (l[i]?).getD ⟨.empty, [], ⟨⟨0, 0⟩, ⟨0, 0⟩⟩⟩
def sandI (c : Cht) (l : List Int) : Sand := atS c.sands ((turnF l 0).toNat % c.sands.length)
def nearP (c : Cht) (l : List Int) : Pt := if c.sands = [] then clampP (awayP l) else clampP ((awayP l).add (atP (sandI c l).corners ((turnF l 3).toNat % (sandI c l).corners.length)))
theorem clamp_pin (p : Pt) : Pin 10000 (clampP p) := by
 have h : ∀ n, -10000 ≤ clampF n ∧ clampF n ≤ 10000 := fun n => by unfold clampF; omega
 exact ⟨h _, h _⟩
theorem near_pin (c : Cht) (l : List Int) : Pin 10000 (nearP c l) := by
 unfold nearP
 split <;> exact clamp_pin _
theorem tmod_nat {a : Int} {n : Nat} (ha : 0 ≤ a) : a.tmod (n : Int) = ((a.toNat % n : Nat) : Int) := by
 rw [Int.tmod_eq_emod_of_nonneg ha]
 obtain ⟨k, rfl⟩ := Int.eq_ofNat_of_zero_le ha
 simp
set_option maxHeartbeats 1000000 in
theorem ch44 (c : Cht) (hR : ChtR c) (l : List Int) (hl : U16 l) : FnV Tryz.prog 44 [c.d, wordsU l] (nearP c l).d := by
 refine fnV_of mixed tysOk Tryz.func44 rfl (ft := ft44) 2 (by decide +kernel) (by rfl) fun {σ} Y st => ?_
 conv=>whnf
 have h0 := turn_bd hl 0
 have h1 := turn_bd hl 1
 have h2 := turn_bd hl 2
 have h3 := turn_bd hl 3
 have t1 := Int.tmod_nonneg 400 h1.1
 have t2 := Int.tmod_lt_of_pos (turnF l 1) (b := 400) (by omega)
 have t3 := Int.tmod_nonneg 400 h2.1
 have t4 := Int.tmod_lt_of_pos (turnF l 2) (b := 400) (by omega)
 have hsl := hR.sands
 refine CallA_v (ds := [wordsU l, i64 1]) (ch49 l hl 1) rfl rfl ?_
 conv=>whnf
 refine arith_in (wrap_i64 (by (try dsimp only); omega)) ?_
 conv=>whnf
 refine CallA_v (ds := [wordsU l, i64 2]) (ch49 l hl 2) rfl rfl ?_
 conv=>whnf
 refine arith_in (wrap_i64 (by (try dsimp only); omega)) ?_
 conv=>whnf
 refine CallA_v (ch42 _ _) rfl rfl ?_
 conv=>whnf
 refine brk_i (fun h => ?_) (fun h => ?_)
 ·have hn : 0 < c.sands.length := by have := of_decide_eq_true h; simp at this; omega
  have hk := Nat.mod_lt (turnF l 0).toNat hn
  have hne : ¬ c.sands = [] := by rintro h; rw [h] at hn; simp at hn
  have hp : nearP c l = clampP ((awayP l).add (atP (sandI c l).corners ((turnF l 3).toNat % (sandI c l).corners.length))) := by unfold nearP; rw [if_neg hne]
  rw [hp]
  have hg : c.sands[(turnF l 0).toNat % c.sands.length]? = some (sandI c l) := by unfold sandI atS; simp [hk]
  have hS := hR.sand _ (List.mem_of_getElem? hg)
  generalize sandI c l = s at hg hS ⊢
  have hlen := hS.len
  have hj := Nat.mod_lt (turnF l 3).toNat (show 0 < s.corners.length by omega)
  have hq := hS.pin _ (atP_mem hj)
  generalize hjj : (turnF l 3).toNat % s.corners.length = j at hj hq ⊢
  conv=>whnf
  refine DrawCall_v (ds := [wordsU l, i64 0]) (ch49 l hl 0) rfl rfl ?_
  conv=>whnf
  refine chk_i (decide_eq_true (by simp only [List.length_map]; omega)) ?_
  conv=>whnf
  rw [List.length_map, tmod_nat h0.1]
  refine elemK_nat hg ?_
  conv=>whnf
  refine DrawCall_v (ds := [wordsU l, i64 3]) (ch49 l hl 3) rfl rfl ?_
  conv=>whnf
  refine chk_i (decide_eq_true (by simp only [List.length_map]; omega)) ?_
  conv=>whnf
  rw [List.length_map, tmod_nat h3.1, hjj]
  refine elemK_nat (atP_get hj) ?_
  conv=>whnf
  have haw : Pin 1000 (awayP l) := ⟨by show -1000 ≤ (turnF l 1).tmod 400 - 200 ∧ (turnF l 1).tmod 400 - 200 ≤ 1000; omega, by show -1000 ≤ (turnF l 2).tmod 400 - 200 ∧ (turnF l 2).tmod 400 - 200 ≤ 1000; omega⟩
  refine DrawCall_v (ds := [(awayP l).d, (atP s.corners j).d]) (ch54 _ _ (haw.mono (by omega)) (hq.mono (by omega))) rfl rfl ?_
  conv=>whnf
  refine CallA_v (ch42 _ _) rfl rfl ?_
  conv=>whnf
  exact RetA_view 0 rfl ⟨⟨rfl, rfl⟩, rfl⟩
 ·have hne : c.sands = [] := by
   have := of_decide_eq_false h
   simp at this
   exact this
  have hp : nearP c l = clampP (awayP l) := by unfold nearP; rw [if_pos hne]
  rw [hp]
  conv=>whnf
  refine CallA_v (ch42 _ _) rfl rfl ?_
  conv=>whnf
  exact RetA_view 0 rfl ⟨⟨rfl, rfl⟩, rfl⟩
end Go.PX
namespace Go.PX
open Go.Proofs Go.RowKit Go.ChangeShapes
theorem c82 : Tryz.prog.cellsOf 82 = 1 := by kernel_rfl
theorem u16In {n : Int} (h : (Lit.int .u16 n).wf = true) : 0 ≤ n ∧ n ≤ 65535 := by
 simp only [Lit.wf, Bool.and_eq_true, decide_eq_true_eq] at h
 exact h
theorem Rd.intw {P : Program} {W : World} {t : TypeId} {k : IntKind} (ht : P.underlying t = some (.int k)) : Rd P W t fun ds => ∃ n, ds = [.int k n] ∧ (Lit.int k n).wf = true := by
 refine ⟨?_⟩
 intro H enc sp held fuel cs x h
 obtain ⟨n, rfl, _, hw⟩ := DataW.trod_int ht h
 exact ⟨[.int k n], ⟨n, rfl, hw⟩, _, [], rfl, rfl, rfl⟩
section
variable (W : World)
theorem rdU16 : Rd Tryz.prog W 82 fun ds => ∃ n, ds = [.int .u16 n] ∧ 0 ≤ n ∧ n ≤ 65535 := (Rd.intw Tryz.underlying82).mono fun ds ⟨n, h, w⟩ => ⟨n, h, u16In w⟩
theorem rdU16s : Rd Tryz.prog W 64 fun ds => ∃ l : List Int, ds = [wordsU l] ∧ U16 l :=
 (Rd.slice Tryz.underlying64 c82 (by omega) (rdU16 W)).mono fun ds h => by
  obtain ⟨es, rfl, he⟩ := h
  have : ∃ l : List Int, es = l.map (fun b => [D.int .u16 b]) ∧ U16 l := by
   induction es with
   | nil => exact ⟨[], rfl, fun b h => by cases h⟩
   | cons e r ih =>
    obtain ⟨l, h1, h2⟩ := ih fun x hx => he x (by simp [hx])
    obtain ⟨n, h3, h4⟩ := he e (by simp)
    refine ⟨n :: l, by rw [h3, h1]; rfl, fun b hb => ?_⟩
    rcases List.mem_cons.1 hb with rfl | hb
    ·exact h4
    ·exact h2 b hb
  obtain ⟨l, rfl, h2⟩ := this
  exact ⟨l, rfl, h2⟩
end
end Go.PX
namespace Go.PX
open Go.Proofs
theorem valid_open {c : Cht} (h : (checkX c).2.2 = 0) {p : Pt} (hp : Pin 10000 p) : openX c p = 0 := by
 unfold openX
 rw [if_pos h, if_pos (within_iff.2 hp)]
theorem open_bad {c : Cht} (h : ¬ (checkX c).2.2 = 0) (p : Pt) : ¬ openX c p = 0 := by
 unfold openX
 rw [if_neg h]; exact h
theorem lies_some {s : Sand} {m p : Pt} (hm : m ∈ movesL s.moves) (h : liesR s m p = true) : someS s p = true := List.any_eq_true.2 ⟨m, hm, h⟩
theorem sure_lies {s : Sand} {m p : Pt} (hm : m ∈ movesL s.moves) (h : sureS s p = true) : liesR s m p = true := List.all_eq_true.1 h m hm
theorem mem_onB {c : Cht} {p : Pt} (h : openX c p = 0) {i : Nat} {s : Sand} (hs : c.sands[i]? = some s) : (i : Int) ∈ onB c p ↔ someS s p = true := by
 rw [onB_eq]
 unfold onRB
 rw [if_pos h, mem_someR]
 constructor
 ·rintro ⟨k, hk, t, ht, h1⟩
  have : k = i := by omega
  subst this
  rw [hs] at ht; cases ht; exact h1
 ·exact fun h1 => ⟨i, by omega, s, hs, h1⟩
theorem mem_onA {c : Cht} {p : Pt} (h : openX c p = 0) {i : Nat} {s : Sand} (hs : c.sands[i]? = some s) : (i : Int) ∈ onA c p ↔ sureS s p = true := by
 rw [onA_eq]
 unfold onRA
 rw [if_pos h, mem_sureR]
 constructor
 ·rintro ⟨k, hk, t, ht, h1⟩
  have : k = i := by omega
  subst this
  rw [hs] at ht; cases ht; exact h1
 ·exact fun h1 => ⟨i, by omega, s, hs, h1⟩
theorem on_sub {c : Cht} {p : Pt} (h : openX c p = 0) : ∀ n ∈ onA c p, n ∈ onB c p := by
 intro n hn
 have hn' := hn
 rw [onA_eq] at hn
 unfold onRA at hn
 rw [if_pos h, mem_sureR] at hn
 obtain ⟨k, hk, s, hs, _⟩ := hn
 have hk : n = (k : Int) := by omega
 subst hk
 rw [mem_onB h hs]
 have hS := (openX_ok h).1.sand s (List.mem_of_getElem? hs)
 have h1 := (mem_onA h hs).1 hn'
 have hx := hS.x
 have hy := hS.y
 have hm : (⟨s.moves.x.lo, s.moves.y.lo⟩ : Pt) ∈ movesL s.moves := by rw [mem_movesL]; simp only; omega
 exact lies_some hm (sure_lies hm h1)
set_option maxHeartbeats 4000000 in
theorem ch8 (c : Cht) (x y : List Int) (hx : U16 x) (hy : U16 y) : FnV Tryz.prog 8 [c.d, wordsU x, wordsU y] (.bool true) := by
 refine fnV_of mixed tysOk Tryz.func8 rfl (ft := ft8) 3 (by decide +kernel) (by rfl) fun {σ} Y st => ?_
 conv=>whnf
 refine CallA_v (ch43 c) rfl rfl ?_
 conv=>whnf
 by_cases hv : (checkX c).2.2 = 0
 case neg =>
  refine brk_i (fun _ => ?_) (fun h => absurd h (by simp [valL, hv]))
  conv=>whnf
  refine DrawCall_v (ch42 _ _) rfl rfl ?_
  conv=>whnf
  refine DrawCall_v (ds := [c.d, Pt.d ⟨0, 0⟩]) (ch23 c ⟨0, 0⟩) rfl rfl ?_
  conv=>whnf
  have := open_bad hv ⟨0, 0⟩
  refine brk_i (fun _ => ?_) (fun h => absurd h (by simp [this]))
  conv=>whnf
  repeat' (first
   | (refine CallA_v (ch22) rfl rfl ?_; conv=>whnf)
   | (refine CallA_view (ch22) rfl 1 rfl ?_; conv=>whnf)
   | (refine DrawCall_v (ch22) rfl rfl ?_; conv=>whnf)
   | (refine DrawCall_view (ch22) rfl 1 rfl ?_; conv=>whnf)
   | (refine arith_in (wrap_i64 (by (try dsimp only); omega)) ?_; conv=>whnf)
   | (refine elemK_nat (by assumption) ?_; conv=>whnf)
   | (refine ownK_whole (by first | rfl | assumption | (simp [Els.len]; done) | (simp [Els.len]; omega)) ?_; conv=>whnf)
   | (refine chk_i (by first | (exact decide_eq_true (by (try simp only [List.length_map]); omega)) | (simp [Els.len, Els.cons, V.cells, Els.toV, injL]; done) | (simp [Els.len, Els.cons, V.cells, Els.toV, injL]; omega)) ?_; conv=>whnf)
   | fail)
  exact RetA_view 1 rfl ⟨⟨rfl, rfl⟩, rfl⟩
 have hR := checkX_ok hv
 refine brk_i (fun h => absurd h (by simp [valL, hv])) (fun _ => ?_)
 conv=>whnf
 refine CallA_v (ds := [c.d, wordsU y]) (ch44 c hR y hy) rfl rfl ?_
 have hp := near_pin c y
 generalize nearP c y = p at hp ⊢
 have ho := valid_open hv hp
 have hA : ∀ (i : Nat) (s : Sand), c.sands[i]? = some s → liesR s (movP s x i) p = false → decide ((i : Int) ∈ onA c p) = false := by
  intro i s hs h
  refine decide_eq_false fun h1 => ?_
  rw [mem_onA ho hs] at h1
  rw [sure_lies (movP_mem (hR.sand s (List.mem_of_getElem? hs)) hx i) h1] at h
  cases h
 have hB : ∀ (i : Nat) (s : Sand), c.sands[i]? = some s → liesR s (movP s x i) p = true → decide ((i : Int) ∈ onB c p) = true := by
  intro i s hs h
  refine decide_eq_true ?_
  rw [mem_onB ho hs]
  exact lies_some (movP_mem (hR.sand s (List.mem_of_getElem? hs)) hx i) h
 have hla := onA_len c p
 have hlb := onB_len c p
 have hw : FnV Tryz.prog 45 [intsD (onA c p), intsD (onB c p)] (.bool true) := within_true hla hlb (on_sub ho)
 have hch : FnV Tryz.prog 23 [c.d, p.d] (.tup [intsD (onA c p), intsD (onB c p), i64 0]) := FnV.cast (ch23 c p) (by rw [ho])
 generalize onA c p = A at hA hla hw hch
 generalize onB c p = B at hB hlb hw hch
 conv=>whnf
 refine CallA_v (ds := [c.d, p.d]) (fun {σ} => hch) rfl rfl ?_
 conv=>whnf
 refine CallA_v (ds := [intsD A, intsD B]) (fun {σ} => hw) rfl rfl ?_
 conv=>whnf
 have hsl := hR.sands
 refine LoopA_i (T := tys) tysOk (by exact drawsB_spec mixed tysOk (by decide +kernel)) c.sands (fun i (_ : Unit) => ⟨[(1, .d (wordsU x)), (3, .ptr 3 0), (10, .ptr 10 0), (11, .d (intsD A)), (12, .d (intsD B)), (14, .d (i64 i))], [(3, .box (.dd c.cells)), (10, .box (.dd p.cells))], st⟩) (fun i r _ => True) () (Wk.sub ⟨(by first | rfl | (simp only [List.length_map]; rfl) | simp [PX.get]), (by first | rfl | (simp only [List.length_map]; rfl) | simp [PX.get]), (by first | rfl | (simp only [List.length_map]; rfl) | simp [PX.get]), (by first | rfl | (simp only [List.length_map]; rfl) | simp [PX.get]), (by first | rfl | (simp only [List.length_map]; rfl) | simp [PX.get]), (by first | rfl | (simp only [List.length_map]; rfl) | simp [PX.get]), trivial⟩ ⟨(by first | rfl | (simp only [List.length_map]; rfl) | simp [PX.get]), (by first | rfl | (simp only [List.length_map]; rfl) | simp [PX.get]), trivial⟩) trivial ?_ ?_
 ·rintro i s r _ hsi hi hir _
  have hS := hR.sand s (List.mem_of_getElem? hsi)
  have hm := move_pin hS (movP_mem hS hx i)
  conv=>whnf
  refine brk_i (fun _ => ?_) (fun h => absurd hi (by simpa using h))
  conv=>whnf
  refine elemK_nat hsi ?_
  conv=>whnf
  refine elemK_nat hsi ?_
  conv=>whnf
  refine DrawCall_v (ds := [s.d, wordsU x, i64 i]) (ch47 s hS x hx i (by omega)) rfl rfl ?_
  conv=>whnf
  refine DrawCall_v (ds := [s.d, (movP s x i).d, p.d]) (ch46 s hS _ p (hm.mono (by omega)) hp) rfl rfl ?_
  cases hz : liesR s (movP s x i) p with
  | true =>
   conv=>whnf
   refine CallA_v (ds := [intsD B, i64 i]) (ch48 B hlb i) rfl rfl ?_
   rw [hB i s hsi hz]
   conv=>whnf
   refine arith_in (wrap_i64 (by (try dsimp only); omega)) ?_
   conv=>whnf
   exact ⟨(), trivial, (Wk.sub ⟨(by first | rfl | (simp only [List.length_map]; rfl) | simp [PX.get]), (by first | rfl | (simp only [List.length_map]; rfl) | simp [PX.get]), (by first | rfl | (simp only [List.length_map]; rfl) | simp [PX.get]), (by first | rfl | (simp only [List.length_map]; rfl) | simp [PX.get]), (by first | rfl | (simp only [List.length_map]; rfl) | simp [PX.get]), (by first | rfl | (simp only [List.length_map]; rfl) | simp [PX.get]), trivial⟩ ⟨(by first | rfl | (simp only [List.length_map]; rfl) | simp [PX.get]), (by first | rfl | (simp only [List.length_map]; rfl) | simp [PX.get]), trivial⟩)⟩
  | false =>
   conv=>whnf
   refine CallA_v (ds := [intsD A, i64 i]) (ch48 A hla i) rfl rfl ?_
   rw [hA i s hsi hz]
   conv=>whnf
   refine arith_in (wrap_i64 (by (try dsimp only); omega)) ?_
   conv=>whnf
   exact ⟨(), trivial, (Wk.sub ⟨(by first | rfl | (simp only [List.length_map]; rfl) | simp [PX.get]), (by first | rfl | (simp only [List.length_map]; rfl) | simp [PX.get]), (by first | rfl | (simp only [List.length_map]; rfl) | simp [PX.get]), (by first | rfl | (simp only [List.length_map]; rfl) | simp [PX.get]), (by first | rfl | (simp only [List.length_map]; rfl) | simp [PX.get]), (by first | rfl | (simp only [List.length_map]; rfl) | simp [PX.get]), trivial⟩ ⟨(by first | rfl | (simp only [List.length_map]; rfl) | simp [PX.get]), (by first | rfl | (simp only [List.length_map]; rfl) | simp [PX.get]), trivial⟩)⟩
 ·rintro _ _
  conv=>whnf
  refine brk_i (fun h => absurd h (by simp)) (fun _ => ?_)
  conv=>whnf
  repeat' (first
   | (refine CallA_v (ch22) rfl rfl ?_; conv=>whnf)
   | (refine CallA_view (ch22) rfl 1 rfl ?_; conv=>whnf)
   | (refine DrawCall_v (ch22) rfl rfl ?_; conv=>whnf)
   | (refine DrawCall_view (ch22) rfl 1 rfl ?_; conv=>whnf)
   | (refine arith_in (wrap_i64 (by (try dsimp only); omega)) ?_; conv=>whnf)
   | (refine elemK_nat (by assumption) ?_; conv=>whnf)
   | (refine ownK_whole (by first | rfl | assumption | (simp [Els.len]; done) | (simp [Els.len]; omega)) ?_; conv=>whnf)
   | (refine chk_i (by first | (exact decide_eq_true (by (try simp only [List.length_map]); omega)) | (simp [Els.len, Els.cons, V.cells, Els.toV, injL]; done) | (simp [Els.len, Els.cons, V.cells, Els.toV, injL]; omega)) ?_; conv=>whnf)
   | fail)
  exact RetA_view 1 rfl ⟨⟨rfl, rfl⟩, rfl⟩
end Go.PX
