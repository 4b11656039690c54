import Derived.Test.YtboaolnlajoanaaGreatDoorPxN
import Derived.Test.YtboaolnlajoanaaGreatDoorPxL
import Derived.Test.YtboaolnlajoanaaGreatDoorPxK
import Derived.Test.YtboaolnlajoanaaGreatDoorPxJ
import Derived.Lib.AtoiAllCases
import Derived.Laws.IdiomStrings
import Derived.Test.YtboaolnlajoanaaGreatDoorPxM
set_option linter.all false
set_option maxRecDepth 10000
namespace Go.PX
open Go.Proofs
structure FewC (c : Cht) : Prop where
 marks : c.marks.length < 1000000
 sands : c.sands.length < 1000000
 paints : ∀ m ∈ c.marks, m.paints.length < 1000000
 corners : ∀ s ∈ c.sands, s.corners.length < 1000000
set_option maxHeartbeats 4000000 in
theorem ch40 (a b : Cht) (ha : FewC a) : FnV Tryz.prog 40 [a.d, b.d] (.bool (decide (a = b))) := by
 refine fnV_of mixed tysOk Tryz.func40 rfl (ft := ft40) 2 (by decide +kernel) (by rfl) fun {σ} Y st => ?_
 conv=>whnf
 have hm1 := ha.marks
 have hs1 := ha.sands
 refine brk_i (fun h0 => ?_) (fun h0 => ?_)
 ·have h0 : a.marks.length ≠ b.marks.length := by
   intro e; simp [e] at h0
  conv=>whnf
  rw [decide_eq_false (by rintro rfl; exact h0 rfl)]
  exact RetA_view 0 rfl ⟨⟨rfl, rfl⟩, rfl⟩
 have hml : a.marks.length = b.marks.length := by
  have := h0
  simp at this; omega
 conv=>whnf
 refine brk_i (fun h0 => ?_) (fun h0 => ?_)
 ·have h0 : a.sands.length ≠ b.sands.length := by
   intro e; simp [e] at h0
  conv=>whnf
  rw [decide_eq_false (by rintro rfl; exact h0 rfl)]
  exact RetA_view 0 rfl ⟨⟨rfl, rfl⟩, rfl⟩
 have hsl : a.sands.length = b.sands.length := by
  have := h0
  simp at this; omega
 conv=>whnf
 refine LoopA_p (T := tys) tysOk (by exact drawsB_spec mixed tysOk (by decide +kernel)) (α := Nat) (fun i => ⟨[(2, .ptr 2 0), (3, .ptr 3 0), (5, .d (i64 i))], [(2, .box (.dd a.cells)), (3, .box (.dd b.cells))], st⟩) (fun i => i ≤ a.marks.length ∧ a.marks.take i = b.marks.take i) (fun i => a.marks.length - i) 0
  (Wk.sub ⟨(by first | rfl | (simp only [List.length_map]; rfl) | simp [PX.get]), (by first | rfl | (simp only [List.length_map]; rfl) | simp [PX.get]), (by first | rfl | (simp only [List.length_map]; rfl) | simp [PX.get]), trivial⟩ ⟨(by first | rfl | (simp only [List.length_map]; rfl) | simp [PX.get]), (by first | rfl | (simp only [List.length_map]; rfl) | simp [PX.get]), trivial⟩) (by simp) ?_
 rintro i ⟨hi, he⟩
 conv=>whnf
 refine brk_i (fun hc => ?_) (fun hc => ?_)
 ·have hc : i < a.marks.length := by simpa using hc
  have hc' : i < b.marks.length := by omega
  have hpl := ha.paints a.marks[i] (List.getElem_mem hc)
  have hne : a.marks[i] ≠ b.marks[i] → a ≠ b := by rintro h rfl; exact h rfl
  have hnx : a.marks[i] = b.marks[i] → a.marks.take (i + 1) = b.marks.take (i + 1) := fun h1 => by rw [List.take_succ_eq_append_getElem hc, List.take_succ_eq_append_getElem hc', he, h1]
  generalize hx : a.marks[i] = x at *
  generalize hy : b.marks[i] = y at *
  conv=>whnf
  refine elemK_i x.cells (by simp [hc, hx]) ?_
  conv=>whnf
  refine elemK_i y.cells (by simp [hc', hy]) ?_
  conv=>whnf
  refine brk_i (fun h1 => ?_) (fun h1 => ?_)
  ·have h1 : x ≠ y := by rintro rfl; simp at h1
   conv=>whnf
   rw [decide_eq_false (hne h1)]
   exact RetA_view 0 rfl ⟨⟨rfl, rfl⟩, rfl⟩
  have n1 : x.name = y.name := by simpa using h1
  conv=>whnf
  refine brk_i (fun h1 => ?_) (fun h1 => ?_)
  ·have h1 : x ≠ y := by rintro rfl; simp at h1
   conv=>whnf
   rw [decide_eq_false (hne h1)]
   exact RetA_view 0 rfl ⟨⟨rfl, rfl⟩, rfl⟩
  have n2 : x.at' = y.at' := by
   cases h4 : x.at' with
   | mk p q =>
    cases h5 : y.at' with
    | mk u v =>
     rw [h4, h5] at h1
     simpa using h1
  conv=>whnf
  refine brk_i (fun h1 => ?_) (fun h1 => ?_)
  ·have h1 : x ≠ y := by rintro rfl; simp at h1
   conv=>whnf
   rw [decide_eq_false (hne h1)]
   exact RetA_view 0 rfl ⟨⟨rfl, rfl⟩, rfl⟩
  have hxy : x.paints.length = y.paints.length := by
   have := h1
   simp at this; omega
  conv=>whnf
  refine LoopA_p (T := tys) tysOk (by exact drawsB_spec mixed tysOk (by decide +kernel)) (α := Nat) (fun k => ⟨[(2, .ptr 2 0), (3, .ptr 3 0), (5, .d (i64 i)), (6, .ptr 6 0), (7, .ptr 7 0), (8, .d (i64 k))], [(2, .box (.dd a.cells)), (3, .box (.dd b.cells)), (6, .box (.dd x.cells)), (7, .box (.dd y.cells))], st⟩) (fun k => k ≤ x.paints.length ∧ x.paints.take k = y.paints.take k) (fun k => x.paints.length - k) 0
   (Wk.sub ⟨(by first | rfl | (simp only [List.length_map]; rfl) | simp [PX.get]), (by first | rfl | (simp only [List.length_map]; rfl) | simp [PX.get]), (by first | rfl | (simp only [List.length_map]; rfl) | simp [PX.get]), (by first | rfl | (simp only [List.length_map]; rfl) | simp [PX.get]), (by first | rfl | (simp only [List.length_map]; rfl) | simp [PX.get]), (by first | rfl | (simp only [List.length_map]; rfl) | simp [PX.get]), trivial⟩ ⟨(by first | rfl | (simp only [List.length_map]; rfl) | simp [PX.get]), (by first | rfl | (simp only [List.length_map]; rfl) | simp [PX.get]), (by first | rfl | (simp only [List.length_map]; rfl) | simp [PX.get]), (by first | rfl | (simp only [List.length_map]; rfl) | simp [PX.get]), trivial⟩) (by simp) ?_
  rintro k ⟨hk, hke⟩
  conv=>whnf
  refine brk_i (fun hc2 => ?_) (fun hc2 => ?_)
  ·have hc2 : k < x.paints.length := by simpa using hc2
   have hc3 : k < y.paints.length := by omega
   conv=>whnf
   refine elemK_i x.paints[k].cells (by simp [hc2]) ?_
   conv=>whnf
   refine elemK_i y.paints[k].cells (by simp [hc3]) ?_
   conv=>whnf
   refine brk_i (fun h1 => ?_) (fun h1 => ?_)
   ·conv=>whnf
    have h1 : x.paints[k] ≠ y.paints[k] := by
     intro e
     rw [e] at h1
     simp at h1
    rw [decide_eq_false (hne (by rintro rfl; exact h1 rfl))]
    exact RetA_view 0 rfl ⟨⟨rfl, rfl⟩, rfl⟩
   ·have h1 : x.paints[k] = y.paints[k] := by
     cases hx : x.paints[k] with
     | mk p q =>
      cases hy : y.paints[k] with
      | mk u v =>
       rw [hx, hy] at h1
       simpa using h1
    refine arith_in (wrap_i64 (by (try dsimp only); omega)) ?_
    conv=>whnf
    exact ⟨k + 1, by omega, ⟨hc2, by rw [List.take_succ_eq_append_getElem hc2, List.take_succ_eq_append_getElem hc3, hke, h1]⟩, (Wk.sub ⟨(by first | rfl | (simp only [List.length_map]; rfl) | simp [PX.get]), (by first | rfl | (simp only [List.length_map]; rfl) | simp [PX.get]), (by first | rfl | (simp only [List.length_map]; rfl) | simp [PX.get]), (by first | rfl | (simp only [List.length_map]; rfl) | simp [PX.get]), (by first | rfl | (simp only [List.length_map]; rfl) | simp [PX.get]), (by first | rfl | (simp only [List.length_map]; rfl) | simp [PX.get]), trivial⟩ ⟨(by first | rfl | (simp only [List.length_map]; rfl) | simp [PX.get]), (by first | rfl | (simp only [List.length_map]; rfl) | simp [PX.get]), (by first | rfl | (simp only [List.length_map]; rfl) | simp [PX.get]), (by first | rfl | (simp only [List.length_map]; rfl) | simp [PX.get]), trivial⟩)⟩
  ·have hc2 : ¬ k < x.paints.length := by simpa using hc2
   rw [List.take_of_length_le (by omega), List.take_of_length_le (by omega)] at hke
   have hxe : x = y := by
    cases x; cases y
    simp only at n1 n2 hke
    rw [n1, n2, hke]
   conv=>whnf
   refine arith_in (wrap_i64 (by (try dsimp only); omega)) ?_
   conv=>whnf
   exact ⟨i + 1, by omega, ⟨hc, hnx hxe⟩, (Wk.sub ⟨(by first | rfl | (simp only [List.length_map]; rfl) | simp [PX.get]), (by first | rfl | (simp only [List.length_map]; rfl) | simp [PX.get]), (by first | rfl | (simp only [List.length_map]; rfl) | simp [PX.get]), trivial⟩ ⟨(by first | rfl | (simp only [List.length_map]; rfl) | simp [PX.get]), (by first | rfl | (simp only [List.length_map]; rfl) | simp [PX.get]), trivial⟩)⟩
 ·have hc : ¬ i < a.marks.length := by simpa using hc
  rw [List.take_of_length_le (by omega), List.take_of_length_le (by omega)] at he
  conv=>whnf
  refine LoopA_p (T := tys) tysOk (by exact drawsB_spec mixed tysOk (by decide +kernel)) (α := Nat) (fun i => ⟨[(2, .ptr 2 0), (3, .ptr 3 0), (9, .d (i64 i))], [(2, .box (.dd a.cells)), (3, .box (.dd b.cells))], st⟩) (fun i => i ≤ a.sands.length ∧ a.sands.take i = b.sands.take i) (fun i => a.sands.length - i) 0
   (Wk.sub ⟨(by first | rfl | (simp only [List.length_map]; rfl) | simp [PX.get]), (by first | rfl | (simp only [List.length_map]; rfl) | simp [PX.get]), (by first | rfl | (simp only [List.length_map]; rfl) | simp [PX.get]), trivial⟩ ⟨(by first | rfl | (simp only [List.length_map]; rfl) | simp [PX.get]), (by first | rfl | (simp only [List.length_map]; rfl) | simp [PX.get]), trivial⟩) (by simp) ?_
  rintro i ⟨hi, hes⟩
  conv=>whnf
  refine brk_i (fun hc => ?_) (fun hc => ?_)
  ·have hc : i < a.sands.length := by simpa using hc
   have hc' : i < b.sands.length := by omega
   have hpl := ha.corners a.sands[i] (List.getElem_mem hc)
   have hne : a.sands[i] ≠ b.sands[i] → a ≠ b := by rintro h rfl; exact h rfl
   have hnx : a.sands[i] = b.sands[i] → a.sands.take (i + 1) = b.sands.take (i + 1) := fun h1 => by rw [List.take_succ_eq_append_getElem hc, List.take_succ_eq_append_getElem hc', hes, h1]
   generalize hx : a.sands[i] = x at *
   generalize hy : b.sands[i] = y at *
   conv=>whnf
   refine elemK_i x.cells (by simp [hc, hx]) ?_
   conv=>whnf
   refine elemK_i y.cells (by simp [hc', hy]) ?_
   conv=>whnf
   refine brk_i (fun h1 => ?_) (fun h1 => ?_)
   ·have h1 : x ≠ y := by rintro rfl; simp at h1
    conv=>whnf
    rw [decide_eq_false (hne h1)]
    exact RetA_view 0 rfl ⟨⟨rfl, rfl⟩, rfl⟩
   have n1 : x.name = y.name := by simpa using h1
   conv=>whnf
   refine brk_i (fun h1 => ?_) (fun h1 => ?_)
   ·have h1 : x ≠ y := by rintro rfl; simp at h1
    conv=>whnf
    rw [decide_eq_false (hne h1)]
    exact RetA_view 0 rfl ⟨⟨rfl, rfl⟩, rfl⟩
   have n2 : x.moves = y.moves := by
    cases h4 : x.moves with
    | mk p q =>
     cases h5 : y.moves with
     | mk u v =>
      rw [h4, h5] at h1
      cases p; cases q; cases u; cases v
      simp at h1 ⊢
      exact h1
   conv=>whnf
   refine CallA_view (ch94 x.corners y.corners hpl) rfl 1 rfl ?_
   conv=>whnf
   refine brk_i (fun h1 => ?_) (fun h1 => ?_)
   ·have h1 : x ≠ y := by rintro rfl; simp at h1
    conv=>whnf
    rw [decide_eq_false (hne h1)]
    exact RetA_view 0 rfl ⟨⟨rfl, rfl⟩, rfl⟩
   have n3 : x.corners = y.corners := by simpa using h1
   have hxe : x = y := by
    cases x; cases y
    simp only at n1 n2 n3
    rw [n1, n2, n3]
   conv=>whnf
   refine arith_in (wrap_i64 (by (try dsimp only); omega)) ?_
   conv=>whnf
   exact ⟨i + 1, by omega, ⟨hc, hnx hxe⟩, (Wk.sub ⟨(by first | rfl | (simp only [List.length_map]; rfl) | simp [PX.get]), (by first | rfl | (simp only [List.length_map]; rfl) | simp [PX.get]), (by first | rfl | (simp only [List.length_map]; rfl) | simp [PX.get]), trivial⟩ ⟨(by first | rfl | (simp only [List.length_map]; rfl) | simp [PX.get]), (by first | rfl | (simp only [List.length_map]; rfl) | simp [PX.get]), trivial⟩)⟩
  ·have hc : ¬ i < a.sands.length := by simpa using hc
   rw [List.take_of_length_le (by omega), List.take_of_length_le (by omega)] at hes
   have hab : a = b := by
    cases a; cases b
    simp only at he hes
    rw [he, hes]
   conv=>whnf
   rw [decide_eq_true hab]
   exact RetA_view 0 rfl ⟨⟨rfl, rfl⟩, rfl⟩
end Go.PX
namespace Go.PX
open Go.Proofs
theorem e1 : vecV 31 = ⟨-195, 981⟩ ∧ vecE 31 = 0 := by decide +kernel
theorem e2 : onA exC ⟨150, 50⟩ = [0] ∧ onB exC ⟨150, 50⟩ = [0] ∧ openX exC ⟨150, 50⟩ = 0 := by decide +kernel
theorem e3 : onA exC ⟨205, 50⟩ = [] ∧ onB exC ⟨205, 50⟩ = [0] ∧ openX exC ⟨205, 50⟩ = 0 := by decide +kernel
theorem e4 : clearV exC ⟨0, 0⟩ 101 = (0, ⟨0, -5⟩) ∧ clearE exC ⟨0, 0⟩ 101 = 0 := by decide +kernel
theorem e5 : clearE exC ⟨0, 0⟩ 100 = 4 := by decide +kernel
theorem e6 : radV exC ⟨0, 0⟩ = 100 ∧ openX exC ⟨0, 0⟩ = 0 := by decide +kernel
theorem e7 : marC exC 50 0 = 2 ∧ marE exC 50 0 = 0 := by decide +kernel
theorem e8 : seenV exC 20 0 ⟨0, 0⟩ = 3 ∧ seenE exC 20 0 ⟨0, 0⟩ = 0 := by decide +kernel
theorem e9 : ptsL exC 20 1 ⟨⟨-2010, -1990⟩, ⟨0, 0⟩⟩ = [8, 24] ∧ ptsE exC 20 1 ⟨⟨-2010, -1990⟩, ⟨0, 0⟩⟩ = 0 := by decide +kernel
theorem e10 : writeX exC = exT ∧ (checkX exC).2.2 = 0 := by decide +kernel
theorem e11 : readX exT = (exC, 0) := by decide +kernel
theorem e12 : seenE exC 90 1 ⟨0, 0⟩ = 9 := by decide +kernel
end Go.PX
namespace Go.PX
open Go.Proofs
theorem a1 : FnV Tryz.prog 16 [i64 31] (.tup [Pt.d ⟨-195, 981⟩, i64 0]) := FnV.cast (ch16 31) (by rw [e1.1, e1.2])
theorem a2 : FnV Tryz.prog 23 [exC.d, Pt.d ⟨150, 50⟩] (.tup [intsD [0], intsD [0], i64 0]) := FnV.cast (ch23 exC ⟨150, 50⟩) (by rw [e2.1, e2.2.1, e2.2.2])
theorem a3 : FnV Tryz.prog 23 [exC.d, Pt.d ⟨205, 50⟩] (.tup [intsD [], intsD [0], i64 0]) := FnV.cast (ch23 exC ⟨205, 50⟩) (by rw [e3.1, e3.2.1, e3.2.2])
theorem a4 : FnV Tryz.prog 26 [exC.d, Pt.d ⟨0, 0⟩, i64 101] (.tup [i64 0, Pt.d ⟨0, -5⟩, i64 0]) := FnV.cast (ch26 exC ⟨0, 0⟩ 101) (by rw [e4.1, e4.2])
theorem a5 : FnV Tryz.prog 26 [exC.d, Pt.d ⟨0, 0⟩, i64 100] (.tup [i64 (clearV exC ⟨0, 0⟩ 100).1, (clearV exC ⟨0, 0⟩ 100).2.d, i64 4]) := FnV.cast (ch26 exC ⟨0, 0⟩ 100) (by rw [e5])
theorem a6 : FnV Tryz.prog 28 [exC.d, Pt.d ⟨0, 0⟩] (.tup [i64 100, i64 0]) := FnV.cast (ch28 exC ⟨0, 0⟩) (by rw [e6.1, e6.2])
theorem a7 : FnV Tryz.prog 30 [exC.d, i64 50, i64 0] (.tup [i64 2, i64 0]) := FnV.cast (ch30 exC 50 0) (by rw [e7.1, e7.2])
theorem a8 : FnV Tryz.prog 32 [exC.d, i64 20, i64 0, Pt.d ⟨0, 0⟩] (.tup [i64 3, i64 0]) := FnV.cast (ch32 exC 20 0 ⟨0, 0⟩) (by rw [e8.1, e8.2])
theorem a9 : FnV Tryz.prog 34 [exC.d, i64 20, i64 1, Box.d ⟨⟨-2010, -1990⟩, ⟨0, 0⟩⟩] (.tup [intsD [8, 24], i64 0]) := FnV.cast (ch34 exC 20 1 ⟨⟨-2010, -1990⟩, ⟨0, 0⟩⟩) (by rw [e9.1, e9.2])
theorem a10 : FnV Tryz.prog 36 [exC.d] (.tup [.str exT, i64 0]) := FnV.cast (ch36 exC) (by rw [e10.1, e10.2])
theorem a11 : FnV Tryz.prog 38 [.str exT] (.tup [exC.d, i64 0]) := FnV.cast (ch38 exT) (by rw [e11])
theorem a12 : FnV Tryz.prog 32 [exC.d, i64 90, i64 1, Pt.d ⟨0, 0⟩] (.tup [i64 (seenV exC 90 1 ⟨0, 0⟩), i64 9]) := FnV.cast (ch32 exC 90 1 ⟨0, 0⟩) (by rw [e12])
theorem few_ex : FewC exC := ⟨by decide, by decide, by decide, by decide⟩
theorem a13 : FnV Tryz.prog 40 [exC.d, exC.d] (.bool true) := FnV.cast (ch40 exC exC few_ex) (by simp)
theorem a14 : FnV Tryz.prog 18 [.str ⟨#[97, 45, 98]⟩] (.bool true) := FnV.cast (fn47 ⟨#[97, 45, 98]⟩) (congrArg D.bool (by decide +kernel))
theorem a15 : FnV Tryz.prog 18 [.str ⟨#[97, 45, 45, 98]⟩] (.bool false) := FnV.cast (fn47 ⟨#[97, 45, 45, 98]⟩) (congrArg D.bool (by decide +kernel))
theorem a16 (l : List Int) (hl : l.length < 1000000) : FnV Tryz.prog 25 [intsD l, intsD l] (.bool true) := FnV.cast (fn19 l l hl) (by simp)
set_option maxHeartbeats 8000000 in
theorem ch22 : FnV Tryz.prog 22 [] (.bool true) := by
 refine fnV_of mixed tysOk Tryz.func22 rfl (ft := ft22) 0 (by decide +kernel) (by rfl) fun {σ} Y st => ?_
 conv=>whnf
 repeat' (first
  | (refine CallA_v (a1) rfl rfl ?_; conv=>whnf)
  | (refine CallA_view (a1) rfl 1 rfl ?_; conv=>whnf)
  | (refine DrawCall_v (a1) rfl rfl ?_; conv=>whnf)
  | (refine DrawCall_view (a1) rfl 1 rfl ?_; conv=>whnf)
  | (refine CallA_v (ch41) rfl rfl ?_; conv=>whnf)
  | (refine CallA_view (ch41) rfl 1 rfl ?_; conv=>whnf)
  | (refine DrawCall_v (ch41) rfl rfl ?_; conv=>whnf)
  | (refine DrawCall_view (ch41) rfl 1 rfl ?_; conv=>whnf)
  | (refine CallA_v (ch42 _ _) rfl rfl ?_; conv=>whnf)
  | (refine CallA_view (ch42 _ _) rfl 1 rfl ?_; conv=>whnf)
  | (refine DrawCall_v (ch42 _ _) rfl rfl ?_; conv=>whnf)
  | (refine DrawCall_view (ch42 _ _) rfl 1 rfl ?_; conv=>whnf)
  | (refine CallA_v (ch52 _ _ _ _) rfl rfl ?_; conv=>whnf)
  | (refine CallA_view (ch52 _ _ _ _) rfl 1 rfl ?_; conv=>whnf)
  | (refine DrawCall_v (ch52 _ _ _ _) rfl rfl ?_; conv=>whnf)
  | (refine DrawCall_view (ch52 _ _ _ _) rfl 1 rfl ?_; conv=>whnf)
  | (refine CallA_v (a2) rfl rfl ?_; conv=>whnf)
  | (refine CallA_view (a2) rfl 1 rfl ?_; conv=>whnf)
  | (refine DrawCall_v (a2) rfl rfl ?_; conv=>whnf)
  | (refine DrawCall_view (a2) rfl 1 rfl ?_; conv=>whnf)
  | (refine CallA_v (a3) rfl rfl ?_; conv=>whnf)
  | (refine CallA_view (a3) rfl 1 rfl ?_; conv=>whnf)
  | (refine DrawCall_v (a3) rfl rfl ?_; conv=>whnf)
  | (refine DrawCall_view (a3) rfl 1 rfl ?_; conv=>whnf)
  | (refine CallA_v (a4) rfl rfl ?_; conv=>whnf)
  | (refine CallA_view (a4) rfl 1 rfl ?_; conv=>whnf)
  | (refine DrawCall_v (a4) rfl rfl ?_; conv=>whnf)
  | (refine DrawCall_view (a4) rfl 1 rfl ?_; conv=>whnf)
  | (refine CallA_v (a5) rfl rfl ?_; conv=>whnf)
  | (refine CallA_view (a5) rfl 1 rfl ?_; conv=>whnf)
  | (refine DrawCall_v (a5) rfl rfl ?_; conv=>whnf)
  | (refine DrawCall_view (a5) rfl 1 rfl ?_; conv=>whnf)
  | (refine CallA_v (a6) rfl rfl ?_; conv=>whnf)
  | (refine CallA_view (a6) rfl 1 rfl ?_; conv=>whnf)
  | (refine DrawCall_v (a6) rfl rfl ?_; conv=>whnf)
  | (refine DrawCall_view (a6) rfl 1 rfl ?_; conv=>whnf)
  | (refine CallA_v (a7) rfl rfl ?_; conv=>whnf)
  | (refine CallA_view (a7) rfl 1 rfl ?_; conv=>whnf)
  | (refine DrawCall_v (a7) rfl rfl ?_; conv=>whnf)
  | (refine DrawCall_view (a7) rfl 1 rfl ?_; conv=>whnf)
  | (refine CallA_v (a8) rfl rfl ?_; conv=>whnf)
  | (refine CallA_view (a8) rfl 1 rfl ?_; conv=>whnf)
  | (refine DrawCall_v (a8) rfl rfl ?_; conv=>whnf)
  | (refine DrawCall_view (a8) rfl 1 rfl ?_; conv=>whnf)
  | (refine CallA_v (a9) rfl rfl ?_; conv=>whnf)
  | (refine CallA_view (a9) rfl 1 rfl ?_; conv=>whnf)
  | (refine DrawCall_v (a9) rfl rfl ?_; conv=>whnf)
  | (refine DrawCall_view (a9) rfl 1 rfl ?_; conv=>whnf)
  | (refine CallA_v (a10) rfl rfl ?_; conv=>whnf)
  | (refine CallA_view (a10) rfl 1 rfl ?_; conv=>whnf)
  | (refine DrawCall_v (a10) rfl rfl ?_; conv=>whnf)
  | (refine DrawCall_view (a10) rfl 1 rfl ?_; conv=>whnf)
  | (refine CallA_v (ch69) rfl rfl ?_; conv=>whnf)
  | (refine CallA_view (ch69) rfl 1 rfl ?_; conv=>whnf)
  | (refine DrawCall_v (ch69) rfl rfl ?_; conv=>whnf)
  | (refine DrawCall_view (ch69) rfl 1 rfl ?_; conv=>whnf)
  | (refine CallA_v (a11) rfl rfl ?_; conv=>whnf)
  | (refine CallA_view (a11) rfl 1 rfl ?_; conv=>whnf)
  | (refine DrawCall_v (a11) rfl rfl ?_; conv=>whnf)
  | (refine DrawCall_view (a11) rfl 1 rfl ?_; conv=>whnf)
  | (refine CallA_v (a12) rfl rfl ?_; conv=>whnf)
  | (refine CallA_view (a12) rfl 1 rfl ?_; conv=>whnf)
  | (refine DrawCall_v (a12) rfl rfl ?_; conv=>whnf)
  | (refine DrawCall_view (a12) rfl 1 rfl ?_; conv=>whnf)
  | (refine CallA_v (a14) rfl rfl ?_; conv=>whnf)
  | (refine CallA_view (a14) rfl 1 rfl ?_; conv=>whnf)
  | (refine DrawCall_v (a14) rfl rfl ?_; conv=>whnf)
  | (refine DrawCall_view (a14) rfl 1 rfl ?_; conv=>whnf)
  | (refine CallA_v (a15) rfl rfl ?_; conv=>whnf)
  | (refine CallA_view (a15) rfl 1 rfl ?_; conv=>whnf)
  | (refine DrawCall_v (a15) rfl rfl ?_; conv=>whnf)
  | (refine DrawCall_view (a15) rfl 1 rfl ?_; conv=>whnf)
  | (refine CallA_v (a16 [0] (by decide)) rfl rfl ?_; conv=>whnf)
  | (refine CallA_view (a16 [0] (by decide)) rfl 1 rfl ?_; conv=>whnf)
  | (refine DrawCall_v (a16 [0] (by decide)) rfl rfl ?_; conv=>whnf)
  | (refine DrawCall_view (a16 [0] (by decide)) rfl 1 rfl ?_; conv=>whnf)
  | (refine CallA_v (a16 [8, 24] (by decide)) rfl rfl ?_; conv=>whnf)
  | (refine CallA_view (a16 [8, 24] (by decide)) rfl 1 rfl ?_; conv=>whnf)
  | (refine DrawCall_v (a16 [8, 24] (by decide)) rfl rfl ?_; conv=>whnf)
  | (refine DrawCall_view (a16 [8, 24] (by decide)) rfl 1 rfl ?_; conv=>whnf)
  | (refine CallA_v (a13) rfl rfl ?_; conv=>whnf)
  | (refine CallA_view (a13) rfl 1 rfl ?_; conv=>whnf)
  | (refine DrawCall_v (a13) rfl rfl ?_; conv=>whnf)
  | (refine DrawCall_view (a13) rfl 1 rfl ?_; conv=>whnf)
  | (refine arith_in (wrap_i64 (by (try dsimp only); omega)) ?_; conv=>whnf)
  | (refine elemK_nat (by assumption) ?_; conv=>whnf)
  | (refine ownK_whole (by first | rfl | assumption | (simp [Els.len]; done) | (simp [Els.len]; omega)) ?_; conv=>whnf)
  | (refine chk_i (by first | (exact decide_eq_true (by (try simp only [List.length_map]); omega)) | (simp [Els.len, Els.cons, V.cells, Els.toV, injL]; done) | (simp [Els.len, Els.cons, V.cells, Els.toV, injL]; omega)) ?_; conv=>whnf)
  | fail)
 exact RetA_view 0 rfl ⟨⟨rfl, rfl⟩, rfl⟩
end Go.PX
namespace Go.PX
open Go.Proofs
def atP (l : List Pt) (i : Nat) : Pt := (l[i]?).getD ⟨0, 0⟩
def cornerOk (l : List Pt) (i n : Nat) : Bool := decide (n = i) || decide (n = (i + 1) % l.length) || decide (0 < leftF ((atP l ((i + 1) % l.length)).sub (atP l i)) ((atP l n).sub (atP l i)))
def rowOk (l : List Pt) (i : Nat) : Bool := (List.range l.length).all (cornerOk l i)
def roundR (l : List Pt) : Bool := (List.range l.length).all (rowOk l)
theorem atP_get {l : List Pt} {i : Nat} (h : i < l.length) : l[i]? = some (atP l i) := by
 unfold atP
 simp [h]
theorem atP_mem {l : List Pt} {i : Nat} (h : i < l.length) : atP l i ∈ l := by
 unfold atP
 rw [List.getElem?_eq_getElem h]
 exact List.getElem_mem h
theorem range_get {n i q : Nat} (h : (List.range n)[i]? = some q) : q = i := by
 have hi : i < n := by simpa using (List.getElem?_eq_some_iff.1 h).1
 rw [List.getElem?_range hi] at h
 cases h; rfl
set_option maxHeartbeats 2000000 in
theorem ch106 (l : List Pt) (hl : l.length < 1000) (hp : ∀ p ∈ l, Pin 10000 p) : FnV Tryz.prog 106 [ptsD l] (.bool (roundR l)) := by
 refine fnV_of mixed tysOk Tryz.func106 rfl (ft := ft106) 1 (by decide +kernel) (by rfl) fun {σ} Y st => ?_
 conv=>whnf
 refine LoopA_i (T := tys) tysOk (by exact drawsB_spec mixed tysOk (by decide +kernel)) (List.range l.length) (fun i (_ : Unit) => ⟨[(0, .d (ptsD l)), (3, .d (i64 i))], [], st⟩) (fun i r _ => roundR l = r.all (rowOk l)) () (Wk.sub ⟨(by first | rfl | (simp only [List.length_map]; rfl) | simp [PX.get]), (by first | rfl | (simp only [List.length_map]; rfl) | simp [PX.get]), trivial⟩ trivial) rfl ?_ ?_
 ·rintro i q r _ hqi hi hr hk
  have hq := range_get hqi
  subst hq
  have hil : q < l.length := by simpa using hi
  rw [List.all_cons] at hk
  conv=>whnf
  refine brk_i (fun _ => ?_) (fun h => absurd h (by simp; omega))
  conv=>whnf
  refine arith_in (wrap_i64 (by (try dsimp only); omega)) ?_
  conv=>whnf
  have hk0 : ((q : Int) + 1).tmod (((l.map Pt.cells).length : Nat) : Int) = (((q + 1) % l.length : Nat) : Int) := by
   rw [List.length_map, Int.tmod_eq_emod_of_nonneg (by omega)]
   first | exact (Int.natCast_mod _ _).symm | exact (Int.natCast_emod _ _).symm | norm_cast
  rw [hk0]
  have hkl : (q + 1) % l.length < l.length := Nat.mod_lt _ (by omega)
  generalize hkk : (q + 1) % l.length = k at hkl
  refine brk_i (fun _ => ?_) (fun h => absurd h (by simp; rintro rfl; simp at hil))
  conv=>whnf
  refine LoopA_i (T := tys) tysOk (by exact drawsB_spec mixed tysOk (by decide +kernel)) (List.range l.length) (fun n (_ : Unit) => ⟨[(0, .d (ptsD l)), (3, .d (i64 q)), (4, .d (i64 k)), (5, .d (i64 n))], [], st⟩) (fun n r _ => rowOk l q = r.all (cornerOk l q)) () (Wk.sub ⟨(by first | rfl | (simp only [List.length_map]; rfl) | simp [PX.get]), (by first | rfl | (simp only [List.length_map]; rfl) | simp [PX.get]), (by first | rfl | (simp only [List.length_map]; rfl) | simp [PX.get]), (by first | rfl | (simp only [List.length_map]; rfl) | simp [PX.get]), trivial⟩ trivial) rfl ?_ ?_
  ·rintro n n' r2 _ hni hn hr2 hk2
   have hq2 := range_get hni
   subst hq2
   have hnl : n' < l.length := by simpa using hn
   rw [List.all_cons] at hk2
   have hpk := hp _ (atP_mem hkl)
   have hpq := hp _ (atP_mem hil)
   have hpn := hp _ (atP_mem hnl)
   conv=>whnf
   refine brk_i (fun _ => ?_) (fun h => absurd h (by simp; omega))
   conv=>whnf
   have hcor : cornerOk l q n' = (decide (n' = q) || decide (n' = k) || decide (0 < leftF ((atP l k).sub (atP l q)) ((atP l n').sub (atP l q)))) := by unfold cornerOk; rw [hkk]
   refine brk_i (fun h1 => ?_) (fun h1 => ?_)
   ·have h1 : n' ≠ q := by simp at h1; omega
    conv=>whnf
    refine brk_i (fun h2 => ?_) (fun h2 => ?_)
    ·have h2 : n' ≠ k := by simp at h2; omega
     rw [decide_eq_false h1, decide_eq_false h2, Bool.false_or, Bool.false_or] at hcor
     conv=>whnf
     refine elemK_nat (atP_get hkl) ?_
     conv=>whnf
     refine elemK_nat (atP_get hil) ?_
     conv=>whnf
     refine DrawCall_v (ds := [(atP l k).d, (atP l q).d]) (ch84 (atP l k) (atP l q) (hpk.mono (by omega)) (hpq.mono (by omega))) rfl rfl ?_
     conv=>whnf
     refine elemK_nat (atP_get hnl) ?_
     conv=>whnf
     refine elemK_nat (atP_get hil) ?_
     conv=>whnf
     refine DrawCall_v (ds := [(atP l n').d, (atP l q).d]) (ch84 (atP l n') (atP l q) (hpn.mono (by omega)) (hpq.mono (by omega))) rfl rfl ?_
     conv=>whnf
     refine DrawCall_v (ds := [((atP l k).sub (atP l q)).d, ((atP l n').sub (atP l q)).d]) (ch95 _ _ ((hpk.sub hpq).mono (by omega)) ((hpn.sub hpq).mono (by omega))) rfl rfl ?_
     conv=>whnf
     refine brk_i (fun h3 => ?_) (fun h3 => ?_)
     ·have h3 : leftF ((atP l k).sub (atP l q)) ((atP l n').sub (atP l q)) ≤ 0 := of_decide_eq_true h3
      rw [decide_eq_false (by omega)] at hcor
      rw [hcor, Bool.false_and] at hk2
      rw [hk2, Bool.false_and] at hk
      rw [hk]
      conv=>whnf
      exact RetA_view 0 rfl ⟨⟨rfl, rfl⟩, rfl⟩
     ·have h3 : ¬ leftF ((atP l k).sub (atP l q)) ((atP l n').sub (atP l q)) ≤ 0 := of_decide_eq_false h3
      rw [decide_eq_true (by omega)] at hcor
      rw [hcor, Bool.true_and] at hk2
      conv=>whnf
      refine arith_in (wrap_i64 (by (try dsimp only); omega)) ?_
      conv=>whnf
      exact ⟨(), hk2, Wk.sub ⟨rfl, rfl, rfl, congrArg (fun z => some (V.d (i64 z))) (by omega), trivial⟩ trivial⟩
    ·have h2 : n' = k := by simp at h2; omega
     rw [decide_eq_true h2, Bool.or_true, Bool.true_or] at hcor
     rw [hcor, Bool.true_and] at hk2
     conv=>whnf
     refine arith_in (wrap_i64 (by (try dsimp only); omega)) ?_
     conv=>whnf
     exact ⟨(), hk2, Wk.sub ⟨rfl, rfl, rfl, congrArg (fun z => some (V.d (i64 z))) (by omega), trivial⟩ trivial⟩
   ·have h1 : n' = q := by simp at h1; omega
    rw [decide_eq_true h1, Bool.true_or, Bool.true_or] at hcor
    rw [hcor, Bool.true_and] at hk2
    conv=>whnf
    refine arith_in (wrap_i64 (by (try dsimp only); omega)) ?_
    conv=>whnf
    exact ⟨(), hk2, Wk.sub ⟨rfl, rfl, rfl, congrArg (fun z => some (V.d (i64 z))) (by omega), trivial⟩ trivial⟩
  ·rintro _ hk2
   conv=>whnf
   refine brk_i (fun h => absurd h (by simp)) (fun _ => ?_)
   rw [hk2] at hk
   conv=>whnf
   refine arith_in (wrap_i64 (by (try dsimp only); omega)) ?_
   conv=>whnf
   exact ⟨(), hk, Wk.sub ⟨rfl, congrArg (fun z => some (V.d (i64 z))) (by omega), trivial⟩ trivial⟩
 ·rintro _ hk
  conv=>whnf
  refine brk_i (fun h => absurd h (by simp)) (fun _ => ?_)
  conv=>whnf
  rw [hk]
  exact RetA_view 0 rfl ⟨⟨rfl, rfl⟩, rfl⟩
end Go.PX
namespace Go.PX
open Go.Proofs
def sandR (s : Sand) : Int :=
 if inB s.corners.length 3 8 then (if (s.corners.all fun p => withinB 10000 p) then (if boxE 500 s.moves = 0 then (if roundR s.corners then 0 else 9) else boxE 500 s.moves) else 7) else 3
set_option maxHeartbeats 2000000 in
theorem ch68 (s : Sand) : FnV Tryz.prog 68 [s.d] (i64 (sandR s)) := by
 refine fnV_of mixed tysOk Tryz.func68 rfl (ft := ft68) 1 (by decide +kernel) (by rfl) fun {σ} Y st => ?_
 conv=>whnf
 refine CallA_view (fn118 s.corners.length 3 8) rfl 1 (by simp; rfl) ?_
 cases h1 : inB (s.corners.length : Int) 3 8 with
 | false =>
  have he : sandR s = 3 := by unfold sandR; rw [h1]; rfl
  rw [he]
  conv=>whnf
  exact RetA_view 0 rfl ⟨⟨rfl, rfl⟩, rfl⟩
 | true =>
  have h1b := h1
  rw [inB_iff] at h1
  have he : sandR s = if (s.corners.all fun p => withinB 10000 p) then (if boxE 500 s.moves = 0 then (if roundR s.corners then 0 else 9) else boxE 500 s.moves) else 7 := by unfold sandR; rw [h1b, if_pos rfl]
  conv=>whnf
  refine LoopA_i (T := tys) tysOk (by exact drawsB_spec mixed tysOk (by decide +kernel)) s.corners (fun i (_ : Unit) => ⟨[(1, .ptr 1 0), (3, .d (i64 i))], [(1, .box (.dd s.cells))], st⟩) (fun i r _ => (s.corners.all fun p => withinB 10000 p) = r.all fun p => withinB 10000 p) () (Wk.sub ⟨(by first | rfl | (simp only [List.length_map]; rfl) | simp [PX.get]), (by first | rfl | (simp only [List.length_map]; rfl) | simp [PX.get]), trivial⟩ ⟨(by first | rfl | (simp only [List.length_map]; rfl) | simp [PX.get]), trivial⟩) rfl ?_ ?_
  ·rintro i p r _ hpi hi hr hk
   rw [List.all_cons] at hk
   conv=>whnf
   refine brk_i (fun _ => ?_) (fun h => absurd hi (by simpa using h))
   conv=>whnf
   refine elemK_nat hpi ?_
   conv=>whnf
   refine CallA_view (ds := [p.d, i64 10000]) (ch55 p 10000 (by omega)) rfl 1 rfl ?_
   cases hw : withinB 10000 p with
   | false =>
    rw [hw, Bool.false_and] at hk
    rw [hk, if_neg (by simp)] at he
    rw [he]
    conv=>whnf
    exact RetA_view 0 rfl ⟨⟨rfl, rfl⟩, rfl⟩
   | true =>
    rw [hw, Bool.true_and] at hk
    conv=>whnf
    refine arith_in (wrap_i64 (by (try dsimp only); omega)) ?_
    conv=>whnf
    exact ⟨(), hk, (Wk.sub ⟨(by first | rfl | (simp only [List.length_map]; rfl) | simp [PX.get]), (by first | rfl | (simp only [List.length_map]; rfl) | simp [PX.get]), trivial⟩ ⟨(by first | rfl | (simp only [List.length_map]; rfl) | simp [PX.get]), trivial⟩)⟩
  ·rintro _ hk
   have hk : (s.corners.all fun p => withinB 10000 p) = true := hk
   rw [hk, if_pos rfl] at he
   have hp : ∀ p ∈ s.corners, Pin 10000 p := by
    intro p hp
    exact within_iff.1 (List.all_eq_true.1 hk p hp)
   conv=>whnf
   refine brk_i (fun h => absurd h (by simp)) (fun _ => ?_)
   conv=>whnf
   refine CallA_view (ds := [s.moves.d, i64 (-500), i64 500]) (ch56 s.moves 500 (by omega)) rfl 1 rfl ?_
   conv=>whnf
   refine brk_i (fun h3 => ?_) (fun h3 => ?_)
   ·have h3 : boxE 500 s.moves = 0 := by simpa using h3
    rw [if_pos h3] at he
    rw [h3]
    conv=>whnf
    refine CallA_view (ds := [ptsD s.corners]) (ch106 s.corners (by omega) hp) rfl 1 rfl ?_
    cases hr : roundR s.corners with
    | true =>
     rw [hr, if_pos rfl] at he
     rw [he]
     conv=>whnf
     exact RetA_view 0 rfl ⟨⟨rfl, rfl⟩, rfl⟩
    | false =>
     rw [hr, if_neg (by simp)] at he
     rw [he]
     conv=>whnf
     exact RetA_view 0 rfl ⟨⟨rfl, rfl⟩, rfl⟩
   ·have h3 : ¬ boxE 500 s.moves = 0 := by simpa using h3
    rw [if_neg h3] at he
    rw [he]
    conv=>whnf
    exact RetA_view 0 rfl ⟨⟨rfl, rfl⟩, rfl⟩
end Go.PX
namespace Go.PX
open Go.Proofs
def markER (ns : List ByteArray) (m : Mark) : Int :=
 if freshF m.name ns = 0 then (if farM m then 7 else paintE m.paints) else freshF m.name ns
def marksR : List ByteArray → Int → List Mark → (Int × Int) ⊕ List ByteArray
 | ns, _, [] => .inr ns
 | ns, i, m :: r => if markER ns m = 0 then marksR (ns ++ [m.name]) (i + 1) r else .inl (i, markER ns m)
def sandER (ns : List ByteArray) (s : Sand) : Int := if freshF s.name ns = 0 then sandR s else freshF s.name ns
def sandsR : List ByteArray → Int → List Sand → Int × Int × Int
 | _, _, [] => (0, 0, 0)
 | ns, i, s :: r => if sandER ns s = 0 then sandsR (ns ++ [s.name]) (i + 1) r else (2, i, sandER ns s)
def checkR (c : Cht) : Int × Int × Int :=
 if c.marks.length > 8 then (1, 0, 3) else match marksR [] 0 c.marks with
 | .inl (i, e) => (1, i, e)
 | .inr ns => if c.sands.length > 4 then (2, 0, 3) else sandsR ns 0 c.sands
def strsC (l : List ByteArray) : List (List D) := l.map fun s => [.str s]
set_option maxHeartbeats 4000000 in
theorem ch21 (c : Cht) : FnV Tryz.prog 21 [c.d] (.tup [i64 (checkR c).1, i64 (checkR c).2.1, i64 (checkR c).2.2]) := by
 refine fnV_of mixed tysOk Tryz.func21 rfl (ft := ft21) 1 (by decide +kernel) (by rfl) fun {σ} Y st => ?_
 conv=>whnf
 refine brk_i (fun h0 => ?_) (fun h0 => ?_)
 ·have h0 : c.marks.length > 8 := by have := of_decide_eq_true h0; simp at this; omega
  have he : checkR c = (1, 0, 3) := by unfold checkR; rw [if_pos h0]
  rw [he]
  conv=>whnf
  exact RetA_view 0 rfl ⟨⟨rfl, rfl⟩, rfl⟩
 have h0 : ¬ c.marks.length > 8 := by have := of_decide_eq_false h0; simp at this; omega
 have he : checkR c = match marksR [] 0 c.marks with
  | .inl (i, e) => (1, i, e)
  | .inr ns => if c.sands.length > 4 then (2, 0, 3) else sandsR ns 0 c.sands := by unfold checkR; rw [if_neg h0]
 conv=>whnf
 refine LoopA_i (T := tys) tysOk (by exact drawsB_spec mixed tysOk (by decide +kernel)) c.marks (fun i (ns : List ByteArray) => ⟨[(1, .ptr 1 0), (5, .sl 900001 1 0 ns.length), (6, .d (i64 i))], [(1, .box (.dd c.cells)), (900001, .arr 1 (.dd (strsC ns)))], st⟩) (fun i r ns => ns.length ≤ i ∧ marksR [] 0 c.marks = marksR ns i r) [] ((Wk.born 5 900001 1 rfl rfl rfl).trans (Wk.sub ⟨(by first | rfl | (simp only [List.length_map]; rfl) | simp [PX.get]), (by first | rfl | (simp only [List.length_map]; rfl) | simp [PX.get]), (by first | rfl | (simp only [List.length_map]; rfl) | simp [PX.get]), trivial⟩ ⟨(by first | rfl | (simp only [List.length_map]; rfl) | simp [PX.get]), (by first | rfl | (simp only [List.length_map]; rfl) | simp [PX.get]), trivial⟩)) ⟨by simp, rfl⟩ ?_ ?_
 ·rintro i m r ns hmi hi hr ⟨hns, hk⟩
  rw [marksR] at hk
  conv=>whnf
  refine brk_i (fun _ => ?_) (fun h => absurd hi (by simpa using h))
  conv=>whnf
  refine elemK_nat hmi ?_
  conv=>whnf
  refine CallA_view (fn91 m.name ns (by omega)) rfl 1 (viewL_cons rfl (viewL_cons (viewV_sl rfl (by simp [strsC])) rfl)) ?_
  conv=>whnf
  refine ownK_whole rfl ?_
  conv=>whnf
  refine ownK_whole (by simp [Els.len, strsC]) ?_
  conv=>whnf
  refine chk_i (decide_eq_true (by show ((strsC ns).length + 1) * 16 ≤ _; simp only [strsC, List.length_map]; omega)) ?_
  conv=>whnf
  by_cases hf : freshF m.name ns = 0
  case neg =>
   have hm : markER ns m = freshF m.name ns := by unfold markER; rw [if_neg hf]
   rw [hm, if_neg hf] at hk
   have he2 : checkR c = (1, (i : Int), freshF m.name ns) := by rw [he, hk]
   rw [he2, decide_eq_false hf]
   conv=>whnf
   refine brk_i (fun h => absurd h (by simp [hf])) (fun _ => ?_)
   conv=>whnf
   refine brk_i (fun _ => ?_) (fun h => absurd h (by simp [hf]))
   conv=>whnf
   exact RetA_view 0 rfl ⟨⟨rfl, rfl⟩, rfl⟩
  rw [decide_eq_true hf]
  conv=>whnf
  refine CallA_view (ds := [m.at'.d, i64 30000]) (ch55 m.at' 30000 (by omega)) rfl 1 rfl ?_
  cases hw : withinB 30000 m.at' with
  | false =>
   have hm : markER ns m = 7 := by unfold markER farM; rw [if_pos hf, hw]; rfl
   rw [hm, if_neg (by simp)] at hk
   have he2 : checkR c = (1, (i : Int), 7) := by rw [he, hk]
   rw [he2]
   conv=>whnf
   exact RetA_view 0 rfl ⟨⟨rfl, rfl⟩, rfl⟩
  | true =>
   have hm : markER ns m = paintE m.paints := by unfold markER farM; rw [if_pos hf, hw]; rfl
   rw [hm] at hk
   conv=>whnf
   refine brk_i (fun _ => ?_) (fun h => absurd h (by simp [hf]))
   conv=>whnf
   refine CallA_v (ch67 m.paints) rfl rfl ?_
   conv=>whnf
   refine brk_i (fun hp => ?_) (fun hp => ?_)
   ·have hp : ¬ paintE m.paints = 0 := by simpa using hp
    rw [if_neg hp] at hk
    have he2 : checkR c = (1, (i : Int), paintE m.paints) := by rw [he, hk]
    rw [he2]
    conv=>whnf
    exact RetA_view 0 rfl ⟨⟨rfl, rfl⟩, rfl⟩
   ·have hp : paintE m.paints = 0 := by simpa using hp
    rw [if_pos hp] at hk
    conv=>whnf
    refine arith_in (wrap_i64 (by (try dsimp only); omega)) ?_
    conv=>whnf
    exact ⟨ns ++ [m.name], ⟨by simp; omega, hk⟩, (Wk.move 35 900001 rfl rfl).trans (Wk.sub ⟨rfl, congrArg (fun z : Nat => some (V.sl 900001 1 0 z)) (by simp [Els.len, strsC]), congrArg (fun z => some (V.d (i64 z))) (by omega), trivial⟩ ⟨rfl, congrArg (fun z => some (Obj.arr 1 (.dd z))) (by simp [strsC]), trivial⟩)⟩
 ·rintro ns ⟨hns, hk⟩
  have he2 : checkR c = if c.sands.length > 4 then (2, 0, 3) else sandsR ns 0 c.sands := by rw [he, hk, marksR]
  conv=>whnf
  refine brk_i (fun h => absurd h (by simp)) (fun _ => ?_)
  conv=>whnf
  refine brk_i (fun h1 => ?_) (fun h1 => ?_)
  ·have h1 : c.sands.length > 4 := by have := of_decide_eq_true h1; simp at this; omega
   rw [if_pos h1] at he2
   rw [he2]
   conv=>whnf
   exact RetA_view 0 rfl ⟨⟨rfl, rfl⟩, rfl⟩
  have h1 : ¬ c.sands.length > 4 := by have := of_decide_eq_false h1; simp at this; omega
  rw [if_neg h1] at he2
  conv=>whnf
  refine LoopA_i (T := tys) tysOk (by exact drawsB_spec mixed tysOk (by decide +kernel)) c.sands (fun i (ns : List ByteArray) => ⟨[(1, .ptr 1 0), (5, .sl 900001 1 0 ns.length), (9, .d (i64 i))], [(1, .box (.dd c.cells)), (900001, .arr 1 (.dd (strsC ns)))], st⟩) (fun i r ns => ns.length ≤ 8 + i ∧ checkR c = sandsR ns i r) ns (Wk.sub ⟨(by first | rfl | (simp only [List.length_map]; rfl) | simp [PX.get]), (by first | rfl | (simp only [List.length_map]; rfl) | simp [PX.get]), (by first | rfl | (simp only [List.length_map]; rfl) | simp [PX.get]), trivial⟩ ⟨(by first | rfl | (simp only [List.length_map]; rfl) | simp [PX.get]), (by first | rfl | (simp only [List.length_map]; rfl) | simp [PX.get]), trivial⟩) ⟨by omega, he2⟩ ?_ ?_
  ·rintro i m r ns hmi hi hr ⟨hns, hk⟩
   rw [sandsR] at hk
   conv=>whnf
   refine brk_i (fun _ => ?_) (fun h => absurd hi (by simpa using h))
   conv=>whnf
   refine elemK_nat hmi ?_
   conv=>whnf
   refine CallA_view (fn91 m.name ns (by omega)) rfl 1 (viewL_cons rfl (viewL_cons (viewV_sl rfl (by simp [strsC])) rfl)) ?_
   conv=>whnf
   refine elemK_nat hmi ?_
   conv=>whnf
   refine ownK_whole rfl ?_
   conv=>whnf
   refine ownK_whole (by simp [Els.len, strsC]) ?_
   conv=>whnf
   refine chk_i (decide_eq_true (by show ((strsC ns).length + 1) * 16 ≤ _; simp only [strsC, List.length_map]; omega)) ?_
   conv=>whnf
   by_cases hf : freshF m.name ns = 0
   case neg =>
    have hm : sandER ns m = freshF m.name ns := by unfold sandER; rw [if_neg hf]
    rw [hm, if_neg hf] at hk
    rw [hk, decide_eq_false hf]
    conv=>whnf
    refine brk_i (fun _ => ?_) (fun h => absurd h (by simp [hf]))
    conv=>whnf
    exact RetA_view 0 rfl ⟨⟨rfl, rfl⟩, rfl⟩
   have hm : sandER ns m = sandR m := by unfold sandER; rw [if_pos hf]
   rw [hm] at hk
   rw [decide_eq_true hf]
   conv=>whnf
   refine elemK_nat hmi ?_
   conv=>whnf
   refine CallA_view (ds := [m.d]) (ch68 m) rfl 1 rfl ?_
   conv=>whnf
   refine brk_i (fun hp => ?_) (fun hp => ?_)
   ·have hp : ¬ sandR m = 0 := by simpa using hp
    rw [if_neg hp] at hk
    rw [hk]
    conv=>whnf
    exact RetA_view 0 rfl ⟨⟨rfl, rfl⟩, rfl⟩
   ·have hp : sandR m = 0 := by simpa using hp
    rw [if_pos hp] at hk
    conv=>whnf
    refine arith_in (wrap_i64 (by (try dsimp only); omega)) ?_
    conv=>whnf
    exact ⟨ns ++ [m.name], ⟨by simp; omega, hk⟩, (Wk.move 80 900001 rfl rfl).trans (Wk.sub ⟨rfl, congrArg (fun z : Nat => some (V.sl 900001 1 0 z)) (by simp [Els.len, strsC]), congrArg (fun z => some (V.d (i64 z))) (by omega), trivial⟩ ⟨rfl, congrArg (fun z => some (Obj.arr 1 (.dd z))) (by simp [strsC]), trivial⟩)⟩
  ·rintro ns ⟨hns, hk⟩
   rw [sandsR] at hk
   rw [hk]
   conv=>whnf
   refine brk_i (fun h => absurd h (by simp)) (fun _ => ?_)
   conv=>whnf
   exact RetA_view 0 rfl ⟨⟨rfl, rfl⟩, rfl⟩
end Go.PX
namespace Go.PX
open Go.Proofs
theorem rightL_count (x : Pt × Pt) : ∀ (l : List Pt) (n : Int), rightL x l n = n + (l.countP fun p => decide (leftF x.2 (p.sub x.1) ≤ 0) : Nat)
 | [], n => by simp [rightL]
 | p :: r, n => by
  rw [rightL, rightL_count x r, List.countP_cons]
  by_cases h : leftF x.2 (p.sub x.1) ≤ 0
  ·simp [h]; omega
  ·simp [h]
theorem map_atP (l : List Pt) : (List.range l.length).map (atP l) = l := by
 apply List.ext_getElem
 ·simp
 ·intro i h1 h2
  simp [atP, h2]
theorem count_two {l : List Nat} (hn : l.Nodup) {i k : Nat} (hi : i ∈ l) (hk : k ∈ l) (hik : i ≠ k) (g : Nat → Bool) (gi : g i = true) (gk : g k = true) : l.countP g = 2 ↔ ∀ n ∈ l, n ≠ i → n ≠ k → g n = false := by
 have hk1 : k ∈ l.erase i := (List.mem_erase_of_ne (Ne.symm hik)).2 hk
 have e1 : l.countP g = (l.erase i).countP g + 1 := by
  rw [(List.perm_cons_erase hi).countP_eq g, List.countP_cons_of_pos gi]
 have e2 : (l.erase i).countP g = ((l.erase i).erase k).countP g + 1 := by
  rw [(List.perm_cons_erase hk1).countP_eq g, List.countP_cons_of_pos gk]
 have e3 : l.countP g = 2 ↔ ((l.erase i).erase k).countP g = 0 := by omega
 rw [e3, List.countP_eq_zero]
 have hn1 : (l.erase i).Nodup := hn.erase i
 constructor
 ·intro h n hn' h1 h2
  have := h n (hn1.mem_erase_iff.2 ⟨h2, hn.mem_erase_iff.2 ⟨h1, hn'⟩⟩)
  simpa using this
 ·intro h n hn'
  obtain ⟨h2, h3⟩ := hn1.mem_erase_iff.1 hn'
  obtain ⟨h1, h4⟩ := hn.mem_erase_iff.1 h3
  simp [h n h4 h1 h2]
theorem side_row {s : Sand} (h3 : 3 ≤ s.corners.length) {i k : Nat} (hi : i < s.corners.length) (hk : k < s.corners.length) (hik : i ≠ k) (hki : (i + 1) % s.corners.length = k) :
  sideOk s (atP s.corners i, (atP s.corners k).sub (atP s.corners i)) = rowOk s.corners i := by
 have hz : ∀ b : Pt, leftF b ⟨0, 0⟩ = 0 := fun b => by simp [leftF]
 have hb : ∀ b : Pt, leftF b b = 0 := fun b => by simp [leftF, Int.mul_comm]
 have hs : ∀ b : Pt, b.sub b = ⟨0, 0⟩ := fun b => by simp [Pt.sub]
 generalize hl : s.corners = l at *
 generalize hbb : (atP l k).sub (atP l i) = b
 let g : Nat → Bool := fun n => decide (leftF b ((atP l n).sub (atP l i)) ≤ 0)
 have gi : g i = true := by show decide _ = true; rw [hs, hz]; rfl
 have gk : g k = true := by show decide _ = true; rw [hbb, hb]; rfl
 have hcnt : rightL (atP l i, b) l 0 = 2 ↔ ∀ n < l.length, n ≠ i → n ≠ k → g n = false := by
  have h1 := rightL_count (atP l i, b) l 0
  have h2 : (l.countP fun p => decide (leftF b (p.sub (atP l i)) ≤ 0)) = (List.range l.length).countP g := by
   have h5 := List.countP_map (p := fun p => decide (leftF b (p.sub (atP l i)) ≤ 0)) (f := atP l) (l := List.range l.length)
   rw [map_atP] at h5
   exact h5
  have h3 := count_two (List.nodup_range (n := l.length)) (List.mem_range.2 hi) (List.mem_range.2 hk) hik g gi gk
  rw [h1, h2]
  constructor
  ·intro h n hn
   exact h3.1 (by omega) n (List.mem_range.2 hn)
  ·intro h
   have := h3.2 fun n hn => h n (List.mem_range.1 hn)
   omega
 obtain ⟨t, ht, hti, htk⟩ : ∃ t < l.length, t ≠ i ∧ t ≠ k := by
  by_cases h0 : 0 ≠ i ∧ 0 ≠ k
  ·exact ⟨0, by omega, h0⟩
  by_cases h1 : 1 ≠ i ∧ 1 ≠ k
  ·exact ⟨1, by omega, h1⟩
  ·exact ⟨2, by omega, by omega, by omega⟩
 have hrow : rowOk l i = true ↔ ∀ n < l.length, n ≠ i → n ≠ k → 0 < leftF b ((atP l n).sub (atP l i)) := by
  unfold rowOk
  rw [List.all_eq_true]
  constructor
  ·intro h n hn h1 h2
   have := h n (List.mem_range.2 hn)
   unfold cornerOk at this
   rw [hki, hbb] at this
   simpa [h1, h2] using this
  ·intro h n hn
   have hn := List.mem_range.1 hn
   unfold cornerOk
   rw [hki, hbb]
   by_cases h1 : n = i
   ·simp [h1]
   by_cases h2 : n = k
   ·simp [h2]
   ·simp [h n hn h1 h2]
 rw [Bool.eq_iff_iff, hrow]
 unfold sideOk
 simp only [hl, Bool.and_eq_true, decide_eq_true_eq, Bool.not_eq_true', Bool.and_eq_false_imp, decide_eq_false_iff_not]
 rw [hcnt]
 constructor
 ·rintro ⟨h1, _⟩ n hn hni hnk
  have := h1 n hn hni hnk
  have : ¬ leftF b ((atP l n).sub (atP l i)) ≤ 0 := by simpa [g] using this
  omega
 ·intro h
  refine ⟨fun n hn h1 h2 => ?_, fun hx hy => ?_⟩
  ·have := h n hn h1 h2
   show decide _ = false
   exact decide_eq_false (by omega)
  ·have := h t ht hti htk
   unfold leftF at this
   rw [hx, hy] at this
   simp at this
theorem sidesL_map : ∀ (l : List Pt) (a : Pt), sidesL a l = (List.range l.length).map fun j => ((if j = 0 then a else atP l (j - 1)), (atP l j).sub (if j = 0 then a else atP l (j - 1)))
 | [], _ => rfl
 | p :: r, a => by
  rw [sidesL, sidesL_map r p, List.length_cons, List.range_succ_eq_map, List.map_cons, List.map_map]
  congr 1
  apply List.map_congr_left
  intro j hj
  have h1 : (if j = 0 then p else atP r (j - 1)) = atP (p :: r) j := by
   cases j with
   | zero => rfl
   | succ j => simp [atP]
  have h2 : atP (p :: r) (j + 1) = atP r j := by simp [atP]
  show ((if j = 0 then p else atP r (j - 1)), (atP r j).sub (if j = 0 then p else atP r (j - 1))) = _
  simp only [Function.comp, Nat.succ_ne_zero, if_false, Nat.succ_sub_one, h1]
  rw [show Nat.succ j = j + 1 from rfl, h2]
theorem sides_round {s : Sand} (h3 : 3 ≤ s.corners.length) : (sidesF s).all (sideOk s) = roundR s.corners := by
 have hlast : lastP s.corners = atP s.corners (s.corners.length - 1) := rfl
 unfold sidesF roundR
 rw [sidesL_map, hlast, List.all_map]
 have hside : ∀ j < s.corners.length, ((sideOk s) ∘ fun j => ((if j = 0 then atP s.corners (s.corners.length - 1) else atP s.corners (j - 1)), (atP s.corners j).sub (if j = 0 then atP s.corners (s.corners.length - 1) else atP s.corners (j - 1)))) j = rowOk s.corners (if j = 0 then s.corners.length - 1 else j - 1) := by
  intro j hj
  show sideOk s _ = _
  by_cases h0 : j = 0
  ·subst h0
   simp only [if_true]
   exact side_row h3 (by omega) hj (by omega) (by rw [Nat.sub_add_cancel (by omega), Nat.mod_self])
  ·simp only [if_neg h0]
   exact side_row h3 (by omega) hj (by omega) (by rw [Nat.sub_add_cancel (by omega), Nat.mod_eq_of_lt hj])
 rw [Bool.eq_iff_iff, List.all_eq_true, List.all_eq_true]
 constructor
 ·intro h i hi
  have hi := List.mem_range.1 hi
  have hk : (i + 1) % s.corners.length < s.corners.length := Nat.mod_lt _ (by omega)
  have := h ((i + 1) % s.corners.length) (List.mem_range.2 hk)
  rw [hside _ hk] at this
  have he : (if (i + 1) % s.corners.length = 0 then s.corners.length - 1 else (i + 1) % s.corners.length - 1) = i := by
   by_cases hl : i + 1 < s.corners.length
   ·rw [Nat.mod_eq_of_lt hl, if_neg (by omega)]; omega
   ·have : i + 1 = s.corners.length := by omega
    rw [this, Nat.mod_self, if_pos rfl]; omega
  rw [he] at this
  exact this
 ·intro h j hj
  have hj := List.mem_range.1 hj
  rw [hside j hj]
  refine h _ (List.mem_range.2 ?_)
  split <;> omega
theorem sand_eq (s : Sand) : sandE s = sandR s := by
 unfold sandE sandR
 cases h1 : inB (s.corners.length : Int) 3 8 with
 | false => rfl
 | true =>
  rw [inB_iff] at h1
  have e : (s.corners.any fun p => !withinB 10000 p) = !(s.corners.all fun p => withinB 10000 p) := by
   rw [List.any_eq_not_all_not]; simp
  rw [e, sides_round (by omega)]
  cases s.corners.all fun p => withinB 10000 p <;> simp
def Same (m : Nms) (ns : List ByteArray) : Prop := ∀ n, 0 ≤ (getM m n).getD 0 ∧ (0 < (getM m n).getD 0 ↔ n ∈ ns)
theorem Same.inc {m : Nms} {ns : List ByteArray} (h : Same m ns) (n : ByteArray) : Same (incS m n) (ns ++ [n]) := by
 intro u
 unfold incS
 rw [getM_put]
 split
 ·rename_i hu
  subst hu
  have := (h u).1
  simp; omega
 ·rename_i hu
  have := h u
  refine ⟨this.1, ?_⟩
  rw [this.2]
  simp [hu]
theorem fresh_eq {m : Nms} {ns : List ByteArray} (h : Same m ns) (n : ByteArray) : freshE m n = freshF n ns := by
 have hn := h n
 unfold freshE freshF
 have hany : (ns.any fun y => decide (y = n)) = true ↔ n ∈ ns := by simp
 by_cases hm : n ∈ ns
 ·have := hn.2.2 hm
  rw [if_pos (show (getM m n).getD 0 + 1 > 1 by omega), if_pos (hany.2 hm)]
 ·have : ¬ 0 < (getM m n).getD 0 := fun h => hm (hn.2.1 h)
  rw [if_neg (show ¬ (getM m n).getD 0 + 1 > 1 by omega), if_neg (fun h => hm (hany.1 h))]
theorem marks_eq : ∀ (l : List Mark) (m : Nms) (ns : List ByteArray) (i : Int), Same m ns → (∃ e, marksL m i l = .inl e ∧ marksR ns i l = .inl e) ∨ ∃ m' ns', marksL m i l = .inr m' ∧ marksR ns i l = .inr ns' ∧ Same m' ns'
 | [], m, ns, i, h => .inr ⟨m, ns, rfl, rfl, h⟩
 | x :: r, m, ns, i, h => by
  have he : markE m x = markER ns x := by unfold markE markER; rw [fresh_eq h]
  rw [marksL, marksR, he]
  by_cases h0 : markER ns x = 0
  ·rw [if_pos h0, if_pos h0]
   exact marks_eq r _ _ _ (h.inc x.name)
  ·rw [if_neg h0, if_neg h0]
   exact .inl ⟨_, rfl, rfl⟩
theorem sands_eq : ∀ (l : List Sand) (m : Nms) (ns : List ByteArray) (i : Int), Same m ns → sandsL m i l = sandsR ns i l
 | [], _, _, _, _ => rfl
 | x :: r, m, ns, i, h => by
  have he : sandE' m x = sandER ns x := by unfold sandE' sandER; rw [fresh_eq h, sand_eq]
  rw [sandsL, sandsR, he]
  by_cases h0 : sandER ns x = 0
  ·rw [if_pos h0, if_pos h0]
   exact sands_eq r _ _ _ (h.inc x.name)
  ·rw [if_neg h0, if_neg h0]
theorem check_eq (c : Cht) : checkX c = checkR c := by
 unfold checkX checkR
 have h0 : Same [] [] := fun n => by simp [getM]
 rcases marks_eq c.marks [] [] 0 h0 with ⟨e, h1, h2⟩ | ⟨m', ns', h1, h2, h3⟩
 ·rw [h1, h2]
 ·rw [h1, h2]
  simp only
  rw [sands_eq c.sands m' ns' 0 h3]
end Go.PX
namespace Go.PX
open Go.Proofs
end Go.PX
namespace Go.PX
open Go.Proofs
theorem ch21x (c : Cht) : FnV Tryz.prog 21 [c.d] (.tup [i64 (checkX c).1, i64 (checkX c).2.1, i64 (checkX c).2.2]) := FnV.cast (ch21 c) (by rw [check_eq])
end Go.PX
namespace Go.PX
open Go.Proofs
end Go.PX
namespace Go.PX
open Go.Proofs
end Go.PX
namespace Go.PX
open Go.Proofs
end Go.PX
namespace Go.PX
open Go.Proofs
end Go.PX
namespace Go.PX
open Go.Proofs
end Go.PX
namespace Go.PX
open Go.Proofs
end Go.PX
namespace Go.PX
open Go.Proofs Go.RowKit Go.ChangeShapes
end Go.PX
namespace Go.PX
open Go.Proofs
end Go.PX
namespace Go.PX
open Go.Proofs
end Go.PX
namespace Go.PX
open Go.Proofs
end Go.PX
namespace Go.PX
open Go.Proofs
theorem cntF_add (v : Pt) : ∀ (l : List Pt) (n k : Int), cntF v l (n + k) = cntF v l n + k
 | [], _, _ => rfl
 | q :: r, n, k => by
  rw [cntF, cntF]
  split
  ·rw [show n + k + 1 = (n + 1) + k by omega]; exact cntF_add v r _ _
  ·exact cntF_add v r _ _
theorem turn_rot (v : Pt) : turnP (rotF v) = v := by cases v; simp [turnP, rotF]
theorem NZ_rot {v : Pt} (h : NZ v) : NZ (rotF v) := by
 unfold NZ at *
 show v.y ≠ 0 ∨ -v.x ≠ 0
 omega
theorem towF_rot {v : Pt} (hz : NZ v) : towF (rotF v) = (towF v + 8) % 32 := by
 have hb := towF_in (NZ_rot hz)
 by_cases hc : 0 ≤ (rotF v).x ∧ 0 < (rotF v).y
 ·have h1 : quadN (rotF v) = 0 := by unfold quadN; rw [if_pos hc]
  have h2 : quadN v = 3 := by
   have e1 : (rotF v).x = v.y := rfl
   have e2 : (rotF v).y = -v.x := rfl
   rw [e1, e2] at hc
   unfold quadN
   rw [if_neg (by omega), if_neg (by omega), if_neg (by omega)]
  have h3 : turnN 3 v = rotF v := by cases v; simp [turnN, turnP, rotF]
  have e1 : towF (rotF v) = cntF (rotF v) quarterL 0 - 1 := by unfold towF; rw [h1]; rfl
  have e2 : towF v = cntF (rotF v) quarterL 24 - 1 := by unfold towF; rw [h2, h3]; rfl
  have e3 := cntF_add (rotF v) quarterL 0 24
  rw [Int.zero_add] at e3
  omega
 ·obtain ⟨h1, _⟩ := quad_turn (NZ_rot hz) hc
  rw [turn_rot] at h1
  have e1 : towF (rotF v) = cntF (turnN (quadN v) v) quarterL (8 * quadN v + 8) - 1 := by
   unfold towF
   rw [h1, turnN, turn_rot]
   congr 2
  rw [cntF_add] at e1
  have e2 : towF v = cntF (turnN (quadN v) v) quarterL (8 * quadN v) - 1 := rfl
  have := (towF_in hz).1
  omega
theorem towF_neg {v : Pt} (hz : NZ v) : towF ⟨-v.x, -v.y⟩ = (towF v + 16) % 32 := by
 have e : (⟨-v.x, -v.y⟩ : Pt) = rotF (rotF v) := rfl
 rw [e, towF_rot (NZ_rot hz), towF_rot hz]
 omega
end Go.PX
namespace Go.PX
open Go.Proofs
end Go.PX
namespace Go.PX
open Go.Proofs
end Go.PX
namespace Go.PX
open Go.Proofs
end Go.PX
namespace Go.PX
open Go.Proofs
end Go.PX
namespace Go.PX
open Go.Proofs
end Go.PX
namespace Go.PX
open Go.Proofs
end Go.PX
namespace Go.PX
open Go.Proofs
def valL (c : Cht) : Bool := decide ((checkX c).2.2 = 0)
theorem ch43 (c : Cht) : FnV Tryz.prog 43 [c.d] (.bool (valL c)) := by
 refine fnV_of mixed tysOk Tryz.func43 rfl (ft := ft43) 1 (by decide +kernel) (by rfl) fun {σ} Y st => ?_
 conv=>whnf
 refine CallA_v (ch21x c) rfl rfl ?_
 conv=>whnf
 exact RetA_view 1 rfl ⟨⟨rfl, rfl⟩, rfl⟩
theorem tmod_nat {a : Int} {n : Nat} (ha : 0 ≤ a) : a.tmod (n : Int) = ((a.toNat % n : Nat) : Int) := by
 rw [Int.tmod_eq_emod_of_nonneg ha]
 obtain ⟨k, rfl⟩ := Int.eq_ofNat_of_zero_le ha
 simp
end Go.PX
namespace Go.PX
open Go.Proofs Go.RowKit Go.ChangeShapes
theorem c82 : Tryz.prog.cellsOf 82 = 1 := by kernel_rfl
theorem u16In {n : Int} (h : (Lit.int .u16 n).wf = true) : 0 ≤ n ∧ n ≤ 65535 := by
 simp only [Lit.wf, Bool.and_eq_true, decide_eq_true_eq] at h
 exact h
theorem Rd.intw {P : Program} {W : World} {t : TypeId} {k : IntKind} (ht : P.underlying t = some (.int k)) : Rd P W t fun ds => ∃ n, ds = [.int k n] ∧ (Lit.int k n).wf = true := by
 refine ⟨?_⟩
 intro H enc sp held fuel cs x h
 obtain ⟨n, rfl, _, hw⟩ := DataW.trod_int ht h
 exact ⟨[.int k n], ⟨n, rfl, hw⟩, _, [], rfl, rfl, rfl⟩
section
variable (W : World)
theorem rdU16 : Rd Tryz.prog W 82 fun ds => ∃ n, ds = [.int .u16 n] ∧ 0 ≤ n ∧ n ≤ 65535 := (Rd.intw Tryz.underlying82).mono fun ds ⟨n, h, w⟩ => ⟨n, h, u16In w⟩
end
end Go.PX
namespace Go.PX
open Go.Proofs Go.RowKit Go.ChangeShapes
end Go.PX
namespace Go.PX
open Go.Proofs
end Go.PX
namespace Go.PX
open Go.Proofs
theorem args_frz {g : Nat → Option DO} {id sz n : Nat} {A B : List D} {d : D} (hv : viewV g (.sl id sz 0 n) = some d) : replL g [.agg (inj A ++ .sl id sz 0 n :: inj B)] = [.d (.agg (A ++ d :: B))] := by
 show [mkAgg (replL g (inj A ++ .sl id sz 0 n :: inj B))] = _
 have : replL g (inj A ++ .sl id sz 0 n :: inj B) = inj (A ++ d :: B) := by
  rw [replL_append, replL_inj, inj_append]
  have : replL g (.sl id sz 0 n :: inj B) = inj (d :: B) := by
   show repl g (.sl id sz 0 n) :: replL g (inj B) = _
   rw [replL_inj]
   simp [repl, hv, inj]
  rw [this]
 rw [this, mkAgg, dsOf_inj]
end Go.PX
namespace Go.PX
open Go.Proofs Go.RowKit Go.ChangeShapes
theorem c5 : Tryz.prog.cellsOf 5 = 1 := by kernel_rfl
theorem u8In {n : Int} (h : (Lit.int .u8 n).wf = true) : 0 ≤ n ∧ n ≤ 255 := by
 simp only [Lit.wf, Bool.and_eq_true, decide_eq_true_eq] at h
 exact h
theorem rdU8 (W : World) : Rd Tryz.prog W 5 fun ds => ∃ n, ds = [.int .u8 n] ∧ 0 ≤ n ∧ n ≤ 255 := (Rd.intw Tryz.underlying5).mono fun ds ⟨n, h, w⟩ => ⟨n, h, u8In w⟩
end Go.PX
namespace Go.PX
open Go.Proofs
end Go.PX
namespace Go.PX
open Go.Proofs
end Go.PX
namespace Go.PX
open Go.Proofs
end Go.PX
namespace Go.PX
open Go.Proofs
end Go.PX
namespace Go.PX
open Go.Proofs
end Go.PX
namespace Go.PX
open Go.Proofs
open Go.RowKit Go.Proofs
end Go.PX
namespace Go.PX
open Go.Proofs
end Go.PX
namespace Go.PX
open Go.Proofs
end Go.PX
namespace Go.PX
open Go.Proofs
end Go.PX
namespace Go.PX
open Go.Proofs
end Go.PX
namespace Go.PX
open Go.Proofs
end Go.PX
namespace Go.PX
open Go.Proofs
theorem seenE_of {c : Cht} (hv : (checkX c).2.2 = 0) {day : Int} (hd : 0 ≤ day ∧ day ≤ 40000) {k : Nat} {m : Mark} (hm : c.marks[k]? = some m) {p : Pt} (hp : Pin 30000 p) :
  seenE c day k p = (if colB day (backN m.paints m.paints.length) = 0 then 9 else if sameP m.at' p then 8 else 0) ∧ seenV c day k p = (if seenE c day k p = 0 then towF (m.at'.sub p) else 0) := by
 have hk : k < c.marks.length := (List.getElem?_eq_some_iff.1 hm).1
 have h1 : marE c day k = 0 := by
  unfold marE
  rw [if_pos hv, if_pos (inB_iff.2 hd), if_pos (inB_iff.2 (by omega))]
 have h2 : marM c day k = m := by
  unfold marM
  rw [if_pos h1, Int.toNat_natCast, hm]; rfl
 have h3 : marC c day k = colB day (backN m.paints m.paints.length) := by
  unfold marC
  rw [if_pos h1, h2]
 have h4 : stdE c day k = if colB day (backN m.paints m.paints.length) = 0 then 9 else 0 := by
  unfold stdE
  rw [if_pos h1, h3]
 refine ⟨?_, ?_⟩
 ·unfold seenE
  rw [h4, h2]
  by_cases h : colB day (backN m.paints m.paints.length) = 0
  ·rw [if_pos h, if_pos h]; rfl
  ·rw [if_neg h, if_neg h, if_pos rfl, if_pos (within_iff.2 hp)]
 ·unfold seenV
  rw [h2]
theorem same_NZ {a p : Pt} (h : sameP a p = false) : NZ (a.sub p) := by
 rw [Bool.eq_false_iff] at h
 unfold NZ
 show a.x - p.x ≠ 0 ∨ a.y - p.y ≠ 0
 rcases Decidable.em (a.x = p.x) with h1 | h1
 ·rcases Decidable.em (a.y = p.y) with h2 | h2
  ·exact absurd (by unfold sameP; simp [h1, h2]) h
  ·omega
 ·omega
structure FromX where
 day : Int
 mark : Int
 a : Int
 b : Int
def FromX.cells (x : FromX) : List D := [.int .u16 x.day, .int .u8 x.mark, .int .i16 x.a, .int .i16 x.b]
def FromX.ok (x : FromX) : Prop := (0 ≤ x.day ∧ x.day ≤ 65535) ∧ (0 ≤ x.mark ∧ x.mark ≤ 255) ∧ (-32768 ≤ x.a ∧ x.a ≤ 32767) ∧ (-32768 ≤ x.b ∧ x.b ≤ 32767)
theorem far_in (n : Int) (h : -32768 ≤ n ∧ n ≤ 32767) : -30000 ≤ n.tmod 30001 ∧ n.tmod 30001 ≤ 30000 := by
 have h1 := Int.mul_tdiv_add_tmod n 30001
 rcases Int.lt_or_le n 0 with h2 | h2
 ·have h3 := Int.tmod_nonneg 30001 (show 0 ≤ -n by omega)
  have h4 := Int.tmod_lt_of_pos (-n) (b := 30001) (by omega)
  rw [Int.neg_tmod] at h3 h4
  omega
 ·have h3 := Int.tmod_nonneg 30001 h2
  have h4 := Int.tmod_lt_of_pos n (b := 30001) (by omega)
  omega
end Go.PX
namespace Go.PX
open Go.Proofs Go.RowKit Go.ChangeShapes
theorem c83 : Tryz.prog.cellsOf 83 = 1 := by kernel_rfl
theorem c84 : Tryz.prog.cellsOf 84 = 2 * 1 := by kernel_rfl
theorem c86 : Tryz.prog.cellsOf 86 = 4 := by kernel_rfl
theorem i16In {n : Int} (h : (Lit.int .i16 n).wf = true) : -32768 ≤ n ∧ n ≤ 32767 := by
 simp only [Lit.wf, Bool.and_eq_true, decide_eq_true_eq] at h
 exact h
section
variable (W : World)
theorem rdI16 : Rd Tryz.prog W 83 fun ds => ∃ n, ds = [.int .i16 n] ∧ -32768 ≤ n ∧ n ≤ 32767 := (Rd.intw Tryz.underlying83).mono fun ds ⟨n, h, w⟩ => ⟨n, h, i16In w⟩
theorem rdPlaceZ : RdZ Tryz.prog W 84 fun ds => ∃ a b : Int, ds = [.int .i16 a, .int .i16 b] ∧ (-32768 ≤ a ∧ a ≤ 32767) ∧ (-32768 ≤ b ∧ b ≤ 32767) :=
 (RdZ.array Tryz.underlying84 c84 c83 (Rd.z (rdI16 W))).mono fun ds h => by
  obtain ⟨dss, rfl, hl, hd⟩ := h
  match dss, hl with
  | [x, y], _ =>
   obtain ⟨a, rfl, ha⟩ := hd x (by simp)
   obtain ⟨b, rfl, hb⟩ := hd y (by simp)
   exact ⟨a, b, rfl, ha, hb⟩
theorem rdFromZ : RdZ Tryz.prog W 86 fun ds => ∃ x : FromX, ds = x.cells ∧ x.ok :=
 (RdZ.struct Tryz.underlying86 c86 (.cons rfl c82 (rdU16 W).z (.cons rfl c5 (rdU8 W).z (.cons rfl c84 (rdPlaceZ W) (.nil _))))).mono fun ds h => by
  obtain ⟨_, _, rfl, ⟨a, rfl, ha⟩, _, _, rfl, ⟨b, rfl, hb⟩, _, _, rfl, ⟨p, q, rfl, hp, hq⟩, rfl⟩ := h
  exact ⟨⟨a, b, p, q⟩, rfl, ha, hb, hp, hq⟩
end
end Go.PX
namespace Go.PX
open Go.Proofs
end Go.PX
namespace Go.PX
open Go.Proofs Go.RowKit Go.ChangeShapes
section
variable (W : World)
end
end Go.PX
namespace Go.PX
open Go.Proofs
def shipW : ByteArray := ⟨#[115, 104, 105, 112]⟩
def backC (c : Cht) (q : Pt) : Cht := ⟨c.marks ++ [⟨shipW, q, [⟨0, 2⟩]⟩], c.sands⟩
theorem sameP_comm (a b : Pt) : sameP a b = sameP b a := by
 rw [Bool.eq_iff_iff]
 unfold sameP
 simp
 omega
theorem seen_back {c : Cht} {q : Pt} (hv : (checkX c).2.2 = 0) (hv' : (checkX (backC c q)).2.2 = 0) (hq : Pin 30000 q) {day : Int} (hd : 0 ≤ day ∧ day ≤ 40000) {k : Nat} {m : Mark} (hm : c.marks[k]? = some m) :
  (seenE c day k q = 8 ∧ seenE (backC c q) day c.marks.length m.at' = 8) ∨ (seenE c day k q = 9 ∧ (seenE (backC c q) day c.marks.length m.at' = 0 ∨ seenE (backC c q) day c.marks.length m.at' = 8)) ∨ (seenE c day k q = 0 ∧ seenE (backC c q) day c.marks.length m.at' = 0 ∧ seenV (backC c q) day c.marks.length m.at' = (seenV c day k q + 16) % 32 ∧ 0 ≤ seenV c day k q ∧ seenV c day k q ≤ 31) := by
 have hmp := ((checkX_ok hv).mark m (List.mem_of_getElem? hm)).1
 obtain ⟨e1, v1⟩ := seenE_of hv hd hm hq
 have hm2 : (backC c q).marks[c.marks.length]? = some ⟨shipW, q, [⟨0, 2⟩]⟩ := by
  show (c.marks ++ [_])[c.marks.length]? = _
  simp
 obtain ⟨e2, v2⟩ := seenE_of hv' hd hm2 hmp
 have hcol : colB day (backN [(⟨0, 2⟩ : Paint)] [(⟨0, 2⟩ : Paint)].length) = 2 := by
  show (if (0 : Int) ≤ day then (2 : Int) else _) = 2
  rw [if_pos hd.1]
 have hcol : colB day (backN (⟨shipW, q, [⟨0, 2⟩]⟩ : Mark).paints (⟨shipW, q, [⟨0, 2⟩]⟩ : Mark).paints.length) = 2 := hcol
 rw [hcol, if_neg (by omega), sameP_comm] at e2
 by_cases hs : sameP m.at' q = true
 ·rw [if_pos hs] at e1 e2
  by_cases hc : colB day (backN m.paints m.paints.length) = 0
  ·rw [if_pos hc] at e1
   exact .inr (.inl ⟨e1, .inr e2⟩)
  ·rw [if_neg hc] at e1
   exact .inl ⟨e1, e2⟩
 ·rw [if_neg hs] at e1 e2
  by_cases hc : colB day (backN m.paints m.paints.length) = 0
  ·rw [if_pos hc] at e1
   exact .inr (.inl ⟨e1, .inl e2⟩)
  ·rw [if_neg hc] at e1
   have hz := same_NZ (show sameP m.at' q = false by simpa using hs)
   rw [if_pos e1] at v1
   rw [if_pos e2] at v2
   refine .inr (.inr ⟨e1, e2, ?_, ?_⟩)
   ·rw [v1, v2]
    have : (q.sub m.at') = ⟨-(m.at'.sub q).x, -(m.at'.sub q).y⟩ := by unfold Pt.sub; simp; omega
    show towF (q.sub m.at') = _
    rw [this, towF_neg hz]
   ·rw [v1]; exact towF_in hz
theorem viewV_slV {h : Heap} {k id sz n : Nat} {vs : List (List V)} {ds : List (List D)} (hg : get h id = some (.arr sz (.vv vs))) (hv : viewLL (objD h k) vs = some ds) (hn : n = ds.length) : viewV (objD h (k + 1)) (.sl id sz 0 n) = some (.vs ds) := by
 have h1 : objD h (k + 1) id = some (.arr sz ds) := by
  rw [objD, hg]
  simp only [hv]
 have h2 : Nat.beq sz sz = true := Nat.beq_refl sz
 have h3 : Nat.ble (0 + ds.length) ds.length = true := Nat.ble_eq_true_of_le (by omega)
 subst hn
 simp only [viewV, h1, h2, h3, List.drop_zero, List.take_length]
set_option maxHeartbeats 8000000 in
theorem ch14 (c : Cht) (x : FromX) (hx : x.ok) : FnV Tryz.prog 14 [c.d, .agg x.cells] (.bool true) := by
 refine fnV_of mixed tysOk Tryz.func14 rfl (ft := ft14) 2 (by decide +kernel) (by rfl) fun {σ} Y st => ?_
 conv=>whnf
 refine CallA_v (ch43 c) rfl rfl ?_
 conv=>whnf
 by_cases hv : (checkX c).2.2 = 0
 case neg =>
  rw [show valL c = false from decide_eq_false hv]
  conv=>whnf
  repeat' (first
   | (refine CallA_v (ch22) rfl rfl ?_; conv=>whnf)
   | (refine CallA_view (ch22) rfl 1 rfl ?_; conv=>whnf)
   | (refine DrawCall_v (ch22) rfl rfl ?_; conv=>whnf)
   | (refine DrawCall_view (ch22) rfl 1 rfl ?_; conv=>whnf)
   | (refine arith_in (wrap_i64 (by (try dsimp only); omega)) ?_; conv=>whnf)
   | (refine elemK_nat (by assumption) ?_; conv=>whnf)
   | (refine ownK_whole (by first | rfl | assumption | (simp [Els.len]; done) | (simp [Els.len]; omega)) ?_; conv=>whnf)
   | (refine chk_i (by first | (exact decide_eq_true (by (try simp only [List.length_map]); omega)) | (simp [Els.len, Els.cons, V.cells, Els.toV, injL]; done) | (simp [Els.len, Els.cons, V.cells, Els.toV, injL]; omega)) ?_; conv=>whnf)
   | fail)
  exact RetA_view 1 rfl ⟨⟨rfl, rfl⟩, rfl⟩
 have hR := checkX_ok hv
 have hml := hR.marks
 rw [show valL c = true from decide_eq_true hv]
 conv=>whnf
 refine brk_i (fun h0 => ?_) (fun h0 => ?_)
 ·conv=>whnf
  repeat' (first
   | (refine CallA_v (ch22) rfl rfl ?_; conv=>whnf)
   | (refine CallA_view (ch22) rfl 1 rfl ?_; conv=>whnf)
   | (refine DrawCall_v (ch22) rfl rfl ?_; conv=>whnf)
   | (refine DrawCall_view (ch22) rfl 1 rfl ?_; conv=>whnf)
   | (refine arith_in (wrap_i64 (by (try dsimp only); omega)) ?_; conv=>whnf)
   | (refine elemK_nat (by assumption) ?_; conv=>whnf)
   | (refine ownK_whole (by first | rfl | assumption | (simp [Els.len]; done) | (simp [Els.len]; omega)) ?_; conv=>whnf)
   | (refine chk_i (by first | (exact decide_eq_true (by (try simp only [List.length_map]); omega)) | (simp [Els.len, Els.cons, V.cells, Els.toV, injL]; done) | (simp [Els.len, Els.cons, V.cells, Els.toV, injL]; omega)) ?_; conv=>whnf)
   | fail)
  exact RetA_view 1 rfl ⟨⟨rfl, rfl⟩, rfl⟩
 have h0 : 0 < c.marks.length := by
  have := of_decide_eq_false h0
  simp at this
  exact List.length_pos_iff.2 this
 conv=>whnf
 refine brk_i (fun h1 => ?_) (fun h1 => ?_)
 ·conv=>whnf
  repeat' (first
   | (refine CallA_v (ch22) rfl rfl ?_; conv=>whnf)
   | (refine CallA_view (ch22) rfl 1 rfl ?_; conv=>whnf)
   | (refine DrawCall_v (ch22) rfl rfl ?_; conv=>whnf)
   | (refine DrawCall_view (ch22) rfl 1 rfl ?_; conv=>whnf)
   | (refine arith_in (wrap_i64 (by (try dsimp only); omega)) ?_; conv=>whnf)
   | (refine elemK_nat (by assumption) ?_; conv=>whnf)
   | (refine ownK_whole (by first | rfl | assumption | (simp [Els.len]; done) | (simp [Els.len]; omega)) ?_; conv=>whnf)
   | (refine chk_i (by first | (exact decide_eq_true (by (try simp only [List.length_map]); omega)) | (simp [Els.len, Els.cons, V.cells, Els.toV, injL]; done) | (simp [Els.len, Els.cons, V.cells, Els.toV, injL]; omega)) ?_; conv=>whnf)
   | fail)
  exact RetA_view 1 rfl ⟨⟨rfl, rfl⟩, rfl⟩
 obtain ⟨x1, x2, x3, x4⟩ := hx
 have hd0 := Int.tmod_nonneg 40001 x1.1
 have hd1 := Int.tmod_lt_of_pos x.day (b := 40001) (by omega)
 have hk := Nat.mod_lt x.mark.toNat h0
 have hq : Pin 30000 ⟨x.a.tmod 30001, x.b.tmod 30001⟩ := ⟨far_in _ x3, far_in _ x4⟩
 conv=>whnf
 refine arith_in (wrap_i64 (by (try dsimp only); omega)) ?_
 conv=>whnf
 refine arith_in (wrap_i64 (by (try dsimp only); omega)) ?_
 conv=>whnf
 refine chk_i (decide_eq_true (by simp only [List.length_map]; omega)) ?_
 conv=>whnf
 rw [List.length_map, tmod_nat x2.1]
 refine arith_in (wrap_i64 (by (try dsimp only); omega)) ?_
 conv=>whnf
 refine arith_in (wrap_i64 (by (try dsimp only); omega)) ?_
 conv=>whnf
 refine CallA_v (ch42 _ _) rfl rfl ?_
 generalize x.day.tmod 40001 = day at hd0 hd1 ⊢
 generalize x.mark.toNat % c.marks.length = k at hk ⊢
 generalize hqq : (⟨x.a.tmod 30001, x.b.tmod 30001⟩ : Pt) = q at hq ⊢
 obtain ⟨m, hm⟩ : ∃ m, c.marks[k]? = some m := ⟨_, List.getElem?_eq_getElem hk⟩
 conv=>whnf
 refine ownK_whole rfl ?_
 conv=>whnf
 refine chk_i (by rw [Bool.and_eq_true]; exact ⟨lenAllD_map (fun _ => ⟨rfl, rfl⟩) _, rfl⟩) ?_
 conv=>whnf
 refine chk_i (decide_eq_true (by show (0 + (c.marks.map Mark.cells).length) * 56 ≤ _; rw [List.length_map]; omega)) ?_
 conv=>whnf
 refine ownK_whole (by simp [Els.len, Els.toV, injL]) ?_
 conv=>whnf
 refine ownK_whole (by simp [Els.len]) ?_
 conv=>whnf
 refine chk_i (by
  show (true && !nameBL 61 ((injL ([] ++ c.marks.map Mark.cells) ++ [_]).flatten)) = true
  rw [nameBL_injL]; rfl) ?_
 conv=>whnf
 refine chk_i (decide_eq_true (by show ((([] ++ c.marks.map Mark.cells).length) + 1) * 56 ≤ _; simp only [List.nil_append, List.length_map]; omega)) ?_
 conv=>whnf
 refine forceN_to [58, 61] (by
  show namesOfL ((injL ([] ++ c.marks.map Mark.cells) ++ [[V.d (.str shipW), V.d (i64 q.x), V.d (i64 q.y), V.sl 58 2 0 1]]).flatten) ++ ([61] ++ []) = _
  rw [namesOfL_injL]; rfl) ?_
 conv=>whnf
 have hbc : (backC c q).cells = [marksD (c.marks ++ [⟨shipW, q, [⟨0, 2⟩]⟩]), sandsD c.sands] := rfl
 have hvs : ∀ (h : Heap) (n : Nat), n = c.marks.length + 1 → get h 61 = some (.arr 4 (.vv (injL ([] ++ c.marks.map Mark.cells) ++ [[V.d (.str shipW), V.d (i64 q.x), V.d (i64 q.y), V.sl 58 2 0 1]]))) → get h 58 = some (.arr 2 (.dd [[i64 0, i64 2]])) → viewV (objD h 2) (.sl 61 4 0 n) = some (marksD (c.marks ++ [⟨shipW, q, [⟨0, 2⟩]⟩])) := by
  intro h n hn h1 h2
  have h3 := viewV_slV (k := 1) (n := n) (ds := ([] ++ c.marks.map Mark.cells) ++ [[D.str shipW, i64 q.x, i64 q.y, .vs [[i64 0, i64 2]]]]) h1 (viewLL_app (viewLL_one (viewL_app (a := [.str shipW, i64 q.x, i64 q.y]) (viewL_cons (viewV_sl h2 rfl) rfl))) _) (by simp [hn])
  rw [h3]
  simp [marksD, Mark.cells, paintsD, Paint.cells]
 refine CallA_frz 2 [58, 61] ?_
 refine CallA_sub (e' := [(2, .ptr 2 0), (5, .d (i64 day)), (6, .d (i64 k)), (7, .ptr 7 0), (8, .ptr 8 0)]) (h' := [(2, .box (.dd c.cells)), (7, .box (.dd q.cells)), (8, .box (.dd (backC c q).cells))]) (args' := [.d (backC c q).d]) ⟨rfl, rfl, rfl, rfl, rfl, trivial⟩ ⟨rfl, rfl, ?_, trivial⟩ ?_ ?_
 ·rw [hbc]
  exact get_frzB (A := []) (B := [sandsD c.sands]) rfl (hvs _ _ (by simp [Els.len, Els.toV, injL]) rfl rfl)
 ·show _ = [V.d (D.agg (backC c q).cells)]
  rw [hbc]
  exact args_frz (A := []) (B := [sandsD c.sands]) (hvs _ _ (by simp [Els.len, Els.toV, injL]) rfl rfl)
 refine CallA_v (ds := [(backC c q).d]) (ch43 (backC c q)) rfl rfl ?_
 by_cases hv' : (checkX (backC c q)).2.2 = 0
 case neg =>
  rw [show valL (backC c q) = false from decide_eq_false hv']
  conv=>whnf
  repeat' (first
   | (refine CallA_v (ch22) rfl rfl ?_; conv=>whnf)
   | (refine CallA_view (ch22) rfl 1 rfl ?_; conv=>whnf)
   | (refine DrawCall_v (ch22) rfl rfl ?_; conv=>whnf)
   | (refine DrawCall_view (ch22) rfl 1 rfl ?_; conv=>whnf)
   | (refine arith_in (wrap_i64 (by (try dsimp only); omega)) ?_; conv=>whnf)
   | (refine elemK_nat (by assumption) ?_; conv=>whnf)
   | (refine ownK_whole (by first | rfl | assumption | (simp [Els.len]; done) | (simp [Els.len]; omega)) ?_; conv=>whnf)
   | (refine chk_i (by first | (exact decide_eq_true (by (try simp only [List.length_map]); omega)) | (simp [Els.len, Els.cons, V.cells, Els.toV, injL]; done) | (simp [Els.len, Els.cons, V.cells, Els.toV, injL]; omega)) ?_; conv=>whnf)
   | fail)
  exact RetA_view 1 rfl ⟨⟨rfl, rfl⟩, rfl⟩
 rw [show valL (backC c q) = true from decide_eq_true hv']
 have hsb := seen_back hv hv' hq (show 0 ≤ day ∧ day ≤ 40000 by omega) hm
 have c1 : FnV Tryz.prog 32 [c.d, i64 day, i64 k, q.d] (.tup [i64 (seenV c day k q), i64 (seenE c day k q)]) := ch32 c day k q
 have c2 : FnV Tryz.prog 32 [(backC c q).d, i64 day, i64 c.marks.length, m.at'.d] (.tup [i64 (seenV (backC c q) day c.marks.length m.at'), i64 (seenE (backC c q) day c.marks.length m.at')]) := ch32 (backC c q) day c.marks.length m.at'
 generalize seenV (backC c q) day c.marks.length m.at' = v2 at hsb c2
 generalize seenE (backC c q) day c.marks.length m.at' = e2 at hsb c2
 generalize seenV c day k q = v1 at hsb c1
 generalize seenE c day k q = e1 at hsb c1
 conv=>whnf
 refine CallA_v (ds := [c.d, i64 day, i64 k, q.d]) (fun {σ} => c1) rfl rfl ?_
 conv=>whnf
 refine elemK_nat hm ?_
 conv=>whnf
 refine DrawCall_v (ds := [(backC c q).d, i64 day, i64 c.marks.length, m.at'.d]) (fun {σ} => c2) (congrArg (fun z => [V.d (backC c q).d, V.d (i64 day), V.d (i64 z), V.d m.at'.d]) (by simp)) rfl ?_
 conv=>whnf
 rcases hsb with ⟨rfl, rfl⟩ | ⟨rfl, rfl | rfl⟩ | ⟨rfl, rfl, rfl, hv1⟩
 ·conv=>whnf
  refine CallA_v (ds := []) ch22 rfl rfl ?_
  conv=>whnf
  exact RetA_view 1 rfl ⟨⟨rfl, rfl⟩, rfl⟩
 ·conv=>whnf
  refine CallA_v (ds := []) ch22 rfl rfl ?_
  conv=>whnf
  exact RetA_view 1 rfl ⟨⟨rfl, rfl⟩, rfl⟩
 ·conv=>whnf
  refine CallA_v (ds := []) ch22 rfl rfl ?_
  conv=>whnf
  exact RetA_view 1 rfl ⟨⟨rfl, rfl⟩, rfl⟩
 ·conv=>whnf
  refine arith_in (wrap_i64 (by (try dsimp only); omega)) ?_
  conv=>whnf
  have hmo : (v1 + 16).tmod 32 = (v1 + 16) % 32 := Int.tmod_eq_emod_of_nonneg (by omega)
  rw [hmo]
  refine brk_i (fun _ => ?_) (fun h => absurd h (by simp))
  conv=>whnf
  refine CallA_v (ds := []) ch22 rfl rfl ?_
  conv=>whnf
  exact RetA_view 1 rfl ⟨⟨rfl, rfl⟩, rfl⟩
end Go.PX
