import Derived.Test.YtboaolnlajoanaaGreatDoorPxN
import Derived.Test.YtboaolnlajoanaaGreatDoorPxL
import Derived.Test.YtboaolnlajoanaaGreatDoorPxK
import Derived.Test.YtboaolnlajoanaaGreatDoorPxJ
import Derived.Lib.AtoiAllCases
import Derived.Laws.IdiomStrings
import Derived.Test.YtboaolnlajoanaaGreatDoorPxM
set_option linter.all false
set_option maxRecDepth 10000
namespace Go.PX
open Go.Proofs
structure FewC (c : Cht) : Prop where
 marks : c.marks.length < 1000000
 sands : c.sands.length < 1000000
 paints : ∀ m ∈ c.marks, m.paints.length < 1000000
 corners : ∀ s ∈ c.sands, s.corners.length < 1000000
set_option maxHeartbeats 4000000 in
theorem ch40 (a b : Cht) (ha : FewC a) : FnV Tryz.prog 40 [a.d, b.d] (.bool (decide (a = b))) := by
 refine fnV_of mixed tysOk Tryz.func40 rfl (ft := ft40) 2 (by decide +kernel) (by rfl) fun {σ} Y st => ?_
 conv=>whnf
 have hm1 := ha.marks
 have hs1 := ha.sands
 refine brk_i (fun h0 => ?_) (fun h0 => ?_)
 ·have h0 : a.marks.length ≠ b.marks.length := by
   intro e; simp [e] at h0
  conv=>whnf
  rw [decide_eq_false (by rintro rfl; exact h0 rfl)]
  exact RetA_view 0 rfl ⟨⟨rfl, rfl⟩, rfl⟩
 have hml : a.marks.length = b.marks.length := by
  have := h0
  simp at this; omega
 conv=>whnf
 refine brk_i (fun h0 => ?_) (fun h0 => ?_)
 ·have h0 : a.sands.length ≠ b.sands.length := by
   intro e; simp [e] at h0
  conv=>whnf
  rw [decide_eq_false (by rintro rfl; exact h0 rfl)]
  exact RetA_view 0 rfl ⟨⟨rfl, rfl⟩, rfl⟩
 have hsl : a.sands.length = b.sands.length := by
  have := h0
  simp at this; omega
 conv=>whnf
 refine LoopA_p (T := tys) tysOk (by exact drawsB_spec mixed tysOk (by decide +kernel)) (α := Nat) (fun i => ⟨[(2, .ptr 2 0), (3, .ptr 3 0), (5, .d (i64 i))], [(2, .box (.dd a.cells)), (3, .box (.dd b.cells))], st⟩) (fun i => i ≤ a.marks.length ∧ a.marks.take i = b.marks.take i) (fun i => a.marks.length - i) 0
  (Wk.sub ⟨(by first | rfl | (simp only [List.length_map]; rfl) | simp [PX.get]), (by first | rfl | (simp only [List.length_map]; rfl) | simp [PX.get]), (by first | rfl | (simp only [List.length_map]; rfl) | simp [PX.get]), trivial⟩ ⟨(by first | rfl | (simp only [List.length_map]; rfl) | simp [PX.get]), (by first | rfl | (simp only [List.length_map]; rfl) | simp [PX.get]), trivial⟩) (by simp) ?_
 rintro i ⟨hi, he⟩
 conv=>whnf
 refine brk_i (fun hc => ?_) (fun hc => ?_)
 ·have hc : i < a.marks.length := by simpa using hc
  have hc' : i < b.marks.length := by omega
  have hpl := ha.paints a.marks[i] (List.getElem_mem hc)
  have hne : a.marks[i] ≠ b.marks[i] → a ≠ b := by rintro h rfl; exact h rfl
  have hnx : a.marks[i] = b.marks[i] → a.marks.take (i + 1) = b.marks.take (i + 1) := fun h1 => by rw [List.take_succ_eq_append_getElem hc, List.take_succ_eq_append_getElem hc', he, h1]
  generalize hx : a.marks[i] = x at *
  generalize hy : b.marks[i] = y at *
  conv=>whnf
  refine elemK_i x.cells (by simp [hc, hx]) ?_
  conv=>whnf
  refine elemK_i y.cells (by simp [hc', hy]) ?_
  conv=>whnf
  refine brk_i (fun h1 => ?_) (fun h1 => ?_)
  ·have h1 : x ≠ y := by rintro rfl; simp at h1
   conv=>whnf
   rw [decide_eq_false (hne h1)]
   exact RetA_view 0 rfl ⟨⟨rfl, rfl⟩, rfl⟩
  have n1 : x.name = y.name := by simpa using h1
  conv=>whnf
  refine brk_i (fun h1 => ?_) (fun h1 => ?_)
  ·have h1 : x ≠ y := by rintro rfl; simp at h1
   conv=>whnf
   rw [decide_eq_false (hne h1)]
   exact RetA_view 0 rfl ⟨⟨rfl, rfl⟩, rfl⟩
  have n2 : x.at' = y.at' := by
   cases h4 : x.at' with
   | mk p q =>
    cases h5 : y.at' with
    | mk u v =>
     rw [h4, h5] at h1
     simpa using h1
  conv=>whnf
  refine brk_i (fun h1 => ?_) (fun h1 => ?_)
  ·have h1 : x ≠ y := by rintro rfl; simp at h1
   conv=>whnf
   rw [decide_eq_false (hne h1)]
   exact RetA_view 0 rfl ⟨⟨rfl, rfl⟩, rfl⟩
  have hxy : x.paints.length = y.paints.length := by
   have := h1
   simp at this; omega
  conv=>whnf
  refine LoopA_p (T := tys) tysOk (by exact drawsB_spec mixed tysOk (by decide +kernel)) (α := Nat) (fun k => ⟨[(2, .ptr 2 0), (3, .ptr 3 0), (5, .d (i64 i)), (6, .ptr 6 0), (7, .ptr 7 0), (8, .d (i64 k))], [(2, .box (.dd a.cells)), (3, .box (.dd b.cells)), (6, .box (.dd x.cells)), (7, .box (.dd y.cells))], st⟩) (fun k => k ≤ x.paints.length ∧ x.paints.take k = y.paints.take k) (fun k => x.paints.length - k) 0
   (Wk.sub ⟨(by first | rfl | (simp only [List.length_map]; rfl) | simp [PX.get]), (by first | rfl | (simp only [List.length_map]; rfl) | simp [PX.get]), (by first | rfl | (simp only [List.length_map]; rfl) | simp [PX.get]), (by first | rfl | (simp only [List.length_map]; rfl) | simp [PX.get]), (by first | rfl | (simp only [List.length_map]; rfl) | simp [PX.get]), (by first | rfl | (simp only [List.length_map]; rfl) | simp [PX.get]), trivial⟩ ⟨(by first | rfl | (simp only [List.length_map]; rfl) | simp [PX.get]), (by first | rfl | (simp only [List.length_map]; rfl) | simp [PX.get]), (by first | rfl | (simp only [List.length_map]; rfl) | simp [PX.get]), (by first | rfl | (simp only [List.length_map]; rfl) | simp [PX.get]), trivial⟩) (by simp) ?_
  rintro k ⟨hk, hke⟩
  conv=>whnf
  refine brk_i (fun hc2 => ?_) (fun hc2 => ?_)
  ·have hc2 : k < x.paints.length := by simpa using hc2
   have hc3 : k < y.paints.length := by omega
   conv=>whnf
   refine elemK_i x.paints[k].cells (by simp [hc2]) ?_
   conv=>whnf
   refine elemK_i y.paints[k].cells (by simp [hc3]) ?_
   conv=>whnf
   refine brk_i (fun h1 => ?_) (fun h1 => ?_)
   ·conv=>whnf
    have h1 : x.paints[k] ≠ y.paints[k] := by
     intro e
     rw [e] at h1
     simp at h1
    rw [decide_eq_false (hne (by rintro rfl; exact h1 rfl))]
    exact RetA_view 0 rfl ⟨⟨rfl, rfl⟩, rfl⟩
   ·have h1 : x.paints[k] = y.paints[k] := by
     cases hx : x.paints[k] with
     | mk p q =>
      cases hy : y.paints[k] with
      | mk u v =>
       rw [hx, hy] at h1
       simpa using h1
    refine arith_in (wrap_i64 (by (try dsimp only); omega)) ?_
    conv=>whnf
    exact ⟨k + 1, by omega, ⟨hc2, by rw [List.take_succ_eq_append_getElem hc2, List.take_succ_eq_append_getElem hc3, hke, h1]⟩, (Wk.sub ⟨(by first | rfl | (simp only [List.length_map]; rfl) | simp [PX.get]), (by first | rfl | (simp only [List.length_map]; rfl) | simp [PX.get]), (by first | rfl | (simp only [List.length_map]; rfl) | simp [PX.get]), (by first | rfl | (simp only [List.length_map]; rfl) | simp [PX.get]), (by first | rfl | (simp only [List.length_map]; rfl) | simp [PX.get]), (by first | rfl | (simp only [List.length_map]; rfl) | simp [PX.get]), trivial⟩ ⟨(by first | rfl | (simp only [List.length_map]; rfl) | simp [PX.get]), (by first | rfl | (simp only [List.length_map]; rfl) | simp [PX.get]), (by first | rfl | (simp only [List.length_map]; rfl) | simp [PX.get]), (by first | rfl | (simp only [List.length_map]; rfl) | simp [PX.get]), trivial⟩)⟩
  ·have hc2 : ¬ k < x.paints.length := by simpa using hc2
   rw [List.take_of_length_le (by omega), List.take_of_length_le (by omega)] at hke
   have hxe : x = y := by
    cases x; cases y
    simp only at n1 n2 hke
    rw [n1, n2, hke]
   conv=>whnf
   refine arith_in (wrap_i64 (by (try dsimp only); omega)) ?_
   conv=>whnf
   exact ⟨i + 1, by omega, ⟨hc, hnx hxe⟩, (Wk.sub ⟨(by first | rfl | (simp only [List.length_map]; rfl) | simp [PX.get]), (by first | rfl | (simp only [List.length_map]; rfl) | simp [PX.get]), (by first | rfl | (simp only [List.length_map]; rfl) | simp [PX.get]), trivial⟩ ⟨(by first | rfl | (simp only [List.length_map]; rfl) | simp [PX.get]), (by first | rfl | (simp only [List.length_map]; rfl) | simp [PX.get]), trivial⟩)⟩
 ·have hc : ¬ i < a.marks.length := by simpa using hc
  rw [List.take_of_length_le (by omega), List.take_of_length_le (by omega)] at he
  conv=>whnf
  refine LoopA_p (T := tys) tysOk (by exact drawsB_spec mixed tysOk (by decide +kernel)) (α := Nat) (fun i => ⟨[(2, .ptr 2 0), (3, .ptr 3 0), (9, .d (i64 i))], [(2, .box (.dd a.cells)), (3, .box (.dd b.cells))], st⟩) (fun i => i ≤ a.sands.length ∧ a.sands.take i = b.sands.take i) (fun i => a.sands.length - i) 0
   (Wk.sub ⟨(by first | rfl | (simp only [List.length_map]; rfl) | simp [PX.get]), (by first | rfl | (simp only [List.length_map]; rfl) | simp [PX.get]), (by first | rfl | (simp only [List.length_map]; rfl) | simp [PX.get]), trivial⟩ ⟨(by first | rfl | (simp only [List.length_map]; rfl) | simp [PX.get]), (by first | rfl | (simp only [List.length_map]; rfl) | simp [PX.get]), trivial⟩) (by simp) ?_
  rintro i ⟨hi, hes⟩
  conv=>whnf
  refine brk_i (fun hc => ?_) (fun hc => ?_)
  ·have hc : i < a.sands.length := by simpa using hc
   have hc' : i < b.sands.length := by omega
   have hpl := ha.corners a.sands[i] (List.getElem_mem hc)
   have hne : a.sands[i] ≠ b.sands[i] → a ≠ b := by rintro h rfl; exact h rfl
   have hnx : a.sands[i] = b.sands[i] → a.sands.take (i + 1) = b.sands.take (i + 1) := fun h1 => by rw [List.take_succ_eq_append_getElem hc, List.take_succ_eq_append_getElem hc', hes, h1]
   generalize hx : a.sands[i] = x at *
   generalize hy : b.sands[i] = y at *
   conv=>whnf
   refine elemK_i x.cells (by simp [hc, hx]) ?_
   conv=>whnf
   refine elemK_i y.cells (by simp [hc', hy]) ?_
   conv=>whnf
   refine brk_i (fun h1 => ?_) (fun h1 => ?_)
   ·have h1 : x ≠ y := by rintro rfl; simp at h1
    conv=>whnf
    rw [decide_eq_false (hne h1)]
    exact RetA_view 0 rfl ⟨⟨rfl, rfl⟩, rfl⟩
   have n1 : x.name = y.name := by simpa using h1
   conv=>whnf
   refine brk_i (fun h1 => ?_) (fun h1 => ?_)
   ·have h1 : x ≠ y := by rintro rfl; simp at h1
    conv=>whnf
    rw [decide_eq_false (hne h1)]
    exact RetA_view 0 rfl ⟨⟨rfl, rfl⟩, rfl⟩
   have n2 : x.moves = y.moves := by
    cases h4 : x.moves with
    | mk p q =>
     cases h5 : y.moves with
     | mk u v =>
      rw [h4, h5] at h1
      cases p; cases q; cases u; cases v
      simp at h1 ⊢
      exact h1
   conv=>whnf
   refine CallA_view (ch94 x.corners y.corners hpl) rfl 1 rfl ?_
   conv=>whnf
   refine brk_i (fun h1 => ?_) (fun h1 => ?_)
   ·have h1 : x ≠ y := by rintro rfl; simp at h1
    conv=>whnf
    rw [decide_eq_false (hne h1)]
    exact RetA_view 0 rfl ⟨⟨rfl, rfl⟩, rfl⟩
   have n3 : x.corners = y.corners := by simpa using h1
   have hxe : x = y := by
    cases x; cases y
    simp only at n1 n2 n3
    rw [n1, n2, n3]
   conv=>whnf
   refine arith_in (wrap_i64 (by (try dsimp only); omega)) ?_
   conv=>whnf
   exact ⟨i + 1, by omega, ⟨hc, hnx hxe⟩, (Wk.sub ⟨(by first | rfl | (simp only [List.length_map]; rfl) | simp [PX.get]), (by first | rfl | (simp only [List.length_map]; rfl) | simp [PX.get]), (by first | rfl | (simp only [List.length_map]; rfl) | simp [PX.get]), trivial⟩ ⟨(by first | rfl | (simp only [List.length_map]; rfl) | simp [PX.get]), (by first | rfl | (simp only [List.length_map]; rfl) | simp [PX.get]), trivial⟩)⟩
  ·have hc : ¬ i < a.sands.length := by simpa using hc
   rw [List.take_of_length_le (by omega), List.take_of_length_le (by omega)] at hes
   have hab : a = b := by
    cases a; cases b
    simp only at he hes
    rw [he, hes]
   conv=>whnf
   rw [decide_eq_true hab]
   exact RetA_view 0 rfl ⟨⟨rfl, rfl⟩, rfl⟩
end Go.PX
namespace Go.PX
open Go.Proofs
theorem e1 : vecV 31 = ⟨-195, 981⟩ ∧ vecE 31 = 0 := by decide +kernel
theorem e2 : onA exC ⟨150, 50⟩ = [0] ∧ onB exC ⟨150, 50⟩ = [0] ∧ openX exC ⟨150, 50⟩ = 0 := by decide +kernel
theorem e3 : onA exC ⟨205, 50⟩ = [] ∧ onB exC ⟨205, 50⟩ = [0] ∧ openX exC ⟨205, 50⟩ = 0 := by decide +kernel
theorem e4 : clearV exC ⟨0, 0⟩ 101 = (0, ⟨0, -5⟩) ∧ clearE exC ⟨0, 0⟩ 101 = 0 := by decide +kernel
theorem e5 : clearE exC ⟨0, 0⟩ 100 = 4 := by decide +kernel
theorem e6 : radV exC ⟨0, 0⟩ = 100 ∧ openX exC ⟨0, 0⟩ = 0 := by decide +kernel
theorem e7 : marC exC 50 0 = 2 ∧ marE exC 50 0 = 0 := by decide +kernel
theorem e8 : seenV exC 20 0 ⟨0, 0⟩ = 3 ∧ seenE exC 20 0 ⟨0, 0⟩ = 0 := by decide +kernel
theorem e9 : ptsL exC 20 1 ⟨⟨-2010, -1990⟩, ⟨0, 0⟩⟩ = [8, 24] ∧ ptsE exC 20 1 ⟨⟨-2010, -1990⟩, ⟨0, 0⟩⟩ = 0 := by decide +kernel
theorem e10 : writeX exC = exT ∧ (checkX exC).2.2 = 0 := by decide +kernel
theorem e11 : readX exT = (exC, 0) := by decide +kernel
theorem e12 : seenE exC 90 1 ⟨0, 0⟩ = 9 := by decide +kernel
end Go.PX
namespace Go.PX
open Go.Proofs
theorem a1 : FnV Tryz.prog 16 [i64 31] (.tup [Pt.d ⟨-195, 981⟩, i64 0]) := FnV.cast (ch16 31) (by rw [e1.1, e1.2])
theorem a2 : FnV Tryz.prog 23 [exC.d, Pt.d ⟨150, 50⟩] (.tup [intsD [0], intsD [0], i64 0]) := FnV.cast (ch23 exC ⟨150, 50⟩) (by rw [e2.1, e2.2.1, e2.2.2])
theorem a3 : FnV Tryz.prog 23 [exC.d, Pt.d ⟨205, 50⟩] (.tup [intsD [], intsD [0], i64 0]) := FnV.cast (ch23 exC ⟨205, 50⟩) (by rw [e3.1, e3.2.1, e3.2.2])
theorem a4 : FnV Tryz.prog 26 [exC.d, Pt.d ⟨0, 0⟩, i64 101] (.tup [i64 0, Pt.d ⟨0, -5⟩, i64 0]) := FnV.cast (ch26 exC ⟨0, 0⟩ 101) (by rw [e4.1, e4.2])
theorem a5 : FnV Tryz.prog 26 [exC.d, Pt.d ⟨0, 0⟩, i64 100] (.tup [i64 (clearV exC ⟨0, 0⟩ 100).1, (clearV exC ⟨0, 0⟩ 100).2.d, i64 4]) := FnV.cast (ch26 exC ⟨0, 0⟩ 100) (by rw [e5])
theorem a6 : FnV Tryz.prog 28 [exC.d, Pt.d ⟨0, 0⟩] (.tup [i64 100, i64 0]) := FnV.cast (ch28 exC ⟨0, 0⟩) (by rw [e6.1, e6.2])
theorem a7 : FnV Tryz.prog 30 [exC.d, i64 50, i64 0] (.tup [i64 2, i64 0]) := FnV.cast (ch30 exC 50 0) (by rw [e7.1, e7.2])
theorem a8 : FnV Tryz.prog 32 [exC.d, i64 20, i64 0, Pt.d ⟨0, 0⟩] (.tup [i64 3, i64 0]) := FnV.cast (ch32 exC 20 0 ⟨0, 0⟩) (by rw [e8.1, e8.2])
theorem a9 : FnV Tryz.prog 34 [exC.d, i64 20, i64 1, Box.d ⟨⟨-2010, -1990⟩, ⟨0, 0⟩⟩] (.tup [intsD [8, 24], i64 0]) := FnV.cast (ch34 exC 20 1 ⟨⟨-2010, -1990⟩, ⟨0, 0⟩⟩) (by rw [e9.1, e9.2])
theorem a10 : FnV Tryz.prog 36 [exC.d] (.tup [.str exT, i64 0]) := FnV.cast (ch36 exC) (by rw [e10.1, e10.2])
theorem a11 : FnV Tryz.prog 38 [.str exT] (.tup [exC.d, i64 0]) := FnV.cast (ch38 exT) (by rw [e11])
theorem a12 : FnV Tryz.prog 32 [exC.d, i64 90, i64 1, Pt.d ⟨0, 0⟩] (.tup [i64 (seenV exC 90 1 ⟨0, 0⟩), i64 9]) := FnV.cast (ch32 exC 90 1 ⟨0, 0⟩) (by rw [e12])
theorem few_ex : FewC exC := ⟨by decide, by decide, by decide, by decide⟩
theorem a13 : FnV Tryz.prog 40 [exC.d, exC.d] (.bool true) := FnV.cast (ch40 exC exC few_ex) (by simp)
theorem a14 : FnV Tryz.prog 18 [.str ⟨#[97, 45, 98]⟩] (.bool true) := FnV.cast (fn47 ⟨#[97, 45, 98]⟩) (congrArg D.bool (by decide +kernel))
theorem a15 : FnV Tryz.prog 18 [.str ⟨#[97, 45, 45, 98]⟩] (.bool false) := FnV.cast (fn47 ⟨#[97, 45, 45, 98]⟩) (congrArg D.bool (by decide +kernel))
theorem a16 (l : List Int) (hl : l.length < 1000000) : FnV Tryz.prog 25 [intsD l, intsD l] (.bool true) := FnV.cast (fn19 l l hl) (by simp)
set_option maxHeartbeats 8000000 in
theorem ch22 : FnV Tryz.prog 22 [] (.bool true) := by
 refine fnV_of mixed tysOk Tryz.func22 rfl (ft := ft22) 0 (by decide +kernel) (by rfl) fun {σ} Y st => ?_
 conv=>whnf
 repeat' (first
  | (refine CallA_v (a1) rfl rfl ?_; conv=>whnf)
  | (refine CallA_view (a1) rfl 1 rfl ?_; conv=>whnf)
  | (refine DrawCall_v (a1) rfl rfl ?_; conv=>whnf)
  | (refine DrawCall_view (a1) rfl 1 rfl ?_; conv=>whnf)
  | (refine CallA_v (ch41) rfl rfl ?_; conv=>whnf)
  | (refine CallA_view (ch41) rfl 1 rfl ?_; conv=>whnf)
  | (refine DrawCall_v (ch41) rfl rfl ?_; conv=>whnf)
  | (refine DrawCall_view (ch41) rfl 1 rfl ?_; conv=>whnf)
  | (refine CallA_v (ch42 _ _) rfl rfl ?_; conv=>whnf)
  | (refine CallA_view (ch42 _ _) rfl 1 rfl ?_; conv=>whnf)
  | (refine DrawCall_v (ch42 _ _) rfl rfl ?_; conv=>whnf)
  | (refine DrawCall_view (ch42 _ _) rfl 1 rfl ?_; conv=>whnf)
  | (refine CallA_v (ch52 _ _ _ _) rfl rfl ?_; conv=>whnf)
  | (refine CallA_view (ch52 _ _ _ _) rfl 1 rfl ?_; conv=>whnf)
  | (refine DrawCall_v (ch52 _ _ _ _) rfl rfl ?_; conv=>whnf)
  | (refine DrawCall_view (ch52 _ _ _ _) rfl 1 rfl ?_; conv=>whnf)
  | (refine CallA_v (a2) rfl rfl ?_; conv=>whnf)
  | (refine CallA_view (a2) rfl 1 rfl ?_; conv=>whnf)
  | (refine DrawCall_v (a2) rfl rfl ?_; conv=>whnf)
  | (refine DrawCall_view (a2) rfl 1 rfl ?_; conv=>whnf)
  | (refine CallA_v (a3) rfl rfl ?_; conv=>whnf)
  | (refine CallA_view (a3) rfl 1 rfl ?_; conv=>whnf)
  | (refine DrawCall_v (a3) rfl rfl ?_; conv=>whnf)
  | (refine DrawCall_view (a3) rfl 1 rfl ?_; conv=>whnf)
  | (refine CallA_v (a4) rfl rfl ?_; conv=>whnf)
  | (refine CallA_view (a4) rfl 1 rfl ?_; conv=>whnf)
  | (refine DrawCall_v (a4) rfl rfl ?_; conv=>whnf)
  | (refine DrawCall_view (a4) rfl 1 rfl ?_; conv=>whnf)
  | (refine CallA_v (a5) rfl rfl ?_; conv=>whnf)
  | (refine CallA_view (a5) rfl 1 rfl ?_; conv=>whnf)
  | (refine DrawCall_v (a5) rfl rfl ?_; conv=>whnf)
  | (refine DrawCall_view (a5) rfl 1 rfl ?_; conv=>whnf)
  | (refine CallA_v (a6) rfl rfl ?_; conv=>whnf)
  | (refine CallA_view (a6) rfl 1 rfl ?_; conv=>whnf)
  | (refine DrawCall_v (a6) rfl rfl ?_; conv=>whnf)
  | (refine DrawCall_view (a6) rfl 1 rfl ?_; conv=>whnf)
  | (refine CallA_v (a7) rfl rfl ?_; conv=>whnf)
  | (refine CallA_view (a7) rfl 1 rfl ?_; conv=>whnf)
  | (refine DrawCall_v (a7) rfl rfl ?_; conv=>whnf)
  | (refine DrawCall_view (a7) rfl 1 rfl ?_; conv=>whnf)
  | (refine CallA_v (a8) rfl rfl ?_; conv=>whnf)
  | (refine CallA_view (a8) rfl 1 rfl ?_; conv=>whnf)
  | (refine DrawCall_v (a8) rfl rfl ?_; conv=>whnf)
  | (refine DrawCall_view (a8) rfl 1 rfl ?_; conv=>whnf)
  | (refine CallA_v (a9) rfl rfl ?_; conv=>whnf)
  | (refine CallA_view (a9) rfl 1 rfl ?_; conv=>whnf)
  | (refine DrawCall_v (a9) rfl rfl ?_; conv=>whnf)
  | (refine DrawCall_view (a9) rfl 1 rfl ?_; conv=>whnf)
  | (refine CallA_v (a10) rfl rfl ?_; conv=>whnf)
  | (refine CallA_view (a10) rfl 1 rfl ?_; conv=>whnf)
  | (refine DrawCall_v (a10) rfl rfl ?_; conv=>whnf)
  | (refine DrawCall_view (a10) rfl 1 rfl ?_; conv=>whnf)
  | (refine CallA_v (ch69) rfl rfl ?_; conv=>whnf)
  | (refine CallA_view (ch69) rfl 1 rfl ?_; conv=>whnf)
  | (refine DrawCall_v (ch69) rfl rfl ?_; conv=>whnf)
  | (refine DrawCall_view (ch69) rfl 1 rfl ?_; conv=>whnf)
  | (refine CallA_v (a11) rfl rfl ?_; conv=>whnf)
  | (refine CallA_view (a11) rfl 1 rfl ?_; conv=>whnf)
  | (refine DrawCall_v (a11) rfl rfl ?_; conv=>whnf)
  | (refine DrawCall_view (a11) rfl 1 rfl ?_; conv=>whnf)
  | (refine CallA_v (a12) rfl rfl ?_; conv=>whnf)
  | (refine CallA_view (a12) rfl 1 rfl ?_; conv=>whnf)
  | (refine DrawCall_v (a12) rfl rfl ?_; conv=>whnf)
  | (refine DrawCall_view (a12) rfl 1 rfl ?_; conv=>whnf)
  | (refine CallA_v (a14) rfl rfl ?_; conv=>whnf)
  | (refine CallA_view (a14) rfl 1 rfl ?_; conv=>whnf)
  | (refine DrawCall_v (a14) rfl rfl ?_; conv=>whnf)
  | (refine DrawCall_view (a14) rfl 1 rfl ?_; conv=>whnf)
  | (refine CallA_v (a15) rfl rfl ?_; conv=>whnf)
  | (refine CallA_view (a15) rfl 1 rfl ?_; conv=>whnf)
  | (refine DrawCall_v (a15) rfl rfl ?_; conv=>whnf)
  | (refine DrawCall_view (a15) rfl 1 rfl ?_; conv=>whnf)
  | (refine CallA_v (a16 [0] (by decide)) rfl rfl ?_; conv=>whnf)
  | (refine CallA_view (a16 [0] (by decide)) rfl 1 rfl ?_; conv=>whnf)
  | (refine DrawCall_v (a16 [0] (by decide)) rfl rfl ?_; conv=>whnf)
  | (refine DrawCall_view (a16 [0] (by decide)) rfl 1 rfl ?_; conv=>whnf)
  | (refine CallA_v (a16 [8, 24] (by decide)) rfl rfl ?_; conv=>whnf)
  | (refine CallA_view (a16 [8, 24] (by decide)) rfl 1 rfl ?_; conv=>whnf)
  | (refine DrawCall_v (a16 [8, 24] (by decide)) rfl rfl ?_; conv=>whnf)
  | (refine DrawCall_view (a16 [8, 24] (by decide)) rfl 1 rfl ?_; conv=>whnf)
  | (refine CallA_v (a13) rfl rfl ?_; conv=>whnf)
  | (refine CallA_view (a13) rfl 1 rfl ?_; conv=>whnf)
  | (refine DrawCall_v (a13) rfl rfl ?_; conv=>whnf)
  | (refine DrawCall_view (a13) rfl 1 rfl ?_; conv=>whnf)
  | (refine arith_in (wrap_i64 (by (try dsimp only); omega)) ?_; conv=>whnf)
  | (refine elemK_nat (by assumption) ?_; conv=>whnf)
  | (refine ownK_whole (by first | rfl | assumption | (simp [Els.len]; done) | (simp [Els.len]; omega)) ?_; conv=>whnf)
  | (refine chk_i (by first | (exact decide_eq_true (by (try simp only [List.length_map]); omega)) | (simp [Els.len, Els.cons, V.cells, Els.toV, injL]; done) | (simp [Els.len, Els.cons, V.cells, Els.toV, injL]; omega)) ?_; conv=>whnf)
  | fail)
 exact RetA_view 0 rfl ⟨⟨rfl, rfl⟩, rfl⟩
end Go.PX
namespace Go.PX
open Go.Proofs
def atP (l : List Pt) (i : Nat) : Pt := (l[i]?).getD ⟨0, 0⟩
def cornerOk (l : List Pt) (i n : Nat) : Bool := decide (n = i) || decide (n = (i + 1) % l.length) || decide (0 < leftF ((atP l ((i + 1) % l.length)).sub (atP l i)) ((atP l n).sub (atP l i)))
def rowOk (l : List Pt) (i : Nat) : Bool := (List.range l.length).all (cornerOk l i)
def roundR (l : List Pt) : Bool := (List.range l.length).all (rowOk l)
theorem atP_get {l : List Pt} {i : Nat} (h : i < l.length) : l[i]? = some (atP l i) := by
 unfold atP
 simp [h]
theorem atP_mem {l : List Pt} {i : Nat} (h : i < l.length) : atP l i ∈ l := by
 unfold atP
 rw [List.getElem?_eq_getElem h]
 exact List.getElem_mem h
theorem range_get {n i q : Nat} (h : (List.range n)[i]? = some q) : q = i := by
 have hi : i < n := by simpa using (List.getElem?_eq_some_iff.1 h).1
 rw [List.getElem?_range hi] at h
 cases h; rfl
set_option maxHeartbeats 2000000 in
theorem ch106 (l : List Pt) (hl : l.length < 1000) (hp : ∀ p ∈ l, Pin 10000 p) : FnV Tryz.prog 106 [ptsD l] (.bool (roundR l)) := by
 refine fnV_of mixed tysOk Tryz.func106 rfl (ft := ft106) 1 (by decide +kernel) (by rfl) fun {σ} Y st => ?_
 conv=>whnf
 refine LoopA_i (T := tys) tysOk (by exact drawsB_spec mixed tysOk (by decide +kernel)) (List.range l.length) (fun i (_ : Unit) => ⟨[(0, .d (ptsD l)), (3, .d (i64 i))], [], st⟩) (fun i r _ => roundR l = r.all (rowOk l)) () (Wk.sub ⟨(by first | rfl | (simp only [List.length_map]; rfl) | simp [PX.get]), (by first | rfl | (simp only [List.length_map]; rfl) | simp [PX.get]), trivial⟩ trivial) rfl ?_ ?_
 ·rintro i q r _ hqi hi hr hk
  have hq := range_get hqi
  subst hq
  have hil : q < l.length := by simpa using hi
  rw [List.all_cons] at hk
  conv=>whnf
  refine brk_i (fun _ => ?_) (fun h => absurd h (by simp; omega))
  conv=>whnf
  refine arith_in (wrap_i64 (by (try dsimp only); omega)) ?_
  conv=>whnf
  have hk0 : ((q : Int) + 1).tmod (((l.map Pt.cells).length : Nat) : Int) = (((q + 1) % l.length : Nat) : Int) := by
   rw [List.length_map, Int.tmod_eq_emod_of_nonneg (by omega)]
   first | exact (Int.natCast_mod _ _).symm | exact (Int.natCast_emod _ _).symm | norm_cast
  rw [hk0]
  have hkl : (q + 1) % l.length < l.length := Nat.mod_lt _ (by omega)
  generalize hkk : (q + 1) % l.length = k at hkl
  refine brk_i (fun _ => ?_) (fun h => absurd h (by simp; rintro rfl; simp at hil))
  conv=>whnf
  refine LoopA_i (T := tys) tysOk (by exact drawsB_spec mixed tysOk (by decide +kernel)) (List.range l.length) (fun n (_ : Unit) => ⟨[(0, .d (ptsD l)), (3, .d (i64 q)), (4, .d (i64 k)), (5, .d (i64 n))], [], st⟩) (fun n r _ => rowOk l q = r.all (cornerOk l q)) () (Wk.sub ⟨(by first | rfl | (simp only [List.length_map]; rfl) | simp [PX.get]), (by first | rfl | (simp only [List.length_map]; rfl) | simp [PX.get]), (by first | rfl | (simp only [List.length_map]; rfl) | simp [PX.get]), (by first | rfl | (simp only [List.length_map]; rfl) | simp [PX.get]), trivial⟩ trivial) rfl ?_ ?_
  ·rintro n n' r2 _ hni hn hr2 hk2
   have hq2 := range_get hni
   subst hq2
   have hnl : n' < l.length := by simpa using hn
   rw [List.all_cons] at hk2
   have hpk := hp _ (atP_mem hkl)
   have hpq := hp _ (atP_mem hil)
   have hpn := hp _ (atP_mem hnl)
   conv=>whnf
   refine brk_i (fun _ => ?_) (fun h => absurd h (by simp; omega))
   conv=>whnf
   have hcor : cornerOk l q n' = (decide (n' = q) || decide (n' = k) || decide (0 < leftF ((atP l k).sub (atP l q)) ((atP l n').sub (atP l q)))) := by unfold cornerOk; rw [hkk]
   refine brk_i (fun h1 => ?_) (fun h1 => ?_)
   ·have h1 : n' ≠ q := by simp at h1; omega
    conv=>whnf
    refine brk_i (fun h2 => ?_) (fun h2 => ?_)
    ·have h2 : n' ≠ k := by simp at h2; omega
     rw [decide_eq_false h1, decide_eq_false h2, Bool.false_or, Bool.false_or] at hcor
     conv=>whnf
     refine elemK_nat (atP_get hkl) ?_
     conv=>whnf
     refine elemK_nat (atP_get hil) ?_
     conv=>whnf
     refine DrawCall_v (ds := [(atP l k).d, (atP l q).d]) (ch84 (atP l k) (atP l q) (hpk.mono (by omega)) (hpq.mono (by omega))) rfl rfl ?_
     conv=>whnf
     refine elemK_nat (atP_get hnl) ?_
     conv=>whnf
     refine elemK_nat (atP_get hil) ?_
     conv=>whnf
     refine DrawCall_v (ds := [(atP l n').d, (atP l q).d]) (ch84 (atP l n') (atP l q) (hpn.mono (by omega)) (hpq.mono (by omega))) rfl rfl ?_
     conv=>whnf
     refine DrawCall_v (ds := [((atP l k).sub (atP l q)).d, ((atP l n').sub (atP l q)).d]) (ch95 _ _ ((hpk.sub hpq).mono (by omega)) ((hpn.sub hpq).mono (by omega))) rfl rfl ?_
     conv=>whnf
     refine brk_i (fun h3 => ?_) (fun h3 => ?_)
     ·have h3 : leftF ((atP l k).sub (atP l q)) ((atP l n').sub (atP l q)) ≤ 0 := of_decide_eq_true h3
      rw [decide_eq_false (by omega)] at hcor
      rw [hcor, Bool.false_and] at hk2
      rw [hk2, Bool.false_and] at hk
      rw [hk]
      conv=>whnf
      exact RetA_view 0 rfl ⟨⟨rfl, rfl⟩, rfl⟩
     ·have h3 : ¬ leftF ((atP l k).sub (atP l q)) ((atP l n').sub (atP l q)) ≤ 0 := of_decide_eq_false h3
      rw [decide_eq_true (by omega)] at hcor
      rw [hcor, Bool.true_and] at hk2
      conv=>whnf
      refine arith_in (wrap_i64 (by (try dsimp only); omega)) ?_
      conv=>whnf
      exact ⟨(), hk2, Wk.sub ⟨rfl, rfl, rfl, congrArg (fun z => some (V.d (i64 z))) (by omega), trivial⟩ trivial⟩
    ·have h2 : n' = k := by simp at h2; omega
     rw [decide_eq_true h2, Bool.or_true, Bool.true_or] at hcor
     rw [hcor, Bool.true_and] at hk2
     conv=>whnf
     refine arith_in (wrap_i64 (by (try dsimp only); omega)) ?_
     conv=>whnf
     exact ⟨(), hk2, Wk.sub ⟨rfl, rfl, rfl, congrArg (fun z => some (V.d (i64 z))) (by omega), trivial⟩ trivial⟩
   ·have h1 : n' = q := by simp at h1; omega
    rw [decide_eq_true h1, Bool.true_or, Bool.true_or] at hcor
    rw [hcor, Bool.true_and] at hk2
    conv=>whnf
    refine arith_in (wrap_i64 (by (try dsimp only); omega)) ?_
    conv=>whnf
    exact ⟨(), hk2, Wk.sub ⟨rfl, rfl, rfl, congrArg (fun z => some (V.d (i64 z))) (by omega), trivial⟩ trivial⟩
  ·rintro _ hk2
   conv=>whnf
   refine brk_i (fun h => absurd h (by simp)) (fun _ => ?_)
   rw [hk2] at hk
   conv=>whnf
   refine arith_in (wrap_i64 (by (try dsimp only); omega)) ?_
   conv=>whnf
   exact ⟨(), hk, Wk.sub ⟨rfl, congrArg (fun z => some (V.d (i64 z))) (by omega), trivial⟩ trivial⟩
 ·rintro _ hk
  conv=>whnf
  refine brk_i (fun h => absurd h (by simp)) (fun _ => ?_)
  conv=>whnf
  rw [hk]
  exact RetA_view 0 rfl ⟨⟨rfl, rfl⟩, rfl⟩
end Go.PX
namespace Go.PX
open Go.Proofs
def sandR (s : Sand) : Int :=
 if inB s.corners.length 3 8 then (if (s.corners.all fun p => withinB 10000 p) then (if boxE 500 s.moves = 0 then (if roundR s.corners then 0 else 9) else boxE 500 s.moves) else 7) else 3
set_option maxHeartbeats 2000000 in
theorem ch68 (s : Sand) : FnV Tryz.prog 68 [s.d] (i64 (sandR s)) := by
 refine fnV_of mixed tysOk Tryz.func68 rfl (ft := ft68) 1 (by decide +kernel) (by rfl) fun {σ} Y st => ?_
 conv=>whnf
 refine CallA_view (fn118 s.corners.length 3 8) rfl 1 (by simp; rfl) ?_
 cases h1 : inB (s.corners.length : Int) 3 8 with
 | false =>
  have he : sandR s = 3 := by unfold sandR; rw [h1]; rfl
  rw [he]
  conv=>whnf
  exact RetA_view 0 rfl ⟨⟨rfl, rfl⟩, rfl⟩
 | true =>
  have h1b := h1
  rw [inB_iff] at h1
  have he : sandR s = if (s.corners.all fun p => withinB 10000 p) then (if boxE 500 s.moves = 0 then (if roundR s.corners then 0 else 9) else boxE 500 s.moves) else 7 := by unfold sandR; rw [h1b, if_pos rfl]
  conv=>whnf
  refine LoopA_i (T := tys) tysOk (by exact drawsB_spec mixed tysOk (by decide +kernel)) s.corners (fun i (_ : Unit) => ⟨[(1, .ptr 1 0), (3, .d (i64 i))], [(1, .box (.dd s.cells))], st⟩) (fun i r _ => (s.corners.all fun p => withinB 10000 p) = r.all fun p => withinB 10000 p) () (Wk.sub ⟨(by first | rfl | (simp only [List.length_map]; rfl) | simp [PX.get]), (by first | rfl | (simp only [List.length_map]; rfl) | simp [PX.get]), trivial⟩ ⟨(by first | rfl | (simp only [List.length_map]; rfl) | simp [PX.get]), trivial⟩) rfl ?_ ?_
  ·rintro i p r _ hpi hi hr hk
   rw [List.all_cons] at hk
   conv=>whnf
   refine brk_i (fun _ => ?_) (fun h => absurd hi (by simpa using h))
   conv=>whnf
   refine elemK_nat hpi ?_
   conv=>whnf
   refine CallA_view (ds := [p.d, i64 10000]) (ch55 p 10000 (by omega)) rfl 1 rfl ?_
   cases hw : withinB 10000 p with
   | false =>
    rw [hw, Bool.false_and] at hk
    rw [hk, if_neg (by simp)] at he
    rw [he]
    conv=>whnf
    exact RetA_view 0 rfl ⟨⟨rfl, rfl⟩, rfl⟩
   | true =>
    rw [hw, Bool.true_and] at hk
    conv=>whnf
    refine arith_in (wrap_i64 (by (try dsimp only); omega)) ?_
    conv=>whnf
    exact ⟨(), hk, (Wk.sub ⟨(by first | rfl | (simp only [List.length_map]; rfl) | simp [PX.get]), (by first | rfl | (simp only [List.length_map]; rfl) | simp [PX.get]), trivial⟩ ⟨(by first | rfl | (simp only [List.length_map]; rfl) | simp [PX.get]), trivial⟩)⟩
  ·rintro _ hk
   have hk : (s.corners.all fun p => withinB 10000 p) = true := hk
   rw [hk, if_pos rfl] at he
   have hp : ∀ p ∈ s.corners, Pin 10000 p := by
    intro p hp
    exact within_iff.1 (List.all_eq_true.1 hk p hp)
   conv=>whnf
   refine brk_i (fun h => absurd h (by simp)) (fun _ => ?_)
   conv=>whnf
   refine CallA_view (ds := [s.moves.d, i64 (-500), i64 500]) (ch56 s.moves 500 (by omega)) rfl 1 rfl ?_
   conv=>whnf
   refine brk_i (fun h3 => ?_) (fun h3 => ?_)
   ·have h3 : boxE 500 s.moves = 0 := by simpa using h3
    rw [if_pos h3] at he
    rw [h3]
    conv=>whnf
    refine CallA_view (ds := [ptsD s.corners]) (ch106 s.corners (by omega) hp) rfl 1 rfl ?_
    cases hr : roundR s.corners with
    | true =>
     rw [hr, if_pos rfl] at he
     rw [he]
     conv=>whnf
     exact RetA_view 0 rfl ⟨⟨rfl, rfl⟩, rfl⟩
    | false =>
     rw [hr, if_neg (by simp)] at he
     rw [he]
     conv=>whnf
     exact RetA_view 0 rfl ⟨⟨rfl, rfl⟩, rfl⟩
   ·have h3 : ¬ boxE 500 s.moves = 0 := by simpa using h3
    rw [if_neg h3] at he
    rw [he]
    conv=>whnf
    exact RetA_view 0 rfl ⟨⟨rfl, rfl⟩, rfl⟩
end Go.PX
namespace Go.PX
open Go.Proofs
def markER (ns : List ByteArray) (m : Mark) : Int :=
 if freshF m.name ns = 0 then (if farM m then 7 else paintE m.paints) else freshF m.name ns
def marksR : List ByteArray → Int → List Mark → (Int × Int) ⊕ List ByteArray
 | ns, _, [] => .inr ns
 | ns, i, m :: r => if markER ns m = 0 then marksR (ns ++ [m.name]) (i + 1) r else .inl (i, markER ns m)
def sandER (ns : List ByteArray) (s : Sand) : Int := if freshF s.name ns = 0 then sandR s else freshF s.name ns
def sandsR : List ByteArray → Int → List Sand → Int × Int × Int
 | _, _, [] => (0, 0, 0)
 | ns, i, s :: r => if sandER ns s = 0 then sandsR (ns ++ [s.name]) (i + 1) r else (2, i, sandER ns s)
def checkR (c : Cht) : Int × Int × Int :=
 if c.marks.length > 8 then (1, 0, 3) else match marksR [] 0 c.marks with
 | .inl (i, e) => (1, i, e)
 | .inr ns => if c.sands.length > 4 then (2, 0, 3) else sandsR ns 0 c.sands
def strsC (l : List ByteArray) : List (List D) := l.map fun s => [.str s]
set_option maxHeartbeats 4000000 in
theorem ch21 (c : Cht) : FnV Tryz.prog 21 [c.d] (.tup [i64 (checkR c).1, i64 (checkR c).2.1, i64 (checkR c).2.2]) := by
 refine fnV_of mixed tysOk Tryz.func21 rfl (ft := ft21) 1 (by decide +kernel) (by rfl) fun {σ} Y st => ?_
 conv=>whnf
 refine brk_i (fun h0 => ?_) (fun h0 => ?_)
 ·have h0 : c.marks.length > 8 := by have := of_decide_eq_true h0; simp at this; omega
  have he : checkR c = (1, 0, 3) := by unfold checkR; rw [if_pos h0]
  rw [he]
  conv=>whnf
  exact RetA_view 0 rfl ⟨⟨rfl, rfl⟩, rfl⟩
 have h0 : ¬ c.marks.length > 8 := by have := of_decide_eq_false h0; simp at this; omega
 have he : checkR c = match marksR [] 0 c.marks with
  | .inl (i, e) => (1, i, e)
  | .inr ns => if c.sands.length > 4 then (2, 0, 3) else sandsR ns 0 c.sands := by unfold checkR; rw [if_neg h0]
 conv=>whnf
 refine LoopA_i (T := tys) tysOk (by exact drawsB_spec mixed tysOk (by decide +kernel)) c.marks (fun i (ns : List ByteArray) => ⟨[(1, .ptr 1 0), (5, .sl 900001 1 0 ns.length), (6, .d (i64 i))], [(1, .box (.dd c.cells)), (900001, .arr 1 (.dd (strsC ns)))], st⟩) (fun i r ns => ns.length ≤ i ∧ marksR [] 0 c.marks = marksR ns i r) [] ((Wk.born 5 900001 1 rfl rfl rfl).trans (Wk.sub ⟨(by first | rfl | (simp only [List.length_map]; rfl) | simp [PX.get]), (by first | rfl | (simp only [List.length_map]; rfl) | simp [PX.get]), (by first | rfl | (simp only [List.length_map]; rfl) | simp [PX.get]), trivial⟩ ⟨(by first | rfl | (simp only [List.length_map]; rfl) | simp [PX.get]), (by first | rfl | (simp only [List.length_map]; rfl) | simp [PX.get]), trivial⟩)) ⟨by simp, rfl⟩ ?_ ?_
 ·rintro i m r ns hmi hi hr ⟨hns, hk⟩
  rw [marksR] at hk
  conv=>whnf
  refine brk_i (fun _ => ?_) (fun h => absurd hi (by simpa using h))
  conv=>whnf
  refine elemK_nat hmi ?_
  conv=>whnf
  refine CallA_view (fn91 m.name ns (by omega)) rfl 1 (viewL_cons rfl (viewL_cons (viewV_sl rfl (by simp [strsC])) rfl)) ?_
  conv=>whnf
  refine ownK_whole rfl ?_
  conv=>whnf
  refine ownK_whole (by simp [Els.len, strsC]) ?_
  conv=>whnf
  refine chk_i (decide_eq_true (by show ((strsC ns).length + 1) * 16 ≤ _; simp only [strsC, List.length_map]; omega)) ?_
  conv=>whnf
  by_cases hf : freshF m.name ns = 0
  case neg =>
   have hm : markER ns m = freshF m.name ns := by unfold markER; rw [if_neg hf]
   rw [hm, if_neg hf] at hk
   have he2 : checkR c = (1, (i : Int), freshF m.name ns) := by rw [he, hk]
   rw [he2, decide_eq_false hf]
   conv=>whnf
   refine brk_i (fun h => absurd h (by simp [hf])) (fun _ => ?_)
   conv=>whnf
   refine brk_i (fun _ => ?_) (fun h => absurd h (by simp [hf]))
   conv=>whnf
   exact RetA_view 0 rfl ⟨⟨rfl, rfl⟩, rfl⟩
  rw [decide_eq_true hf]
  conv=>whnf
  refine CallA_view (ds := [m.at'.d, i64 30000]) (ch55 m.at' 30000 (by omega)) rfl 1 rfl ?_
  cases hw : withinB 30000 m.at' with
  | false =>
   have hm : markER ns m = 7 := by unfold markER farM; rw [if_pos hf, hw]; rfl
   rw [hm, if_neg (by simp)] at hk
   have he2 : checkR c = (1, (i : Int), 7) := by rw [he, hk]
   rw [he2]
   conv=>whnf
   exact RetA_view 0 rfl ⟨⟨rfl, rfl⟩, rfl⟩
  | true =>
   have hm : markER ns m = paintE m.paints := by unfold markER farM; rw [if_pos hf, hw]; rfl
   rw [hm] at hk
   conv=>whnf
   refine brk_i (fun _ => ?_) (fun h => absurd h (by simp [hf]))
   conv=>whnf
   refine CallA_v (ch67 m.paints) rfl rfl ?_
   conv=>whnf
   refine brk_i (fun hp => ?_) (fun hp => ?_)
   ·have hp : ¬ paintE m.paints = 0 := by simpa using hp
    rw [if_neg hp] at hk
    have he2 : checkR c = (1, (i : Int), paintE m.paints) := by rw [he, hk]
    rw [he2]
    conv=>whnf
    exact RetA_view 0 rfl ⟨⟨rfl, rfl⟩, rfl⟩
   ·have hp : paintE m.paints = 0 := by simpa using hp
    rw [if_pos hp] at hk
    conv=>whnf
    refine arith_in (wrap_i64 (by (try dsimp only); omega)) ?_
    conv=>whnf
    exact ⟨ns ++ [m.name], ⟨by simp; omega, hk⟩, (Wk.move 35 900001 rfl rfl).trans (Wk.sub ⟨rfl, congrArg (fun z : Nat => some (V.sl 900001 1 0 z)) (by simp [Els.len, strsC]), congrArg (fun z => some (V.d (i64 z))) (by omega), trivial⟩ ⟨rfl, congrArg (fun z => some (Obj.arr 1 (.dd z))) (by simp [strsC]), trivial⟩)⟩
 ·rintro ns ⟨hns, hk⟩
  have he2 : checkR c = if c.sands.length > 4 then (2, 0, 3) else sandsR ns 0 c.sands := by rw [he, hk, marksR]
  conv=>whnf
  refine brk_i (fun h => absurd h (by simp)) (fun _ => ?_)
  conv=>whnf
  refine brk_i (fun h1 => ?_) (fun h1 => ?_)
  ·have h1 : c.sands.length > 4 := by have := of_decide_eq_true h1; simp at this; omega
   rw [if_pos h1] at he2
   rw [he2]
   conv=>whnf
   exact RetA_view 0 rfl ⟨⟨rfl, rfl⟩, rfl⟩
  have h1 : ¬ c.sands.length > 4 := by have := of_decide_eq_false h1; simp at this; omega
  rw [if_neg h1] at he2
  conv=>whnf
  refine LoopA_i (T := tys) tysOk (by exact drawsB_spec mixed tysOk (by decide +kernel)) c.sands (fun i (ns : List ByteArray) => ⟨[(1, .ptr 1 0), (5, .sl 900001 1 0 ns.length), (9, .d (i64 i))], [(1, .box (.dd c.cells)), (900001, .arr 1 (.dd (strsC ns)))], st⟩) (fun i r ns => ns.length ≤ 8 + i ∧ checkR c = sandsR ns i r) ns (Wk.sub ⟨(by first | rfl | (simp only [List.length_map]; rfl) | simp [PX.get]), (by first | rfl | (simp only [List.length_map]; rfl) | simp [PX.get]), (by first | rfl | (simp only [List.length_map]; rfl) | simp [PX.get]), trivial⟩ ⟨(by first | rfl | (simp only [List.length_map]; rfl) | simp [PX.get]), (by first | rfl | (simp only [List.length_map]; rfl) | simp [PX.get]), trivial⟩) ⟨by omega, he2⟩ ?_ ?_
  ·rintro i m r ns hmi hi hr ⟨hns, hk⟩
   rw [sandsR] at hk
   conv=>whnf
   refine brk_i (fun _ => ?_) (fun h => absurd hi (by simpa using h))
   conv=>whnf
   refine elemK_nat hmi ?_
   conv=>whnf
   refine CallA_view (fn91 m.name ns (by omega)) rfl 1 (viewL_cons rfl (viewL_cons (viewV_sl rfl (by simp [strsC])) rfl)) ?_
   conv=>whnf
   refine elemK_nat hmi ?_
   conv=>whnf
   refine ownK_whole rfl ?_
   conv=>whnf
   refine ownK_whole (by simp [Els.len, strsC]) ?_
   conv=>whnf
   refine chk_i (decide_eq_true (by show ((strsC ns).length + 1) * 16 ≤ _; simp only [strsC, List.length_map]; omega)) ?_
   conv=>whnf
   by_cases hf : freshF m.name ns = 0
   case neg =>
    have hm : sandER ns m = freshF m.name ns := by unfold sandER; rw [if_neg hf]
    rw [hm, if_neg hf] at hk
    rw [hk, decide_eq_false hf]
    conv=>whnf
    refine brk_i (fun _ => ?_) (fun h => absurd h (by simp [hf]))
    conv=>whnf
    exact RetA_view 0 rfl ⟨⟨rfl, rfl⟩, rfl⟩
   have hm : sandER ns m = sandR m := by unfold sandER; rw [if_pos hf]
   rw [hm] at hk
   rw [decide_eq_true hf]
   conv=>whnf
   refine elemK_nat hmi ?_
   conv=>whnf
   refine CallA_view (ds := [m.d]) (ch68 m) rfl 1 rfl ?_
   conv=>whnf
   refine brk_i (fun hp => ?_) (fun hp => ?_)
   ·have hp : ¬ sandR m = 0 := by simpa using hp
    rw [if_neg hp] at hk
    rw [hk]
    conv=>whnf
    exact RetA_view 0 rfl ⟨⟨rfl, rfl⟩, rfl⟩
   ·have hp : sandR m = 0 := by simpa using hp
    rw [if_pos hp] at hk
    conv=>whnf
    refine arith_in (wrap_i64 (by (try dsimp only); omega)) ?_
    conv=>whnf
    exact ⟨ns ++ [m.name], ⟨by simp; omega, hk⟩, (Wk.move 80 900001 rfl rfl).trans (Wk.sub ⟨rfl, congrArg (fun z : Nat => some (V.sl 900001 1 0 z)) (by simp [Els.len, strsC]), congrArg (fun z => some (V.d (i64 z))) (by omega), trivial⟩ ⟨rfl, congrArg (fun z => some (Obj.arr 1 (.dd z))) (by simp [strsC]), trivial⟩)⟩
  ·rintro ns ⟨hns, hk⟩
   rw [sandsR] at hk
   rw [hk]
   conv=>whnf
   refine brk_i (fun h => absurd h (by simp)) (fun _ => ?_)
   conv=>whnf
   exact RetA_view 0 rfl ⟨⟨rfl, rfl⟩, rfl⟩
end Go.PX
namespace Go.PX
open Go.Proofs
theorem rightL_count (x : Pt × Pt) : ∀ (l : List Pt) (n : Int), rightL x l n = n + (l.countP fun p => decide (leftF x.2 (p.sub x.1) ≤ 0) : Nat)
 | [], n => by simp [rightL]
 | p :: r, n => by
  rw [rightL, rightL_count x r, List.countP_cons]
  by_cases h : leftF x.2 (p.sub x.1) ≤ 0
  ·simp [h]; omega
  ·simp [h]
theorem map_atP (l : List Pt) : (List.range l.length).map (atP l) = l := by
 apply List.ext_getElem
 ·simp
 ·intro i h1 h2
  simp [atP, h2]
theorem count_two {l : List Nat} (hn : l.Nodup) {i k : Nat} (hi : i ∈ l) (hk : k ∈ l) (hik : i ≠ k) (g : Nat → Bool) (gi : g i = true) (gk : g k = true) : l.countP g = 2 ↔ ∀ n ∈ l, n ≠ i → n ≠ k → g n = false := by
 have hk1 : k ∈ l.erase i := (List.mem_erase_of_ne (Ne.symm hik)).2 hk
 have e1 : l.countP g = (l.erase i).countP g + 1 := by
  rw [(List.perm_cons_erase hi).countP_eq g, List.countP_cons_of_pos gi]
 have e2 : (l.erase i).countP g = ((l.erase i).erase k).countP g + 1 := by
  rw [(List.perm_cons_erase hk1).countP_eq g, List.countP_cons_of_pos gk]
 have e3 : l.countP g = 2 ↔ ((l.erase i).erase k).countP g = 0 := by omega
 rw [e3, List.countP_eq_zero]
 have hn1 : (l.erase i).Nodup := hn.erase i
 constructor
 ·intro h n hn' h1 h2
  have := h n (hn1.mem_erase_iff.2 ⟨h2, hn.mem_erase_iff.2 ⟨h1, hn'⟩⟩)
  simpa using this
 ·intro h n hn'
  obtain ⟨h2, h3⟩ := hn1.mem_erase_iff.1 hn'
  obtain ⟨h1, h4⟩ := hn.mem_erase_iff.1 h3
  simp [h n h4 h1 h2]
theorem side_row {s : Sand} (h3 : 3 ≤ s.corners.length) {i k : Nat} (hi : i < s.corners.length) (hk : k < s.corners.length) (hik : i ≠ k) (hki : (i + 1) % s.corners.length = k) :
  sideOk s (atP s.corners i, (atP s.corners k).sub (atP s.corners i)) = rowOk s.corners i := by
 have hz : ∀ b : Pt, leftF b ⟨0, 0⟩ = 0 := fun b => by simp [leftF]
 have hb : ∀ b : Pt, leftF b b = 0 := fun b => by simp [leftF, Int.mul_comm]
 have hs : ∀ b : Pt, b.sub b = ⟨0, 0⟩ := fun b => by simp [Pt.sub]
 generalize hl : s.corners = l at *
 generalize hbb : (atP l k).sub (atP l i) = b
 let g : Nat → Bool := fun n => decide (leftF b ((atP l n).sub (atP l i)) ≤ 0)
 have gi : g i = true := by show decide _ = true; rw [hs, hz]; rfl
 have gk : g k = true := by show decide _ = true; rw [hbb, hb]; rfl
 have hcnt : rightL (atP l i, b) l 0 = 2 ↔ ∀ n < l.length, n ≠ i → n ≠ k → g n = false := by
  have h1 := rightL_count (atP l i, b) l 0
  have h2 : (l.countP fun p => decide (leftF b (p.sub (atP l i)) ≤ 0)) = (List.range l.length).countP g := by
   have h5 := List.countP_map (p := fun p => decide (leftF b (p.sub (atP l i)) ≤ 0)) (f := atP l) (l := List.range l.length)
   rw [map_atP] at h5
   exact h5
  have h3 := count_two (List.nodup_range (n := l.length)) (List.mem_range.2 hi) (List.mem_range.2 hk) hik g gi gk
  rw [h1, h2]
  constructor
  ·intro h n hn
   exact h3.1 (by omega) n (List.mem_range.2 hn)
  ·intro h
   have := h3.2 fun n hn => h n (List.mem_range.1 hn)
   omega
 obtain ⟨t, ht, hti, htk⟩ : ∃ t < l.length, t ≠ i ∧ t ≠ k := by
  by_cases h0 : 0 ≠ i ∧ 0 ≠ k
  ·exact ⟨0, by omega, h0⟩
  by_cases h1 : 1 ≠ i ∧ 1 ≠ k
  ·exact ⟨1, by omega, h1⟩
  ·exact ⟨2, by omega, by omega, by omega⟩
 have hrow : rowOk l i = true ↔ ∀ n < l.length, n ≠ i → n ≠ k → 0 < leftF b ((atP l n).sub (atP l i)) := by
  unfold rowOk
  rw [List.all_eq_true]
  constructor
  ·intro h n hn h1 h2
   have := h n (List.mem_range.2 hn)
   unfold cornerOk at this
   rw [hki, hbb] at this
   simpa [h1, h2] using this
  ·intro h n hn
   have hn := List.mem_range.1 hn
   unfold cornerOk
   rw [hki, hbb]
   by_cases h1 : n = i
   ·simp [h1]
   by_cases h2 : n = k
   ·simp [h2]
   ·simp [h n hn h1 h2]
 rw [Bool.eq_iff_iff, hrow]
 unfold sideOk
 simp only [hl, Bool.and_eq_true, decide_eq_true_eq, Bool.not_eq_true', Bool.and_eq_false_imp, decide_eq_false_iff_not]
 rw [hcnt]
 constructor
 ·rintro ⟨h1, _⟩ n hn hni hnk
  have := h1 n hn hni hnk
  have : ¬ leftF b ((atP l n).sub (atP l i)) ≤ 0 := by simpa [g] using this
  omega
 ·intro h
  refine ⟨fun n hn h1 h2 => ?_, fun hx hy => ?_⟩
  ·have := h n hn h1 h2
   show decide _ = false
   exact decide_eq_false (by omega)
  ·have := h t ht hti htk
   unfold leftF at this
   rw [hx, hy] at this
   simp at this
theorem sidesL_map : ∀ (l : List Pt) (a : Pt), sidesL a l = (List.range l.length).map fun j => ((if j = 0 then a else atP l (j - 1)), (atP l j).sub (if j = 0 then a else atP l (j - 1)))
 | [], _ => rfl
 | p :: r, a => by
  rw [sidesL, sidesL_map r p, List.length_cons, List.range_succ_eq_map, List.map_cons, List.map_map]
  congr 1
  apply List.map_congr_left
  intro j hj
  have h1 : (if j = 0 then p else atP r (j - 1)) = atP (p :: r) j := by
   cases j with
   | zero => rfl
   | succ j => simp [atP]
  have h2 : atP (p :: r) (j + 1) = atP r j := by simp [atP]
  show ((if j = 0 then p else atP r (j - 1)), (atP r j).sub (if j = 0 then p else atP r (j - 1))) = _
  simp only [Function.comp, Nat.succ_ne_zero, if_false, Nat.succ_sub_one, h1]
  rw [show Nat.succ j = j + 1 from rfl, h2]
theorem sides_round {s : Sand} (h3 : 3 ≤ s.corners.length) : (sidesF s).all (sideOk s) = roundR s.corners := by
 have hlast : lastP s.corners = atP s.corners (s.corners.length - 1) := rfl
 unfold sidesF roundR
 rw [sidesL_map, hlast, List.all_map]
 have hside : ∀ j < s.corners.length, ((sideOk s) ∘ fun j => ((if j = 0 then atP s.corners (s.corners.length - 1) else atP s.corners (j - 1)), (atP s.corners j).sub (if j = 0 then atP s.corners (s.corners.length - 1) else atP s.corners (j - 1)))) j = rowOk s.corners (if j = 0 then s.corners.length - 1 else j - 1) := by
  intro j hj
  show sideOk s _ = _
  by_cases h0 : j = 0
  ·subst h0
   simp only [if_true]
   exact side_row h3 (by omega) hj (by omega) (by rw [Nat.sub_add_cancel (by omega), Nat.mod_self])
  ·simp only [if_neg h0]
   exact side_row h3 (by omega) hj (by omega) (by rw [Nat.sub_add_cancel (by omega), Nat.mod_eq_of_lt hj])
 rw [Bool.eq_iff_iff, List.all_eq_true, List.all_eq_true]
 constructor
 ·intro h i hi
  have hi := List.mem_range.1 hi
  have hk : (i + 1) % s.corners.length < s.corners.length := Nat.mod_lt _ (by omega)
  have := h ((i + 1) % s.corners.length) (List.mem_range.2 hk)
  rw [hside _ hk] at this
  have he : (if (i + 1) % s.corners.length = 0 then s.corners.length - 1 else (i + 1) % s.corners.length - 1) = i := by
   by_cases hl : i + 1 < s.corners.length
   ·rw [Nat.mod_eq_of_lt hl, if_neg (by omega)]; omega
   ·have : i + 1 = s.corners.length := by omega
    rw [this, Nat.mod_self, if_pos rfl]; omega
  rw [he] at this
  exact this
 ·intro h j hj
  have hj := List.mem_range.1 hj
  rw [hside j hj]
  refine h _ (List.mem_range.2 ?_)
  split <;> omega
theorem sand_eq (s : Sand) : sandE s = sandR s := by
 unfold sandE sandR
 cases h1 : inB (s.corners.length : Int) 3 8 with
 | false => rfl
 | true =>
  rw [inB_iff] at h1
  have e : (s.corners.any fun p => !withinB 10000 p) = !(s.corners.all fun p => withinB 10000 p) := by
   rw [List.any_eq_not_all_not]; simp
  rw [e, sides_round (by omega)]
  cases s.corners.all fun p => withinB 10000 p <;> simp
def Same (m : Nms) (ns : List ByteArray) : Prop := ∀ n, 0 ≤ (getM m n).getD 0 ∧ (0 < (getM m n).getD 0 ↔ n ∈ ns)
theorem Same.inc {m : Nms} {ns : List ByteArray} (h : Same m ns) (n : ByteArray) : Same (incS m n) (ns ++ [n]) := by
 intro u
 unfold incS
 rw [getM_put]
 split
 ·rename_i hu
  subst hu
  have := (h u).1
  simp; omega
 ·rename_i hu
  have := h u
  refine ⟨this.1, ?_⟩
  rw [this.2]
  simp [hu]
theorem fresh_eq {m : Nms} {ns : List ByteArray} (h : Same m ns) (n : ByteArray) : freshE m n = freshF n ns := by
 have hn := h n
 unfold freshE freshF
 have hany : (ns.any fun y => decide (y = n)) = true ↔ n ∈ ns := by simp
 by_cases hm : n ∈ ns
 ·have := hn.2.2 hm
  rw [if_pos (show (getM m n).getD 0 + 1 > 1 by omega), if_pos (hany.2 hm)]
 ·have : ¬ 0 < (getM m n).getD 0 := fun h => hm (hn.2.1 h)
  rw [if_neg (show ¬ (getM m n).getD 0 + 1 > 1 by omega), if_neg (fun h => hm (hany.1 h))]
theorem marks_eq : ∀ (l : List Mark) (m : Nms) (ns : List ByteArray) (i : Int), Same m ns → (∃ e, marksL m i l = .inl e ∧ marksR ns i l = .inl e) ∨ ∃ m' ns', marksL m i l = .inr m' ∧ marksR ns i l = .inr ns' ∧ Same m' ns'
 | [], m, ns, i, h => .inr ⟨m, ns, rfl, rfl, h⟩
 | x :: r, m, ns, i, h => by
  have he : markE m x = markER ns x := by unfold markE markER; rw [fresh_eq h]
  rw [marksL, marksR, he]
  by_cases h0 : markER ns x = 0
  ·rw [if_pos h0, if_pos h0]
   exact marks_eq r _ _ _ (h.inc x.name)
  ·rw [if_neg h0, if_neg h0]
   exact .inl ⟨_, rfl, rfl⟩
theorem sands_eq : ∀ (l : List Sand) (m : Nms) (ns : List ByteArray) (i : Int), Same m ns → sandsL m i l = sandsR ns i l
 | [], _, _, _, _ => rfl
 | x :: r, m, ns, i, h => by
  have he : sandE' m x = sandER ns x := by unfold sandE' sandER; rw [fresh_eq h, sand_eq]
  rw [sandsL, sandsR, he]
  by_cases h0 : sandER ns x = 0
  ·rw [if_pos h0, if_pos h0]
   exact sands_eq r _ _ _ (h.inc x.name)
  ·rw [if_neg h0, if_neg h0]
theorem check_eq (c : Cht) : checkX c = checkR c := by
 unfold checkX checkR
 have h0 : Same [] [] := fun n => by simp [getM]
 rcases marks_eq c.marks [] [] 0 h0 with ⟨e, h1, h2⟩ | ⟨m', ns', h1, h2, h3⟩
 ·rw [h1, h2]
 ·rw [h1, h2]
  simp only
  rw [sands_eq c.sands m' ns' 0 h3]
end Go.PX
namespace Go.PX
open Go.Proofs
end Go.PX
namespace Go.PX
open Go.Proofs
theorem ch21x (c : Cht) : FnV Tryz.prog 21 [c.d] (.tup [i64 (checkX c).1, i64 (checkX c).2.1, i64 (checkX c).2.2]) := FnV.cast (ch21 c) (by rw [check_eq])
end Go.PX
namespace Go.PX
open Go.Proofs
end Go.PX
namespace Go.PX
open Go.Proofs
end Go.PX
namespace Go.PX
open Go.Proofs
end Go.PX
namespace Go.PX
open Go.Proofs
def movesL (b : Box) : List Pt := (spanL b.x).flatMap fun x => (spanL b.y).map fun y => ⟨x, y⟩
end Go.PX
namespace Go.PX
open Go.Proofs
def stepB (m : Pt) (bs : List Bool) (p : Pt) : List Bool := if p.x = m.x ∧ p.y = m.y then bs else bs.set (towF (m.sub p)).toNat true
def seenB (m : Pt) (l : List Pt) : List Bool := l.foldl (stepB m) (List.replicate 32 false)
def dirsB (bs : List Bool) (l : List Nat) : List Int := (l.filter fun p => (bs[p]?).getD false).map fun (p : Nat) => (p : Int)
def dirR (c : Cht) (day k : Int) (b : Box) : List Int := if ptsE c day k b = 0 then dirsB (seenB (marM c day k).at' (movesL b)) (List.range 32) else []
theorem stepB_len (m : Pt) (bs : List Bool) (p : Pt) : (stepB m bs p).length = bs.length := by
 unfold stepB
 split <;> simp
theorem counts_seen (m : Pt) : ∀ (l : List Pt) (f : Nat → Int) (bs : List Bool), bs.length = 32 → (∀ p ∈ l, NZ (m.sub p) → 0 ≤ towF (m.sub p) ∧ towF (m.sub p) ≤ 31) → (∀ q, q < 32 → 0 ≤ f q) → (∀ q, q < 32 → (0 < f q ↔ (bs[q]?).getD false = true)) →
  ∀ q, q < 32 → (0 < l.foldl (cntStep m) f q ↔ ((l.foldl (stepB m) bs)[q]?).getD false = true)
 | [], f, bs, _, _, _, h, q, hq => h q hq
 | p :: r, f, bs, hl, ht, h0, h, q, hq => by
  rw [List.foldl_cons, List.foldl_cons]
  have ht' : ∀ p ∈ r, NZ (m.sub p) → 0 ≤ towF (m.sub p) ∧ towF (m.sub p) ≤ 31 := fun x hx => ht x (List.mem_cons_of_mem _ hx)
  by_cases hp : p.x = m.x ∧ p.y = m.y
  ·have e1 : cntStep m f p = f := by unfold cntStep; rw [if_pos hp]
   have e2 : stepB m bs p = bs := by unfold stepB; rw [if_pos hp]
   rw [e1, e2]
   exact counts_seen m r f bs hl ht' h0 h q hq
  ·have hnz : NZ (m.sub p) := by show m.x - p.x ≠ 0 ∨ m.y - p.y ≠ 0; omega
   obtain ⟨t0, t1⟩ := ht p (List.mem_cons_self ..) hnz
   have e1 : cntStep m f p = fun q => if q = (towF (m.sub p)).toNat then f q + 1 else f q := by unfold cntStep; rw [if_neg hp]
   have e2 : stepB m bs p = bs.set (towF (m.sub p)).toNat true := by unfold stepB; rw [if_neg hp]
   rw [e1, e2]
   refine counts_seen m r _ _ (by simpa using hl) ht' (fun q hq => ?_) (fun q hq => ?_) q hq
   ·have := h0 q hq
    split <;> omega
   ·have h1 := h q hq
    have h2 := h0 q hq
    have h3 : (towF (m.sub p)).toNat < bs.length := by omega
    rw [List.getElem?_set]
    by_cases he : q = (towF (m.sub p)).toNat
    ·rw [if_pos he, if_pos he.symm, if_pos h3]
     simp; omega
    ·rw [if_neg he, if_neg (Ne.symm he)]
     exact h1
theorem grid_fold (m : Pt) (ys : List Int) : ∀ (xs : List Int) (f : Nat → Int), gridF m ys xs f = (xs.flatMap fun x => ys.map fun y => (⟨x, y⟩ : Pt)).foldl (cntStep m) f
 | [], f => rfl
 | x :: r, f => by
  show gridF m ys r (colF m x ys f) = _
  rw [grid_fold m ys r, List.flatMap_cons, List.foldl_append, List.foldl_map]
  rfl
theorem dir_eq (c : Cht) (day k : Int) (b : Box) : dirR c day k b = ptsL c day k b := by
 unfold dirR ptsL
 split
 ·generalize (marM c day k).at' = m
  have h : ∀ q, q < 32 → (0 < gridF m (spanL b.y) (spanL b.x) (fun _ => 0) q ↔ ((seenB m (movesL b))[q]?).getD false = true) := by
   intro q hq
   rw [grid_fold]
   refine counts_seen m (movesL b) (fun _ => 0) (List.replicate 32 false) rfl (fun p _ hz => towF_in hz) (fun _ _ => Int.le_refl _) (fun q hq => ?_) q hq
   rw [List.getElem?_replicate, if_pos hq]; simp
  unfold dirsB dirsL
  congr 1
  apply List.filter_congr
  intro q hq
  have := h q (List.mem_range.1 hq)
  rw [Bool.eq_iff_iff, decide_eq_true_eq]
  exact this.symm
 ·rfl
end Go.PX
namespace Go.PX
open Go.Proofs
structure Look where
 day : Int
 mark : Int
 from' : Pt
 box : Box
def Look.cells (x : Look) : List D := [i64 x.day, i64 x.mark, i64 x.from'.x, i64 x.from'.y, i64 x.box.x.lo, i64 x.box.x.hi, i64 x.box.y.lo, i64 x.box.y.hi]
def Look.d (x : Look) : D := .agg x.cells
theorem ptsL_len (c : Cht) (day k : Int) (b : Box) : (ptsL c day k b).length < 1000000 := by
 unfold ptsL
 split
 ·unfold dirsL
  rw [List.length_map]
  have := List.length_filter_le (fun p => decide (0 < gridF (marM c day k).at' (spanL b.y) (spanL b.x) (fun _ => 0) p)) (List.range 32)
  rw [List.length_range] at this
  omega
 ·simp
end Go.PX
namespace Go.PX
open Go.Proofs Go.RowKit Go.ChangeShapes
theorem c50 : Tryz.prog.cellsOf 50 = 8 := by kernel_rfl
theorem rdLook (W : World) : Rd Tryz.prog W 50 fun ds => ∃ x : Look, ds = x.cells :=
 (Rd.struct Tryz.underlying50 c50 (.cons rfl c3 (rdInt W) (.cons rfl c3 (rdInt W) (.cons rfl c27 (rdPt W) (.cons rfl c48 (rdBox W) (.nil _)))))).mono fun ds h => by
  obtain ⟨_, _, rfl, ⟨a, rfl⟩, _, _, rfl, ⟨b, rfl⟩, _, _, rfl, ⟨p, rfl⟩, _, _, rfl, ⟨x, rfl⟩, rfl⟩ := h
  exact ⟨⟨a, b, p, x⟩, rfl⟩
end Go.PX
namespace Go.PX
open Go.Proofs
end Go.PX
namespace Go.PX
open Go.Proofs
theorem mem_upX : ∀ (k : Nat) (v y : Int), y ∈ upX k v ↔ v ≤ y ∧ y < v + k
 | 0, v, y => by simp [upX]
 | k + 1, v, y => by
  rw [upX, List.mem_cons, mem_upX k]; omega
theorem mem_spanL (b : Span) (y : Int) : y ∈ spanL b ↔ b.lo ≤ y ∧ y ≤ b.hi := by
 unfold spanL
 rw [mem_upX]; omega
theorem mem_movesL (b : Box) (m : Pt) : m ∈ movesL b ↔ (b.x.lo ≤ m.x ∧ m.x ≤ b.x.hi) ∧ (b.y.lo ≤ m.y ∧ m.y ≤ b.y.hi) := by
 unfold movesL
 rw [List.mem_flatMap]
 constructor
 ·rintro ⟨x, hx, h⟩
  obtain ⟨y, hy, rfl⟩ := List.mem_map.1 h
  exact ⟨(mem_spanL _ _).1 hx, (mem_spanL _ _).1 hy⟩
 ·rintro ⟨hx, hy⟩
  exact ⟨m.x, (mem_spanL _ _).2 hx, List.mem_map.2 ⟨m.y, (mem_spanL _ _).2 hy, rfl⟩⟩
end Go.PX
namespace Go.PX
open Go.Proofs
end Go.PX
namespace Go.PX
open Go.Proofs
end Go.PX
namespace Go.PX
open Go.Proofs
end Go.PX
namespace Go.PX
open Go.Proofs
end Go.PX
namespace Go.PX
open Go.Proofs
end Go.PX
namespace Go.PX
open Go.Proofs
theorem seenB_mem (m : Pt) : ∀ (l : List Pt) (bs : List Bool) (q : Nat), q < bs.length → bs.length = 32 →
  (((l.foldl (stepB m) bs)[q]?).getD false = true ↔ (bs[q]?).getD false = true ∨ ∃ p ∈ l, NZ (m.sub p) ∧ (towF (m.sub p)).toNat = q)
 | [], bs, q, _, _ => by simp
 | p :: l, bs, q, hq, h32 => by
  rw [List.foldl_cons, seenB_mem m l _ q (by rw [stepB_len]; exact hq) (by rw [stepB_len]; exact h32)]
  unfold stepB
  by_cases hp : p.x = m.x ∧ p.y = m.y
  ·rw [if_pos hp]
   have hz : ¬ NZ (m.sub p) := by unfold NZ Pt.sub; simp; omega
   constructor
   ·rintro (h | ⟨x, hx, h⟩)
    ·exact .inl h
    ·exact .inr ⟨x, by simp [hx], h⟩
   ·rintro (h | ⟨x, hx, h1, h2⟩)
    ·exact .inl h
    ·rcases List.mem_cons.1 hx with rfl | hx
     ·exact absurd h1 hz
     ·exact .inr ⟨x, hx, h1, h2⟩
  ·rw [if_neg hp]
   have hz : NZ (m.sub p) := by unfold NZ Pt.sub; simp; omega
   have ht := towF_in hz
   rw [List.getElem?_set]
   by_cases he : (towF (m.sub p)).toNat = q
   ·rw [if_pos he, if_pos (by omega)]
    simp only [Option.getD_some, true_or, true_iff]
    exact .inr ⟨p, by simp, hz, he⟩
   ·rw [if_neg he]
    constructor
    ·rintro (h | ⟨x, hx, h⟩)
     ·exact .inl h
     ·exact .inr ⟨x, by simp [hx], h⟩
    ·rintro (h | ⟨x, hx, h1, h2⟩)
     ·exact .inl h
     ·rcases List.mem_cons.1 hx with rfl | hx
      ·exact absurd h2 he
      ·exact .inr ⟨x, hx, h1, h2⟩
theorem mem_pts {c : Cht} {day k : Int} {b : Box} (he : ptsE c day k b = 0) (n : Int) : n ∈ ptsL c day k b ↔ ∃ p ∈ movesL b, NZ ((marM c day k).at'.sub p) ∧ towF ((marM c day k).at'.sub p) = n := by
 rw [← dir_eq]
 unfold dirR
 rw [if_pos he]
 unfold dirsB
 rw [List.mem_map]
 constructor
 ·rintro ⟨q, hq, rfl⟩
  obtain ⟨h1, h2⟩ := List.mem_filter.1 hq
  have h1 := List.mem_range.1 h1
  rcases (seenB_mem _ _ _ q (by simpa using h1) (by simp)).1 h2 with h | ⟨p, hp, hz, ht⟩
  ·rw [List.getElem?_replicate, if_pos h1] at h; cases h
  ·have := towF_in hz
   exact ⟨p, hp, hz, by omega⟩
 ·rintro ⟨p, hp, hz, rfl⟩
  have := towF_in hz
  refine ⟨(towF ((marM c day k).at'.sub p)).toNat, List.mem_filter.2 ⟨List.mem_range.2 (by omega), ?_⟩, by omega⟩
  exact (seenB_mem _ _ _ _ (by simp; omega) (by simp)).2 (.inr ⟨p, hp, hz, rfl⟩)
theorem pts_sorted (c : Cht) (day k : Int) (b : Box) : (ptsL c day k b).Pairwise (· < ·) := by
 rw [← dir_eq]
 unfold dirR
 split
 ·unfold dirsB
  rw [List.pairwise_map]
  refine List.Pairwise.imp ?_ ((List.pairwise_lt_range (n := 32)).filter _)
  intro a b h
  omega
 ·exact List.Pairwise.nil
end Go.PX
namespace Go.PX
open Go.Proofs
end Go.PX
namespace Go.PX
open Go.Proofs
end Go.PX
namespace Go.PX
open Go.Proofs
def valL (c : Cht) : Bool := decide ((checkX c).2.2 = 0)
theorem ch43 (c : Cht) : FnV Tryz.prog 43 [c.d] (.bool (valL c)) := by
 refine fnV_of mixed tysOk Tryz.func43 rfl (ft := ft43) 1 (by decide +kernel) (by rfl) fun {σ} Y st => ?_
 conv=>whnf
 refine CallA_v (ch21x c) rfl rfl ?_
 conv=>whnf
 exact RetA_view 1 rfl ⟨⟨rfl, rfl⟩, rfl⟩
def amongF (s : Span) (n : Int) : Int := s.lo + n.tmod (s.hi - s.lo + 1)
theorem among_in {s : Span} {n : Int} (hs : s.lo ≤ s.hi) (hn : 0 ≤ n) : s.lo ≤ amongF s n ∧ amongF s n ≤ s.hi := by
 have h1 := Int.tmod_nonneg (s.hi - s.lo + 1) hn
 have h2 := Int.tmod_lt_of_pos n (b := s.hi - s.lo + 1) (by omega)
 unfold amongF
 omega
theorem ch57 (s : Span) (n : Int) (hs : s.lo ≤ s.hi) (hb : -1000000 ≤ s.lo ∧ s.hi ≤ 1000000) (hn : 0 ≤ n ∧ n ≤ 1000000) : FnV Tryz.prog 57 [.agg (Span.cells s), i64 n] (i64 (amongF s n)) := by
 refine fnV_of mixed tysOk Tryz.func57 rfl (ft := ft57) 2 (by decide +kernel) (by rfl) fun {σ} Y st => ?_
 conv=>whnf
 have h1 := among_in hs hn.1
 refine arith_in (wrap_i64 (by (try dsimp only); omega)) ?_
 conv=>whnf
 refine arith_in (wrap_i64 (by (try dsimp only); omega)) ?_
 conv=>whnf
 refine chk_i (decide_eq_true (by omega)) ?_
 conv=>whnf
 refine arith_in (wrap_i64 (by unfold amongF at h1; omega)) ?_
 conv=>whnf
 exact RetA_view 0 rfl ⟨⟨rfl, rfl⟩, rfl⟩
theorem ch48 (l : List Int) (hl : l.length < 1000000) (n : Int) : FnV Tryz.prog 48 [intsD l, i64 n] (.bool (decide (n ∈ l))) := by
 refine fnV_of mixed tysOk Tryz.func48 rfl (ft := ft48) 2 (by decide +kernel) (by rfl) fun {σ} Y st => ?_
 conv=>whnf
 refine LoopA_i (T := tys) tysOk (by exact drawsB_spec mixed tysOk (by decide +kernel)) l (fun i (_ : Unit) => ⟨[(0, .d (intsD l)), (1, .d (i64 n)), (5, .d (i64 i))], [], st⟩) (fun i r _ => decide (n ∈ l) = decide (n ∈ r)) () (Wk.sub ⟨(by first | rfl | (simp only [List.length_map]; rfl) | simp [PX.get]), (by first | rfl | (simp only [List.length_map]; rfl) | simp [PX.get]), (by first | rfl | (simp only [List.length_map]; rfl) | simp [PX.get]), trivial⟩ trivial) rfl ?_ ?_
 ·rintro i x r _ hxi hi hir hk
  conv=>whnf
  refine brk_i (fun _ => ?_) (fun h => absurd hi (by simpa using h))
  conv=>whnf
  refine elemK_nat hxi ?_
  conv=>whnf
  refine brk_i (fun h1 => ?_) (fun h1 => ?_)
  ·have h1 : x = n := of_decide_eq_true h1
   have hk : decide (n ∈ l) = true := by rw [hk]; simp [h1]
   rw [hk]
   conv=>whnf
   exact RetA_view 0 rfl ⟨⟨rfl, rfl⟩, rfl⟩
  ·have h1 : x ≠ n := of_decide_eq_false h1
   have hk : decide (n ∈ l) = decide (n ∈ r) := by rw [hk]; simp [Ne.symm h1]
   conv=>whnf
   refine arith_in (wrap_i64 (by (try dsimp only); omega)) ?_
   conv=>whnf
   exact ⟨(), hk, (Wk.sub ⟨(by first | rfl | (simp only [List.length_map]; rfl) | simp [PX.get]), (by first | rfl | (simp only [List.length_map]; rfl) | simp [PX.get]), (by first | rfl | (simp only [List.length_map]; rfl) | simp [PX.get]), trivial⟩ trivial)⟩
 ·rintro _ hk
  have hk : decide (n ∈ l) = false := by rw [hk]; simp
  conv=>whnf
  refine brk_i (fun h => absurd h (by simp)) (fun _ => ?_)
  conv=>whnf
  rw [hk]
  exact RetA_view 0 rfl ⟨⟨rfl, rfl⟩, rfl⟩
theorem ch45 (a b : List Int) (ha : a.length < 1000000) (hb : b.length < 1000000) : FnV Tryz.prog 45 [intsD a, intsD b] (.bool (a.all fun x => decide (x ∈ b))) := by
 refine fnV_of mixed tysOk Tryz.func45 rfl (ft := ft45) 2 (by decide +kernel) (by rfl) fun {σ} Y st => ?_
 conv=>whnf
 refine LoopA_i (T := tys) tysOk (by exact drawsB_spec mixed tysOk (by decide +kernel)) a (fun i (_ : Unit) => ⟨[(0, .d (intsD a)), (1, .d (intsD b)), (5, .d (i64 i))], [], st⟩) (fun i r _ => (a.all fun x => decide (x ∈ b)) = r.all fun x => decide (x ∈ b)) () (Wk.sub ⟨(by first | rfl | (simp only [List.length_map]; rfl) | simp [PX.get]), (by first | rfl | (simp only [List.length_map]; rfl) | simp [PX.get]), (by first | rfl | (simp only [List.length_map]; rfl) | simp [PX.get]), trivial⟩ trivial) rfl ?_ ?_
 ·rintro i x r _ hxi hi hir hk
  rw [List.all_cons] at hk
  conv=>whnf
  refine brk_i (fun _ => ?_) (fun h => absurd hi (by simpa using h))
  conv=>whnf
  refine elemK_nat hxi ?_
  conv=>whnf
  refine CallA_v (ch48 b hb x) rfl rfl ?_
  conv=>whnf
  cases hm : decide (x ∈ b) with
  | false =>
   rw [hm, Bool.false_and] at hk
   rw [hk]
   conv=>whnf
   exact RetA_view 0 rfl ⟨⟨rfl, rfl⟩, rfl⟩
  | true =>
   rw [hm, Bool.true_and] at hk
   conv=>whnf
   refine arith_in (wrap_i64 (by (try dsimp only); omega)) ?_
   conv=>whnf
   exact ⟨(), hk, (Wk.sub ⟨(by first | rfl | (simp only [List.length_map]; rfl) | simp [PX.get]), (by first | rfl | (simp only [List.length_map]; rfl) | simp [PX.get]), (by first | rfl | (simp only [List.length_map]; rfl) | simp [PX.get]), trivial⟩ trivial)⟩
 ·rintro _ hk
  rw [List.all_nil] at hk
  conv=>whnf
  refine brk_i (fun h => absurd h (by simp)) (fun _ => ?_)
  conv=>whnf
  rw [hk]
  exact RetA_view 0 rfl ⟨⟨rfl, rfl⟩, rfl⟩
theorem within_true {a b : List Int} (ha : a.length < 1000000) (hb : b.length < 1000000) (h : ∀ x ∈ a, x ∈ b) : FnV Tryz.prog 45 [intsD a, intsD b] (.bool true) :=
 FnV.cast (ch45 a b ha hb) (by rw [show (a.all fun x => decide (x ∈ b)) = true from List.all_eq_true.2 fun x hx => decide_eq_true (h x hx)])
end Go.PX
namespace Go.PX
open Go.Proofs Go.RowKit Go.ChangeShapes
section
variable (W : World)
end
end Go.PX
namespace Go.PX
open Go.Proofs Go.RowKit Go.ChangeShapes
end Go.PX
namespace Go.PX
open Go.Proofs
end Go.PX
namespace Go.PX
open Go.Proofs
end Go.PX
namespace Go.PX
open Go.Proofs Go.RowKit Go.ChangeShapes
theorem c5 : Tryz.prog.cellsOf 5 = 1 := by kernel_rfl
theorem u8In {n : Int} (h : (Lit.int .u8 n).wf = true) : 0 ≤ n ∧ n ≤ 255 := by
 simp only [Lit.wf, Bool.and_eq_true, decide_eq_true_eq] at h
 exact h
end Go.PX
namespace Go.PX
open Go.Proofs
end Go.PX
namespace Go.PX
open Go.Proofs
end Go.PX
namespace Go.PX
open Go.Proofs
end Go.PX
namespace Go.PX
open Go.Proofs
end Go.PX
namespace Go.PX
open Go.Proofs
end Go.PX
namespace Go.PX
open Go.Proofs
open Go.RowKit Go.Proofs
end Go.PX
namespace Go.PX
open Go.Proofs
end Go.PX
namespace Go.PX
open Go.Proofs
end Go.PX
namespace Go.PX
open Go.Proofs
end Go.PX
namespace Go.PX
open Go.Proofs
end Go.PX
namespace Go.PX
open Go.Proofs
end Go.PX
namespace Go.PX
open Go.Proofs
theorem same_NZ {a p : Pt} (h : sameP a p = false) : NZ (a.sub p) := by
 rw [Bool.eq_false_iff] at h
 unfold NZ
 show a.x - p.x ≠ 0 ∨ a.y - p.y ≠ 0
 rcases Decidable.em (a.x = p.x) with h1 | h1
 ·rcases Decidable.em (a.y = p.y) with h2 | h2
  ·exact absurd (by unfold sameP; simp [h1, h2]) h
  ·omega
 ·omega
end Go.PX
namespace Go.PX
open Go.Proofs Go.RowKit Go.ChangeShapes
section
variable (W : World)
end
end Go.PX
namespace Go.PX
open Go.Proofs
end Go.PX
namespace Go.PX
open Go.Proofs Go.RowKit Go.ChangeShapes
section
variable (W : World)
end
end Go.PX
namespace Go.PX
open Go.Proofs
theorem boxE_ok {b : Box} (h : boxE 30000 b = 0) : (-30000 ≤ b.x.lo ∧ b.x.lo ≤ b.x.hi ∧ b.x.hi ≤ 30000 ∧ b.x.hi - b.x.lo ≤ 40) ∧ (-30000 ≤ b.y.lo ∧ b.y.lo ≤ b.y.hi ∧ b.y.hi ≤ 30000 ∧ b.y.hi - b.y.lo ≤ 40) := by
 unfold boxE at h
 split at h
 case isFalse => cases h
 rename_i h5
 split at h
 case isFalse => cases h
 rename_i h6
 simp only [Bool.and_eq_true, inB_iff] at h5 h6
 omega
theorem boxE_of {b : Box} (h : (-30000 ≤ b.x.lo ∧ b.x.lo ≤ b.x.hi ∧ b.x.hi ≤ 30000 ∧ b.x.hi - b.x.lo ≤ 40) ∧ (-30000 ≤ b.y.lo ∧ b.y.lo ≤ b.y.hi ∧ b.y.hi ≤ 30000 ∧ b.y.hi - b.y.lo ≤ 40)) : boxE 30000 b = 0 := by
 unfold boxE
 rw [if_pos (by simp only [Bool.and_eq_true, inB_iff]; omega), if_pos (by simp only [Bool.and_eq_true, inB_iff]; omega)]
theorem ptsE_std {c : Cht} {day k : Int} {b : Box} (h : ptsE c day k b = 0) : stdE c day k = 0 ∧ boxE 30000 b = 0 := by
 unfold ptsE at h
 split at h
 ·rename_i h1; exact ⟨h1, h⟩
 ·rename_i h1; exact absurd h h1
theorem stdE_ok {c : Cht} {day k : Int} (h : stdE c day k = 0) : (checkX c).2.2 = 0 := by
 unfold stdE at h
 split at h
 ·rename_i h1
  unfold marE at h1
  split at h1
  ·assumption
  ·rename_i h2; exact absurd h1 h2
 ·rename_i h1; exact absurd h h1
theorem ptsE_of {c : Cht} {day k : Int} {b : Box} (h : stdE c day k = 0) (hb : boxE 30000 b = 0) : ptsE c day k b = 0 := by
 unfold ptsE
 rw [if_pos h, hb]
theorem ptsL_bad {c : Cht} {day k : Int} {b : Box} (h : ¬ ptsE c day k b = 0) : ptsL c day k b = [] := by
 unfold ptsL
 rw [if_neg h]
theorem sorted_one : ∀ {l : List Int} {p : Int}, l.Pairwise (· < ·) → (∀ n, n ∈ l ↔ n = p) → l = [p]
 | [], p, _, h => by have := (h p).2 rfl; cases this
 | [a], p, _, h => by rw [(h a).1 (by simp)]
 | a :: b :: l, p, hs, h => by
  have h1 := (h a).1 (by simp)
  have h2 := (h b).1 (by simp)
  have := (List.pairwise_cons.1 hs).1 b (by simp)
  omega
def oneB (b : Box) (a : Int) : Box := ⟨⟨b.x.lo, a⟩, b.y⟩
def twoB (b : Box) (a : Int) : Box := ⟨⟨min b.x.hi (a + 1), b.x.hi⟩, b.y⟩
def ptB (p : Pt) : Box := ⟨⟨p.x, p.x⟩, ⟨p.y, p.y⟩⟩
theorem pts_one {c : Cht} {day k : Int} {p : Pt} (h : ptsE c day k (ptB p) = 0) : ptsL c day k (ptB p) = if sameP (marM c day k).at' p then [] else [towF ((marM c day k).at'.sub p)] := by
 have hm : ∀ q, q ∈ movesL (ptB p) ↔ q = p := by
  intro q
  rw [mem_movesL]
  show (p.x ≤ q.x ∧ q.x ≤ p.x) ∧ (p.y ≤ q.y ∧ q.y ≤ p.y) ↔ _
  constructor
  ·intro h
   cases q; cases p
   simp at h ⊢; omega
  ·rintro rfl; omega
 by_cases hs : sameP (marM c day k).at' p = true
 ·rw [if_pos hs]
  refine List.eq_nil_iff_forall_not_mem.2 fun n hn => ?_
  obtain ⟨q, hq, hz, _⟩ := (mem_pts h n).1 hn
  rw [hm] at hq
  subst hq
  unfold sameP at hs
  simp at hs
  unfold NZ Pt.sub at hz
  simp only at hz
  omega
 ·rw [if_neg hs]
  have hz := same_NZ (by simpa using hs)
  refine sorted_one (pts_sorted _ _ _ _) fun n => ?_
  rw [mem_pts h]
  constructor
  ·rintro ⟨q, hq, _, ht⟩
   rw [hm] at hq
   subst hq; exact ht.symm
  ·rintro rfl
   exact ⟨p, (hm p).2 rfl, hz, rfl⟩
theorem seen_std {c : Cht} {day k : Int} (h : stdE c day k = 0) {p : Pt} (hp : Pin 30000 p) : seenE c day k p = (if sameP (marM c day k).at' p then 8 else 0) ∧ seenV c day k p = if sameP (marM c day k).at' p then 0 else towF ((marM c day k).at'.sub p) := by
 have h1 : seenE c day k p = (if sameP (marM c day k).at' p then 8 else 0) := by
  unfold seenE
  rw [if_pos h, if_pos (within_iff.2 hp)]
 refine ⟨h1, ?_⟩
 unfold seenV
 rw [h1]
 split <;> rfl
set_option maxHeartbeats 8000000 in
theorem ch13 (c : Cht) (x : Look) (n : Int) (hn : 0 ≤ n ∧ n ≤ 255) : FnV Tryz.prog 13 [c.d, x.d, .int .u8 n] (.bool true) := by
 refine fnV_of mixed tysOk Tryz.func13 rfl (ft := ft13) 3 (by decide +kernel) (by rfl) fun {σ} Y st => ?_
 conv=>whnf
 refine CallA_v (ds := [c.d, i64 x.day, i64 x.mark, x.box.d]) (ch34 c x.day x.mark x.box) rfl rfl ?_
 have hll := ptsL_len c x.day x.mark x.box
 have hbad := @ptsL_bad c x.day x.mark x.box
 conv=>whnf
 refine CallA_v (ds := [x.box.d, i64 (-30000), i64 30000]) (ch56 x.box 30000 (by omega)) rfl rfl ?_
 by_cases he : ptsE c x.day x.mark x.box = 0
 case neg =>
  rw [hbad he]
  refine brk_i (fun h1 => ?_) (fun h1 => ?_)
  ·conv=>whnf
   refine brk_i (fun _ => ?_) (fun h => absurd h (by simp [he]))
   conv=>whnf
   repeat' (first
    | (refine CallA_v (ch22) rfl rfl ?_; conv=>whnf)
    | (refine CallA_view (ch22) rfl 1 rfl ?_; conv=>whnf)
    | (refine DrawCall_v (ch22) rfl rfl ?_; conv=>whnf)
    | (refine DrawCall_view (ch22) rfl 1 rfl ?_; conv=>whnf)
    | (refine arith_in (wrap_i64 (by (try dsimp only); omega)) ?_; conv=>whnf)
    | (refine elemK_nat (by assumption) ?_; conv=>whnf)
    | (refine ownK_whole (by first | rfl | assumption | (simp [Els.len]; done) | (simp [Els.len]; omega)) ?_; conv=>whnf)
    | (refine chk_i (by first | (exact decide_eq_true (by (try simp only [List.length_map]); omega)) | (simp [Els.len, Els.cons, V.cells, Els.toV, injL]; done) | (simp [Els.len, Els.cons, V.cells, Els.toV, injL]; omega)) ?_; conv=>whnf)
    | fail)
   exact RetA_view 1 rfl ⟨⟨rfl, rfl⟩, rfl⟩
  ·conv=>whnf
   refine CallA_v (ch43 c) rfl rfl ?_
   conv=>whnf
   cases valL c with
   | false =>
    conv=>whnf
    refine brk_i (fun _ => ?_) (fun h => absurd h (by simp [he]))
    conv=>whnf
    repeat' (first
     | (refine CallA_v (ch22) rfl rfl ?_; conv=>whnf)
     | (refine CallA_view (ch22) rfl 1 rfl ?_; conv=>whnf)
     | (refine DrawCall_v (ch22) rfl rfl ?_; conv=>whnf)
     | (refine DrawCall_view (ch22) rfl 1 rfl ?_; conv=>whnf)
     | (refine arith_in (wrap_i64 (by (try dsimp only); omega)) ?_; conv=>whnf)
     | (refine elemK_nat (by assumption) ?_; conv=>whnf)
     | (refine ownK_whole (by first | rfl | assumption | (simp [Els.len]; done) | (simp [Els.len]; omega)) ?_; conv=>whnf)
     | (refine chk_i (by first | (exact decide_eq_true (by (try simp only [List.length_map]); omega)) | (simp [Els.len, Els.cons, V.cells, Els.toV, injL]; done) | (simp [Els.len, Els.cons, V.cells, Els.toV, injL]; omega)) ?_; conv=>whnf)
     | fail)
    exact RetA_view 1 rfl ⟨⟨rfl, rfl⟩, rfl⟩
   | true =>
    conv=>whnf
    refine brk_i (fun _ => ?_) (fun h => absurd h (by simp [he]))
    conv=>whnf
    repeat' (first
     | (refine CallA_v (ch22) rfl rfl ?_; conv=>whnf)
     | (refine CallA_view (ch22) rfl 1 rfl ?_; conv=>whnf)
     | (refine DrawCall_v (ch22) rfl rfl ?_; conv=>whnf)
     | (refine DrawCall_view (ch22) rfl 1 rfl ?_; conv=>whnf)
     | (refine arith_in (wrap_i64 (by (try dsimp only); omega)) ?_; conv=>whnf)
     | (refine elemK_nat (by assumption) ?_; conv=>whnf)
     | (refine ownK_whole (by first | rfl | assumption | (simp [Els.len]; done) | (simp [Els.len]; omega)) ?_; conv=>whnf)
     | (refine chk_i (by first | (exact decide_eq_true (by (try simp only [List.length_map]); omega)) | (simp [Els.len, Els.cons, V.cells, Els.toV, injL]; done) | (simp [Els.len, Els.cons, V.cells, Els.toV, injL]; omega)) ?_; conv=>whnf)
     | fail)
    exact RetA_view 1 rfl ⟨⟨rfl, rfl⟩, rfl⟩
 obtain ⟨hst, hbx⟩ := ptsE_std he
 have hv := stdE_ok hst
 have hbr := boxE_ok hbx
 refine brk_i (fun h => absurd h (by simp [hbx])) (fun _ => ?_)
 conv=>whnf
 refine CallA_v (ch43 c) rfl rfl ?_
 conv=>whnf
 rw [show valL c = true from decide_eq_true hv]
 conv=>whnf
 refine brk_i (fun h => absurd h (by simp [he])) (fun _ => ?_)
 have hmem := mem_pts he
 have hsrt := pts_sorted c x.day x.mark x.box
 have hal := among_in (s := x.box.x) (n := n) (by omega) hn.1
 have h3 : (n.tdiv 3) = n / 3 := Int.tdiv_eq_ediv_of_nonneg hn.1
 have hbl := among_in (s := x.box.y) (n := n / 3) (by omega) (by omega)
 have ca : FnV Tryz.prog 57 [.agg (Span.cells x.box.x), i64 n] (i64 (amongF x.box.x n)) := ch57 x.box.x n (by omega) (by omega) (by omega)
 have cb : FnV Tryz.prog 57 [.agg (Span.cells x.box.y), i64 (n / 3)] (i64 (amongF x.box.y (n / 3))) := ch57 x.box.y (n / 3) (by omega) (by omega) (by omega)
 generalize amongF x.box.x n = a at hal ca
 generalize amongF x.box.y (n / 3) = b at hbl cb
 have e1 : ptsE c x.day x.mark (oneB x.box a) = 0 := ptsE_of hst (boxE_of ⟨by show -30000 ≤ x.box.x.lo ∧ x.box.x.lo ≤ a ∧ a ≤ 30000 ∧ a - x.box.x.lo ≤ 40; omega, hbr.2⟩)
 have e2 : ptsE c x.day x.mark (twoB x.box a) = 0 := ptsE_of hst (boxE_of ⟨by show -30000 ≤ min x.box.x.hi (a + 1) ∧ min x.box.x.hi (a + 1) ≤ x.box.x.hi ∧ x.box.x.hi ≤ 30000 ∧ x.box.x.hi - min x.box.x.hi (a + 1) ≤ 40; omega, hbr.2⟩)
 have hm1 := mem_pts e1
 have hm2 := mem_pts e2
 have hp : Pin 30000 ⟨a, b⟩ := ⟨by show -30000 ≤ a ∧ a ≤ 30000; omega, by show -30000 ≤ b ∧ b ≤ 30000; omega⟩
 have e3 : ptsE c x.day x.mark (ptB ⟨a, b⟩) = 0 := ptsE_of hst (boxE_of ⟨by show -30000 ≤ a ∧ a ≤ a ∧ a ≤ 30000 ∧ a - a ≤ 40; omega, by show -30000 ≤ b ∧ b ≤ b ∧ b ≤ 30000 ∧ b - b ≤ 40; omega⟩)
 have h1L := pts_one e3
 obtain ⟨sE, sV⟩ := seen_std (k := x.mark) hst hp
 have c1 : FnV Tryz.prog 34 [c.d, i64 x.day, i64 x.mark, (oneB x.box a).d] (.tup [intsD (ptsL c x.day x.mark (oneB x.box a)), i64 0]) := FnV.cast (ch34 c x.day x.mark (oneB x.box a)) (by rw [e1])
 have c2 : FnV Tryz.prog 34 [c.d, i64 x.day, i64 x.mark, (twoB x.box a).d] (.tup [intsD (ptsL c x.day x.mark (twoB x.box a)), i64 0]) := FnV.cast (ch34 c x.day x.mark (twoB x.box a)) (by rw [e2])
 have c3 : FnV Tryz.prog 34 [c.d, i64 x.day, i64 x.mark, (ptB ⟨a, b⟩).d] (.tup [intsD (if sameP (marM c x.day x.mark).at' ⟨a, b⟩ then [] else [towF ((marM c x.day x.mark).at'.sub ⟨a, b⟩)]), i64 0]) := FnV.cast (ch34 c x.day x.mark (ptB ⟨a, b⟩)) (by rw [e3, h1L])
 have c4 : FnV Tryz.prog 32 [c.d, i64 x.day, i64 x.mark, Pt.d ⟨a, b⟩] (.tup [i64 (if sameP (marM c x.day x.mark).at' ⟨a, b⟩ then 0 else towF ((marM c x.day x.mark).at'.sub ⟨a, b⟩)), i64 (if sameP (marM c x.day x.mark).at' ⟨a, b⟩ then 8 else 0)]) := FnV.cast (ch32 c x.day x.mark ⟨a, b⟩) (by rw [sE, sV])
 have hlm := ptsL_len c x.day x.mark (oneB x.box a)
 have hln := ptsL_len c x.day x.mark (twoB x.box a)
 have hsub1 : ∀ q ∈ ptsL c x.day x.mark (oneB x.box a), q ∈ ptsL c x.day x.mark x.box := by
  intro q hq
  rw [hmem]
  obtain ⟨p, hp, h⟩ := (hm1 q).1 hq
  refine ⟨p, ?_, h⟩
  rw [mem_movesL] at hp ⊢
  have hp : (x.box.x.lo ≤ p.x ∧ p.x ≤ a) ∧ _ := hp
  exact ⟨by omega, hp.2⟩
 have hsub2 : ∀ q ∈ ptsL c x.day x.mark (twoB x.box a), q ∈ ptsL c x.day x.mark x.box := by
  intro q hq
  rw [hmem]
  obtain ⟨p, hp, h⟩ := (hm2 q).1 hq
  refine ⟨p, ?_, h⟩
  rw [mem_movesL] at hp ⊢
  have hp : (min x.box.x.hi (a + 1) ≤ p.x ∧ p.x ≤ x.box.x.hi) ∧ _ := hp
  exact ⟨by omega, hp.2⟩
 have hcov : ∀ q ∈ ptsL c x.day x.mark x.box, ¬ q ∈ ptsL c x.day x.mark (oneB x.box a) → q ∈ ptsL c x.day x.mark (twoB x.box a) := by
  intro q hq hno
  obtain ⟨p, hp, h⟩ := (hmem q).1 hq
  rw [mem_movesL] at hp
  by_cases hpa : p.x ≤ a
  ·refine absurd ((hm1 q).2 ⟨p, ?_, h⟩) hno
   rw [mem_movesL]
   exact ⟨⟨hp.1.1, hpa⟩, hp.2⟩
  ·rw [hm2]
   refine ⟨p, ?_, h⟩
   rw [mem_movesL]
   exact ⟨⟨by show min x.box.x.hi (a + 1) ≤ p.x; omega, hp.1.2⟩, hp.2⟩
 have htow : ¬ sameP (marM c x.day x.mark).at' ⟨a, b⟩ = true → towF ((marM c x.day x.mark).at'.sub ⟨a, b⟩) ∈ ptsL c x.day x.mark x.box := by
  intro hs
  rw [hmem]
  refine ⟨⟨a, b⟩, ?_, same_NZ (by simpa using hs), rfl⟩
  rw [mem_movesL]
  exact ⟨hal, hbl⟩
 have htb : ¬ sameP (marM c x.day x.mark).at' ⟨a, b⟩ = true → 0 ≤ towF ((marM c x.day x.mark).at'.sub ⟨a, b⟩) := fun hs => (towF_in (same_NZ (by simpa using hs))).1
 clear hm1 hm2 hmem h1L sE sV hbad
 generalize ptsL c x.day x.mark (oneB x.box a) = M at *
 generalize ptsL c x.day x.mark (twoB x.box a) = N at *
 generalize ptsL c x.day x.mark x.box = l at *
 generalize towF ((marM c x.day x.mark).at'.sub ⟨a, b⟩) = T at *
 generalize hS : sameP (marM c x.day x.mark).at' ⟨a, b⟩ = S at *
 have w1 : FnV Tryz.prog 45 [intsD M, intsD l] (.bool true) := within_true hlm hll hsub1
 have w2 : FnV Tryz.prog 45 [intsD N, intsD l] (.bool true) := within_true hln hll hsub2
 have hsort : ∀ (i j : Nat), i < j → ∀ (p q : Int), l[i]? = some p → l[j]? = some q → p < q := by
  intro i j hij p q hp hq
  obtain ⟨hi, rfl⟩ := List.getElem?_eq_some_iff.1 hp
  obtain ⟨hj, rfl⟩ := List.getElem?_eq_some_iff.1 hq
  exact List.pairwise_iff_getElem.1 hsrt i j hi hj hij
 conv=>whnf
 refine arith_in (wrap_i64 (by (try dsimp only); omega)) ?_
 conv=>whnf
 refine CallA_v (ds := [.agg (Span.cells x.box.x), i64 n]) (fun {σ} => ca) rfl rfl ?_
 conv=>whnf
 refine arith_in (wrap_i64 (by (try dsimp only); omega)) ?_
 conv=>whnf
 refine CallA_v (ds := [c.d, i64 x.day, i64 x.mark, (oneB x.box a).d]) (fun {σ} => c1) rfl rfl ?_
 conv=>whnf
 refine CallA_v (ds := [c.d, i64 x.day, i64 x.mark, (twoB x.box a).d]) (fun {σ} => c2) rfl rfl ?_
 conv=>whnf
 refine CallA_v (ds := [intsD M, intsD l]) (fun {σ} => w1) rfl rfl ?_
 conv=>whnf
 refine CallA_v (ds := [intsD N, intsD l]) (fun {σ} => w2) rfl rfl ?_
 conv=>whnf
 refine LoopA_i (T := tys) tysOk (by exact drawsB_spec mixed tysOk (by decide +kernel)) l (fun i (_ : Unit) => ⟨[(2, .d (.int .u8 n)), (3, .ptr 3 0), (4, .ptr 4 0), (7, .d (intsD l)), (9, .ptr 9 0), (12, .d (intsD M)), (14, .d (intsD N)), (16, .d (i64 i))], [(3, .box (.dd c.cells)), (4, .box (.dd x.cells)), (9, .box (.dd x.box.cells))], st⟩) (fun i r _ => True) () (Wk.sub ⟨(by first | rfl | (simp only [List.length_map]; rfl) | simp [PX.get]), (by first | rfl | (simp only [List.length_map]; rfl) | simp [PX.get]), (by first | rfl | (simp only [List.length_map]; rfl) | simp [PX.get]), (by first | rfl | (simp only [List.length_map]; rfl) | simp [PX.get]), (by first | rfl | (simp only [List.length_map]; rfl) | simp [PX.get]), (by first | rfl | (simp only [List.length_map]; rfl) | simp [PX.get]), (by first | rfl | (simp only [List.length_map]; rfl) | simp [PX.get]), (by first | rfl | (simp only [List.length_map]; rfl) | simp [PX.get]), trivial⟩ ⟨(by first | rfl | (simp only [List.length_map]; rfl) | simp [PX.get]), (by first | rfl | (simp only [List.length_map]; rfl) | simp [PX.get]), (by first | rfl | (simp only [List.length_map]; rfl) | simp [PX.get]), trivial⟩) trivial ?_ ?_
 ·rintro i q r _ hqi hi hir _
  have hql := List.mem_of_getElem? hqi
  conv=>whnf
  refine brk_i (fun _ => ?_) (fun h => absurd hi (by simpa using h))
  conv=>whnf
  refine elemK_nat hqi ?_
  conv=>whnf
  refine DrawCall_v (ds := [intsD M, i64 q]) (ch48 M hlm q) rfl rfl ?_
  cases hM : decide (q ∈ M) with
  | true =>
   conv=>whnf
   refine brk_i (fun h3 => ?_) (fun h3 => ?_)
   ·have h3 : 0 < i := by have := of_decide_eq_true h3; omega
    obtain ⟨q', hq'⟩ : ∃ q', l[i - 1]? = some q' := ⟨_, List.getElem?_eq_getElem (by omega)⟩
    have hlt := hsort (i - 1) i (by omega) q' q hq' hqi
    conv=>whnf
    refine elemK_nat hqi ?_
    conv=>whnf
    refine arith_to (((i - 1 : Nat) : Int)) (by (try dsimp only); omega) (wrap_i64 (by (try dsimp only); omega)) ?_
    conv=>whnf
    refine elemK_nat hq' ?_
    conv=>whnf
    refine brk_i (fun h => absurd (of_decide_eq_true h) (by omega)) (fun _ => ?_)
    conv=>whnf
    refine arith_in (wrap_i64 (by (try dsimp only); omega)) ?_
    conv=>whnf
    exact ⟨(), trivial, (Wk.sub ⟨(by first | rfl | (simp only [List.length_map]; rfl) | simp [PX.get]), (by first | rfl | (simp only [List.length_map]; rfl) | simp [PX.get]), (by first | rfl | (simp only [List.length_map]; rfl) | simp [PX.get]), (by first | rfl | (simp only [List.length_map]; rfl) | simp [PX.get]), (by first | rfl | (simp only [List.length_map]; rfl) | simp [PX.get]), (by first | rfl | (simp only [List.length_map]; rfl) | simp [PX.get]), (by first | rfl | (simp only [List.length_map]; rfl) | simp [PX.get]), (by first | rfl | (simp only [List.length_map]; rfl) | simp [PX.get]), trivial⟩ ⟨(by first | rfl | (simp only [List.length_map]; rfl) | simp [PX.get]), (by first | rfl | (simp only [List.length_map]; rfl) | simp [PX.get]), (by first | rfl | (simp only [List.length_map]; rfl) | simp [PX.get]), trivial⟩)⟩
   ·conv=>whnf
    refine arith_in (wrap_i64 (by (try dsimp only); omega)) ?_
    conv=>whnf
    exact ⟨(), trivial, (Wk.sub ⟨(by first | rfl | (simp only [List.length_map]; rfl) | simp [PX.get]), (by first | rfl | (simp only [List.length_map]; rfl) | simp [PX.get]), (by first | rfl | (simp only [List.length_map]; rfl) | simp [PX.get]), (by first | rfl | (simp only [List.length_map]; rfl) | simp [PX.get]), (by first | rfl | (simp only [List.length_map]; rfl) | simp [PX.get]), (by first | rfl | (simp only [List.length_map]; rfl) | simp [PX.get]), (by first | rfl | (simp only [List.length_map]; rfl) | simp [PX.get]), (by first | rfl | (simp only [List.length_map]; rfl) | simp [PX.get]), trivial⟩ ⟨(by first | rfl | (simp only [List.length_map]; rfl) | simp [PX.get]), (by first | rfl | (simp only [List.length_map]; rfl) | simp [PX.get]), (by first | rfl | (simp only [List.length_map]; rfl) | simp [PX.get]), trivial⟩)⟩
  | false =>
   have hN : decide (q ∈ N) = true := decide_eq_true (hcov q hql (of_decide_eq_false hM))
   conv=>whnf
   refine elemK_nat hqi ?_
   conv=>whnf
   refine DrawCall_v (ds := [intsD N, i64 q]) (ch48 N hln q) rfl rfl ?_
   rw [hN]
   conv=>whnf
   refine brk_i (fun h3 => ?_) (fun h3 => ?_)
   ·have h3 : 0 < i := by have := of_decide_eq_true h3; omega
    obtain ⟨q', hq'⟩ : ∃ q', l[i - 1]? = some q' := ⟨_, List.getElem?_eq_getElem (by omega)⟩
    have hlt := hsort (i - 1) i (by omega) q' q hq' hqi
    conv=>whnf
    refine elemK_nat hqi ?_
    conv=>whnf
    refine arith_to (((i - 1 : Nat) : Int)) (by (try dsimp only); omega) (wrap_i64 (by (try dsimp only); omega)) ?_
    conv=>whnf
    refine elemK_nat hq' ?_
    conv=>whnf
    refine brk_i (fun h => absurd (of_decide_eq_true h) (by omega)) (fun _ => ?_)
    conv=>whnf
    refine arith_in (wrap_i64 (by (try dsimp only); omega)) ?_
    conv=>whnf
    exact ⟨(), trivial, (Wk.sub ⟨(by first | rfl | (simp only [List.length_map]; rfl) | simp [PX.get]), (by first | rfl | (simp only [List.length_map]; rfl) | simp [PX.get]), (by first | rfl | (simp only [List.length_map]; rfl) | simp [PX.get]), (by first | rfl | (simp only [List.length_map]; rfl) | simp [PX.get]), (by first | rfl | (simp only [List.length_map]; rfl) | simp [PX.get]), (by first | rfl | (simp only [List.length_map]; rfl) | simp [PX.get]), (by first | rfl | (simp only [List.length_map]; rfl) | simp [PX.get]), (by first | rfl | (simp only [List.length_map]; rfl) | simp [PX.get]), trivial⟩ ⟨(by first | rfl | (simp only [List.length_map]; rfl) | simp [PX.get]), (by first | rfl | (simp only [List.length_map]; rfl) | simp [PX.get]), (by first | rfl | (simp only [List.length_map]; rfl) | simp [PX.get]), trivial⟩)⟩
   ·conv=>whnf
    refine arith_in (wrap_i64 (by (try dsimp only); omega)) ?_
    conv=>whnf
    exact ⟨(), trivial, (Wk.sub ⟨(by first | rfl | (simp only [List.length_map]; rfl) | simp [PX.get]), (by first | rfl | (simp only [List.length_map]; rfl) | simp [PX.get]), (by first | rfl | (simp only [List.length_map]; rfl) | simp [PX.get]), (by first | rfl | (simp only [List.length_map]; rfl) | simp [PX.get]), (by first | rfl | (simp only [List.length_map]; rfl) | simp [PX.get]), (by first | rfl | (simp only [List.length_map]; rfl) | simp [PX.get]), (by first | rfl | (simp only [List.length_map]; rfl) | simp [PX.get]), (by first | rfl | (simp only [List.length_map]; rfl) | simp [PX.get]), trivial⟩ ⟨(by first | rfl | (simp only [List.length_map]; rfl) | simp [PX.get]), (by first | rfl | (simp only [List.length_map]; rfl) | simp [PX.get]), (by first | rfl | (simp only [List.length_map]; rfl) | simp [PX.get]), trivial⟩)⟩
 ·rintro _ _
  conv=>whnf
  refine brk_i (fun h => absurd h (by simp)) (fun _ => ?_)
  conv=>whnf
  refine arith_in (wrap_i64 (by (try dsimp only); omega)) ?_
  conv=>whnf
  refine DrawCall_v (ds := [.agg (Span.cells x.box.x), i64 n]) (fun {σ} => ca) rfl rfl ?_
  conv=>whnf
  refine arith_in (wrap_i64 (by (try dsimp only); omega)) ?_
  conv=>whnf
  refine arith_to (n / 3) h3 (wrap_i64 (by omega)) ?_
  conv=>whnf
  refine DrawCall_v (ds := [.agg (Span.cells x.box.y), i64 (n / 3)]) (fun {σ} => cb) rfl rfl ?_
  conv=>whnf
  refine DrawCall_v (ch42 a b) rfl rfl ?_
  conv=>whnf
  cases S with
  | true =>
   have c4 : FnV Tryz.prog 32 [c.d, i64 x.day, i64 x.mark, Pt.d ⟨a, b⟩] (.tup [i64 0, i64 8]) := c4
   have c3 : FnV Tryz.prog 34 [c.d, i64 x.day, i64 x.mark, (ptB ⟨a, b⟩).d] (.tup [intsD [], i64 0]) := c3
   refine CallA_v (ds := [c.d, i64 x.day, i64 x.mark, Pt.d ⟨a, b⟩]) (fun {σ} => c4) rfl rfl ?_
   conv=>whnf
   refine DrawCall_v (ch52 a a b b) rfl rfl ?_
   conv=>whnf
   refine DrawCall_v (ds := [c.d, i64 x.day, i64 x.mark, (ptB ⟨a, b⟩).d]) (fun {σ} => c3) rfl rfl ?_
   conv=>whnf
   refine CallA_v (ds := []) ch22 rfl rfl ?_
   conv=>whnf
   exact RetA_view 1 rfl ⟨⟨rfl, rfl⟩, rfl⟩
  | false =>
   have hTl := htow (by simp)
   have hT0 := htb (by simp)
   have c4 : FnV Tryz.prog 32 [c.d, i64 x.day, i64 x.mark, Pt.d ⟨a, b⟩] (.tup [i64 T, i64 0]) := c4
   have c3 : FnV Tryz.prog 34 [c.d, i64 x.day, i64 x.mark, (ptB ⟨a, b⟩).d] (.tup [intsD [T], i64 0]) := c3
   refine CallA_v (ds := [c.d, i64 x.day, i64 x.mark, Pt.d ⟨a, b⟩]) (fun {σ} => c4) rfl rfl ?_
   conv=>whnf
   refine DrawCall_v (ch52 a a b b) rfl rfl ?_
   conv=>whnf
   refine DrawCall_v (ds := [c.d, i64 x.day, i64 x.mark, (ptB ⟨a, b⟩).d]) (fun {σ} => c3) rfl rfl ?_
   conv=>whnf
   first
    | refine CallA_v (ds := [intsD [T], intsD [T]]) (a16 [T] (by simp)) rfl rfl ?_
    | refine CallA_view (ds := [intsD [T], intsD [T]]) (a16 [T] (by simp)) rfl 1 rfl ?_
   conv=>whnf
   refine CallA_v (ds := [intsD l, i64 T]) (ch48 l hll T) rfl rfl ?_
   rw [decide_eq_true hTl]
   conv=>whnf
   refine CallA_v (ds := []) ch22 rfl rfl ?_
   conv=>whnf
   exact RetA_view 1 rfl ⟨⟨rfl, rfl⟩, rfl⟩
end Go.PX
