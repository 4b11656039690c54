import Derived.Test.YtboaolnlajoanaaGreatDoorPxN
set_option linter.all false
set_option maxRecDepth 10000
namespace Go.PX
open Go.Proofs
theorem e1 : vecV 31 = ⟨-195, 981⟩ ∧ vecE 31 = 0 := by decide +kernel
theorem e2 : onA exC ⟨150, 50⟩ = [0] ∧ onB exC ⟨150, 50⟩ = [0] ∧ openX exC ⟨150, 50⟩ = 0 := by decide +kernel
theorem e3 : onA exC ⟨205, 50⟩ = [] ∧ onB exC ⟨205, 50⟩ = [0] ∧ openX exC ⟨205, 50⟩ = 0 := by decide +kernel
theorem e4 : clearV exC ⟨0, 0⟩ 101 = (0, ⟨0, -5⟩) ∧ clearE exC ⟨0, 0⟩ 101 = 0 := by decide +kernel
theorem e5 : clearE exC ⟨0, 0⟩ 100 = 4 := by decide +kernel
theorem e6 : radV exC ⟨0, 0⟩ = 100 ∧ openX exC ⟨0, 0⟩ = 0 := by decide +kernel
theorem e7 : marC exC 50 0 = 2 ∧ marE exC 50 0 = 0 := by decide +kernel
theorem e8 : seenV exC 20 0 ⟨0, 0⟩ = 3 ∧ seenE exC 20 0 ⟨0, 0⟩ = 0 := by decide +kernel
theorem e9 : ptsL exC 20 1 ⟨⟨-2010, -1990⟩, ⟨0, 0⟩⟩ = [8, 24] ∧ ptsE exC 20 1 ⟨⟨-2010, -1990⟩, ⟨0, 0⟩⟩ = 0 := by decide +kernel
theorem e10 : writeX exC = exT ∧ (checkX exC).2.2 = 0 := by decide +kernel
theorem e11 : readX exT = (exC, 0) := by decide +kernel
theorem e12 : seenE exC 90 1 ⟨0, 0⟩ = 9 := by decide +kernel
end Go.PX
namespace Go.PX
open Go.Proofs
theorem a1 : FnV Tryz.prog 16 [i64 31] (.tup [Pt.d ⟨-195, 981⟩, i64 0]) := FnV.cast (ch16 31) (by rw [e1.1, e1.2])
theorem a2 : FnV Tryz.prog 23 [exC.d, Pt.d ⟨150, 50⟩] (.tup [intsD [0], intsD [0], i64 0]) := FnV.cast (ch23 exC ⟨150, 50⟩) (by rw [e2.1, e2.2.1, e2.2.2])
theorem a3 : FnV Tryz.prog 23 [exC.d, Pt.d ⟨205, 50⟩] (.tup [intsD [], intsD [0], i64 0]) := FnV.cast (ch23 exC ⟨205, 50⟩) (by rw [e3.1, e3.2.1, e3.2.2])
theorem a4 : FnV Tryz.prog 26 [exC.d, Pt.d ⟨0, 0⟩, i64 101] (.tup [i64 0, Pt.d ⟨0, -5⟩, i64 0]) := FnV.cast (ch26 exC ⟨0, 0⟩ 101) (by rw [e4.1, e4.2])
theorem a5 : FnV Tryz.prog 26 [exC.d, Pt.d ⟨0, 0⟩, i64 100] (.tup [i64 (clearV exC ⟨0, 0⟩ 100).1, (clearV exC ⟨0, 0⟩ 100).2.d, i64 4]) := FnV.cast (ch26 exC ⟨0, 0⟩ 100) (by rw [e5])
theorem a6 : FnV Tryz.prog 28 [exC.d, Pt.d ⟨0, 0⟩] (.tup [i64 100, i64 0]) := FnV.cast (ch28 exC ⟨0, 0⟩) (by rw [e6.1, e6.2])
theorem a7 : FnV Tryz.prog 30 [exC.d, i64 50, i64 0] (.tup [i64 2, i64 0]) := FnV.cast (ch30 exC 50 0) (by rw [e7.1, e7.2])
theorem a8 : FnV Tryz.prog 32 [exC.d, i64 20, i64 0, Pt.d ⟨0, 0⟩] (.tup [i64 3, i64 0]) := FnV.cast (ch32 exC 20 0 ⟨0, 0⟩) (by rw [e8.1, e8.2])
theorem a9 : FnV Tryz.prog 34 [exC.d, i64 20, i64 1, Box.d ⟨⟨-2010, -1990⟩, ⟨0, 0⟩⟩] (.tup [intsD [8, 24], i64 0]) := FnV.cast (ch34 exC 20 1 ⟨⟨-2010, -1990⟩, ⟨0, 0⟩⟩) (by rw [e9.1, e9.2])
theorem a10 : FnV Tryz.prog 36 [exC.d] (.tup [.str exT, i64 0]) := FnV.cast (ch36 exC) (by rw [e10.1, e10.2])
theorem a11 : FnV Tryz.prog 38 [.str exT] (.tup [exC.d, i64 0]) := FnV.cast (ch38 exT) (by rw [e11])
theorem a12 : FnV Tryz.prog 32 [exC.d, i64 90, i64 1, Pt.d ⟨0, 0⟩] (.tup [i64 (seenV exC 90 1 ⟨0, 0⟩), i64 9]) := FnV.cast (ch32 exC 90 1 ⟨0, 0⟩) (by rw [e12])
theorem few_ex : FewC exC := ⟨by decide, by decide, by decide, by decide⟩
theorem a13 : FnV Tryz.prog 40 [exC.d, exC.d] (.bool true) := FnV.cast (ch40 exC exC few_ex) (by simp)
theorem a14 : FnV Tryz.prog 18 [.str ⟨#[97, 45, 98]⟩] (.bool true) := FnV.cast (fn47 ⟨#[97, 45, 98]⟩) (congrArg D.bool (by decide +kernel))
theorem a15 : FnV Tryz.prog 18 [.str ⟨#[97, 45, 45, 98]⟩] (.bool false) := FnV.cast (fn47 ⟨#[97, 45, 45, 98]⟩) (congrArg D.bool (by decide +kernel))
theorem a16 (l : List Int) (hl : l.length < 1000000) : FnV Tryz.prog 25 [intsD l, intsD l] (.bool true) := FnV.cast (fn19 l l hl) (by simp)
set_option maxHeartbeats 8000000 in
theorem ch22 : FnV Tryz.prog 22 [] (.bool true) := by
 refine fnV_of mixed tysOk Tryz.func22 rfl (ft := ft22) 0 (by decide +kernel) (by rfl) fun {σ} Y st => ?_
 conv=>whnf
 repeat' (first
  | (refine CallA_v (a1) rfl rfl ?_; conv=>whnf)
  | (refine CallA_view (a1) rfl 1 rfl ?_; conv=>whnf)
  | (refine DrawCall_v (a1) rfl rfl ?_; conv=>whnf)
  | (refine DrawCall_view (a1) rfl 1 rfl ?_; conv=>whnf)
  | (refine CallA_v (ch41) rfl rfl ?_; conv=>whnf)
  | (refine CallA_view (ch41) rfl 1 rfl ?_; conv=>whnf)
  | (refine DrawCall_v (ch41) rfl rfl ?_; conv=>whnf)
  | (refine DrawCall_view (ch41) rfl 1 rfl ?_; conv=>whnf)
  | (refine CallA_v (ch42 _ _) rfl rfl ?_; conv=>whnf)
  | (refine CallA_view (ch42 _ _) rfl 1 rfl ?_; conv=>whnf)
  | (refine DrawCall_v (ch42 _ _) rfl rfl ?_; conv=>whnf)
  | (refine DrawCall_view (ch42 _ _) rfl 1 rfl ?_; conv=>whnf)
  | (refine CallA_v (ch52 _ _ _ _) rfl rfl ?_; conv=>whnf)
  | (refine CallA_view (ch52 _ _ _ _) rfl 1 rfl ?_; conv=>whnf)
  | (refine DrawCall_v (ch52 _ _ _ _) rfl rfl ?_; conv=>whnf)
  | (refine DrawCall_view (ch52 _ _ _ _) rfl 1 rfl ?_; conv=>whnf)
  | (refine CallA_v (a2) rfl rfl ?_; conv=>whnf)
  | (refine CallA_view (a2) rfl 1 rfl ?_; conv=>whnf)
  | (refine DrawCall_v (a2) rfl rfl ?_; conv=>whnf)
  | (refine DrawCall_view (a2) rfl 1 rfl ?_; conv=>whnf)
  | (refine CallA_v (a3) rfl rfl ?_; conv=>whnf)
  | (refine CallA_view (a3) rfl 1 rfl ?_; conv=>whnf)
  | (refine DrawCall_v (a3) rfl rfl ?_; conv=>whnf)
  | (refine DrawCall_view (a3) rfl 1 rfl ?_; conv=>whnf)
  | (refine CallA_v (a4) rfl rfl ?_; conv=>whnf)
  | (refine CallA_view (a4) rfl 1 rfl ?_; conv=>whnf)
  | (refine DrawCall_v (a4) rfl rfl ?_; conv=>whnf)
  | (refine DrawCall_view (a4) rfl 1 rfl ?_; conv=>whnf)
  | (refine CallA_v (a5) rfl rfl ?_; conv=>whnf)
  | (refine CallA_view (a5) rfl 1 rfl ?_; conv=>whnf)
  | (refine DrawCall_v (a5) rfl rfl ?_; conv=>whnf)
  | (refine DrawCall_view (a5) rfl 1 rfl ?_; conv=>whnf)
  | (refine CallA_v (a6) rfl rfl ?_; conv=>whnf)
  | (refine CallA_view (a6) rfl 1 rfl ?_; conv=>whnf)
  | (refine DrawCall_v (a6) rfl rfl ?_; conv=>whnf)
  | (refine DrawCall_view (a6) rfl 1 rfl ?_; conv=>whnf)
  | (refine CallA_v (a7) rfl rfl ?_; conv=>whnf)
  | (refine CallA_view (a7) rfl 1 rfl ?_; conv=>whnf)
  | (refine DrawCall_v (a7) rfl rfl ?_; conv=>whnf)
  | (refine DrawCall_view (a7) rfl 1 rfl ?_; conv=>whnf)
  | (refine CallA_v (a8) rfl rfl ?_; conv=>whnf)
  | (refine CallA_view (a8) rfl 1 rfl ?_; conv=>whnf)
  | (refine DrawCall_v (a8) rfl rfl ?_; conv=>whnf)
  | (refine DrawCall_view (a8) rfl 1 rfl ?_; conv=>whnf)
  | (refine CallA_v (a9) rfl rfl ?_; conv=>whnf)
  | (refine CallA_view (a9) rfl 1 rfl ?_; conv=>whnf)
  | (refine DrawCall_v (a9) rfl rfl ?_; conv=>whnf)
  | (refine DrawCall_view (a9) rfl 1 rfl ?_; conv=>whnf)
  | (refine CallA_v (a10) rfl rfl ?_; conv=>whnf)
  | (refine CallA_view (a10) rfl 1 rfl ?_; conv=>whnf)
  | (refine DrawCall_v (a10) rfl rfl ?_; conv=>whnf)
  | (refine DrawCall_view (a10) rfl 1 rfl ?_; conv=>whnf)
  | (refine CallA_v (ch69) rfl rfl ?_; conv=>whnf)
  | (refine CallA_view (ch69) rfl 1 rfl ?_; conv=>whnf)
  | (refine DrawCall_v (ch69) rfl rfl ?_; conv=>whnf)
  | (refine DrawCall_view (ch69) rfl 1 rfl ?_; conv=>whnf)
  | (refine CallA_v (a11) rfl rfl ?_; conv=>whnf)
  | (refine CallA_view (a11) rfl 1 rfl ?_; conv=>whnf)
  | (refine DrawCall_v (a11) rfl rfl ?_; conv=>whnf)
  | (refine DrawCall_view (a11) rfl 1 rfl ?_; conv=>whnf)
  | (refine CallA_v (a12) rfl rfl ?_; conv=>whnf)
  | (refine CallA_view (a12) rfl 1 rfl ?_; conv=>whnf)
  | (refine DrawCall_v (a12) rfl rfl ?_; conv=>whnf)
  | (refine DrawCall_view (a12) rfl 1 rfl ?_; conv=>whnf)
  | (refine CallA_v (a14) rfl rfl ?_; conv=>whnf)
  | (refine CallA_view (a14) rfl 1 rfl ?_; conv=>whnf)
  | (refine DrawCall_v (a14) rfl rfl ?_; conv=>whnf)
  | (refine DrawCall_view (a14) rfl 1 rfl ?_; conv=>whnf)
  | (refine CallA_v (a15) rfl rfl ?_; conv=>whnf)
  | (refine CallA_view (a15) rfl 1 rfl ?_; conv=>whnf)
  | (refine DrawCall_v (a15) rfl rfl ?_; conv=>whnf)
  | (refine DrawCall_view (a15) rfl 1 rfl ?_; conv=>whnf)
  | (refine CallA_v (a16 [0] (by decide)) rfl rfl ?_; conv=>whnf)
  | (refine CallA_view (a16 [0] (by decide)) rfl 1 rfl ?_; conv=>whnf)
  | (refine DrawCall_v (a16 [0] (by decide)) rfl rfl ?_; conv=>whnf)
  | (refine DrawCall_view (a16 [0] (by decide)) rfl 1 rfl ?_; conv=>whnf)
  | (refine CallA_v (a16 [8, 24] (by decide)) rfl rfl ?_; conv=>whnf)
  | (refine CallA_view (a16 [8, 24] (by decide)) rfl 1 rfl ?_; conv=>whnf)
  | (refine DrawCall_v (a16 [8, 24] (by decide)) rfl rfl ?_; conv=>whnf)
  | (refine DrawCall_view (a16 [8, 24] (by decide)) rfl 1 rfl ?_; conv=>whnf)
  | (refine CallA_v (a13) rfl rfl ?_; conv=>whnf)
  | (refine CallA_view (a13) rfl 1 rfl ?_; conv=>whnf)
  | (refine DrawCall_v (a13) rfl rfl ?_; conv=>whnf)
  | (refine DrawCall_view (a13) rfl 1 rfl ?_; conv=>whnf)
  | (refine arith_in (wrap_i64 (by (try dsimp only); omega)) ?_; conv=>whnf)
  | (refine elemK_nat (by assumption) ?_; conv=>whnf)
  | (refine ownK_whole (by first | rfl | assumption | (simp [Els.len]; done) | (simp [Els.len]; omega)) ?_; conv=>whnf)
  | (refine chk_i (by first | (exact decide_eq_true (by (try simp only [List.length_map]); omega)) | (simp [Els.len, Els.cons, V.cells, Els.toV, injL]; done) | (simp [Els.len, Els.cons, V.cells, Els.toV, injL]; omega)) ?_; conv=>whnf)
  | fail)
 exact RetA_view 0 rfl ⟨⟨rfl, rfl⟩, rfl⟩
end Go.PX
namespace Go.PX
open Go.Proofs
theorem few_ok {c : Cht} (h : (checkX c).2.2 = 0) : FewC c := by
 have hR := checkX_ok h
 have h1 := hR.marks
 have h2 := hR.sands
 exact ⟨by omega, by omega, fun m hm => by have := (paintE_ok (hR.mark m hm).2).1; omega, fun s hs => by have := (hR.sand s hs).len; omega⟩
theorem same_self {c : Cht} (h : FewC c) : FnV Tryz.prog 40 [c.d, c.d] (.bool true) := FnV.cast (ch40 c c h) (by simp)
set_option maxHeartbeats 2000000 in
theorem ch15 (c : Cht) (s : ByteArray) : FnV Tryz.prog 15 [c.d, .str s] (.bool true) := by
 refine fnV_of mixed tysOk Tryz.func15 rfl (ft := ft15) 2 (by decide +kernel) (by rfl) fun {σ} Y st => ?_
 conv=>whnf
 refine CallA_v (ch36 c) rfl rfl ?_
 conv=>whnf
 by_cases h0 : (checkX c).2.2 = 0
 ·have hw : writeX c = chtT c := if_pos h0
  rw [hw, h0]
  have hrw := read_write h0
  have hsz := chtT_short h0
  conv=>whnf
  refine CallA_v (ch38 (chtT c)) rfl rfl ?_
  conv=>whnf
  rw [hrw]
  conv=>whnf
  refine CallA_v (ds := [c.d, c.d]) (same_self (few_ok h0)) rfl rfl ?_
  conv=>whnf
  refine brk_i (fun h1 => absurd h1 (by simp; omega)) (fun _ => ?_)
  conv=>whnf
  refine CallA_v (ch38 s) rfl rfl ?_
  conv=>whnf
  by_cases hr : (readX s).2 = 0
  ·obtain ⟨hk, ht⟩ := readX_good hr
   rw [hr]
   conv=>whnf
   refine CallA_v (ds := [(readX s).1.d]) (ch36 (readX s).1) rfl rfl ?_
   have hw : writeX (readX s).1 = s := by unfold writeX; rw [if_pos hk, ht]
   rw [hw, hk]
   conv=>whnf
   rw [decide_eq_true rfl]
   conv=>whnf
   repeat' (first
    | (refine CallA_v (ch22) rfl rfl ?_; conv=>whnf)
    | (refine CallA_view (ch22) rfl 1 rfl ?_; conv=>whnf)
    | (refine DrawCall_v (ch22) rfl rfl ?_; conv=>whnf)
    | (refine DrawCall_view (ch22) rfl 1 rfl ?_; conv=>whnf)
    | (refine arith_in (wrap_i64 (by (try dsimp only); omega)) ?_; conv=>whnf)
    | (refine elemK_nat (by assumption) ?_; conv=>whnf)
    | (refine ownK_whole (by first | rfl | assumption | (simp [Els.len]; done) | (simp [Els.len]; omega)) ?_; conv=>whnf)
    | (refine chk_i (by first | (exact decide_eq_true (by (try simp only [List.length_map]); omega)) | (simp [Els.len, Els.cons, V.cells, Els.toV, injL]; done) | (simp [Els.len, Els.cons, V.cells, Els.toV, injL]; omega)) ?_; conv=>whnf)
    | fail)
   exact RetA_view 1 rfl ⟨⟨rfl, rfl⟩, rfl⟩
  ·have hb := readX_bad hr
   rw [hb]
   refine brk_i (fun _ => ?_) (fun h1 => absurd h1 (by simp [hr]))
   conv=>whnf
   repeat' (first
    | (refine CallA_v (ch22) rfl rfl ?_; conv=>whnf)
    | (refine CallA_view (ch22) rfl 1 rfl ?_; conv=>whnf)
    | (refine DrawCall_v (ch22) rfl rfl ?_; conv=>whnf)
    | (refine DrawCall_view (ch22) rfl 1 rfl ?_; conv=>whnf)
    | (refine arith_to 0 (by rfl) (wrap_i64 (by omega)) ?_; conv=>whnf)
    | (refine arith_in (wrap_i64 (by (try dsimp only); omega)) ?_; conv=>whnf)
    | (refine elemK_nat (by assumption) ?_; conv=>whnf)
    | (refine ownK_whole (by first | rfl | assumption | (simp [Els.len]; done) | (simp [Els.len]; omega)) ?_; conv=>whnf)
    | (refine chk_i (by first | (exact decide_eq_true (by (try simp only [List.length_map]); omega)) | (simp [Els.len, Els.cons, V.cells, Els.toV, injL]; done) | (simp [Els.len, Els.cons, V.cells, Els.toV, injL]; omega)) ?_; conv=>whnf)
    | fail)
   exact RetA_view 1 rfl ⟨⟨rfl, rfl⟩, rfl⟩
 ·refine brk_i (fun h1 => absurd h1 (by simp [h0])) (fun _ => ?_)
  conv=>whnf
  refine CallA_v (ch38 s) rfl rfl ?_
  conv=>whnf
  by_cases hr : (readX s).2 = 0
  ·obtain ⟨hk, ht⟩ := readX_good hr
   rw [hr]
   conv=>whnf
   refine CallA_v (ds := [(readX s).1.d]) (ch36 (readX s).1) rfl rfl ?_
   have hw : writeX (readX s).1 = s := by unfold writeX; rw [if_pos hk, ht]
   rw [hw, hk]
   conv=>whnf
   rw [decide_eq_true rfl]
   conv=>whnf
   repeat' (first
    | (refine CallA_v (ch22) rfl rfl ?_; conv=>whnf)
    | (refine CallA_view (ch22) rfl 1 rfl ?_; conv=>whnf)
    | (refine DrawCall_v (ch22) rfl rfl ?_; conv=>whnf)
    | (refine DrawCall_view (ch22) rfl 1 rfl ?_; conv=>whnf)
    | (refine arith_in (wrap_i64 (by (try dsimp only); omega)) ?_; conv=>whnf)
    | (refine elemK_nat (by assumption) ?_; conv=>whnf)
    | (refine ownK_whole (by first | rfl | assumption | (simp [Els.len]; done) | (simp [Els.len]; omega)) ?_; conv=>whnf)
    | (refine chk_i (by first | (exact decide_eq_true (by (try simp only [List.length_map]); omega)) | (simp [Els.len, Els.cons, V.cells, Els.toV, injL]; done) | (simp [Els.len, Els.cons, V.cells, Els.toV, injL]; omega)) ?_; conv=>whnf)
    | fail)
   exact RetA_view 1 rfl ⟨⟨rfl, rfl⟩, rfl⟩
  ·have hb := readX_bad hr
   rw [hb]
   refine brk_i (fun _ => ?_) (fun h1 => absurd h1 (by simp [hr]))
   conv=>whnf
   repeat' (first
    | (refine CallA_v (ch22) rfl rfl ?_; conv=>whnf)
    | (refine CallA_view (ch22) rfl 1 rfl ?_; conv=>whnf)
    | (refine DrawCall_v (ch22) rfl rfl ?_; conv=>whnf)
    | (refine DrawCall_view (ch22) rfl 1 rfl ?_; conv=>whnf)
    | (refine arith_to 0 (by rfl) (wrap_i64 (by omega)) ?_; conv=>whnf)
    | (refine arith_in (wrap_i64 (by (try dsimp only); omega)) ?_; conv=>whnf)
    | (refine elemK_nat (by assumption) ?_; conv=>whnf)
    | (refine ownK_whole (by first | rfl | assumption | (simp [Els.len]; done) | (simp [Els.len]; omega)) ?_; conv=>whnf)
    | (refine chk_i (by first | (exact decide_eq_true (by (try simp only [List.length_map]); omega)) | (simp [Els.len, Els.cons, V.cells, Els.toV, injL]; done) | (simp [Els.len, Els.cons, V.cells, Els.toV, injL]; omega)) ?_; conv=>whnf)
    | fail)
   exact RetA_view 1 rfl ⟨⟨rfl, rfl⟩, rfl⟩
end Go.PX
