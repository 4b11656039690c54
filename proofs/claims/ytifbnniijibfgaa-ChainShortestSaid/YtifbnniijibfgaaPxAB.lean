import Derived.Test.YtifbnniijibfgaaPxAA
set_option linter.all false
set_option maxRecDepth 10000
namespace Go.PX
open Go.Proofs

def vI (n : Int) : V := .d (i64 n)

/-- The case of the law's own, handed back with its lists. -/
def caseV : V := .agg [.sl 2000001 8 0 2, vI 10, vI 20, vI 100, vI 9000, vI 12000, .sl 2000002 2 0 2, vI 200, vI 300, vI 10, vI 5, vI 1000, .sl 2000003 8 0 2]
def caseH : Heap := [(2000000, .arr 2 (.dd [[i64 100, i64 20200]])), (2000001, .arr 8 (.vv [[.d (.str ⟨#[108, 111, 119]⟩), vI 10, vI 0, vI 20000, vI 21000, vI 2, vI 4, .sl 2000000 2 0 1], [.d (.str ⟨#[104, 105, 103, 104]⟩), vI 10, vI 0, vI 18000, vI 18000, vI 5, vI 5, .d .nils]])),
  (2000002, .arr 2 (.dd [[i64 30, i64 500], [i64 60, i64 1000]])),
  (2000003, .arr 8 (.dd [[i64 20, i64 30, i64 20, i64 40, i64 0, i64 20, i64 0, i64 5], [i64 20, i64 30, i64 0, i64 10, i64 0, i64 10, i64 10, i64 15]]))]

set_option maxHeartbeats 2000000 in
theorem fn23o : FnU Try.prog 23 [.d (.bool false)] [] fun v h' => v = caseV ∧ h' = caseH := by
  intro σ Y s
  refine fnC_of mixed tysOk Try.func23 rfl (ft := ft23) (args := [.d (.bool false)]) (show fnB ft23 Try.f23 1 = true from by decide +kernel) ?_
  conv => whnf
  refine CallA_v (fn28 20000 21000) rfl rfl ?_
  conv => whnf
  refine CallA_v (fn28 2 4) rfl rfl ?_
  conv => whnf
  refine CallA_v (fn28 18000 18000) rfl rfl ?_
  conv => whnf
  refine CallA_v (fn28 5 5) rfl rfl ?_
  conv => whnf
  refine DrawCall_v (fn28 9000 12000) rfl rfl ?_
  conv => whnf
  refine DrawCall_v (fn28 20 30) rfl rfl ?_
  conv => whnf
  refine DrawCall_v (fn28 20 40) rfl rfl ?_
  conv => whnf
  refine DrawCall_v (fn28 0 20) rfl rfl ?_
  conv => whnf
  refine DrawCall_v (fn28 0 5) rfl rfl ?_
  conv => whnf
  refine DrawCall_v (fn28 20 30) rfl rfl ?_
  conv => whnf
  refine DrawCall_v (fn28 0 10) rfl rfl ?_
  conv => whnf
  refine DrawCall_v (fn28 0 10) rfl rfl ?_
  conv => whnf
  refine DrawCall_v (fn28 10 15) rfl rfl ?_
  conv => whnf
  exact RetA_hand [8, 22, 26, 39] [caseV] caseH rfl ⟨rfl, rfl, rfl, rfl, trivial⟩ rfl ⟨⟨rfl, rfl⟩, rfl⟩

def wornC : Case := ⟨⟨[⟨⟨#[108, 111, 119]⟩, 10, 0, ⟨20000, 21000⟩, ⟨2, 4⟩, []⟩, highS], 10, 100, 100, ⟨20000, 20000⟩, [⟨30, 500⟩, ⟨60, 1000⟩]⟩, ⟨200, 300, 10, 5⟩, 1000, [⟨⟨20, 30⟩, ⟨20, 53⟩, ⟨0, 20⟩, ⟨0, 5⟩⟩, ⟨⟨20, 30⟩, ⟨0, 10⟩, ⟨0, 10⟩, ⟨10, 15⟩⟩]⟩

set_option maxHeartbeats 2000000 in
theorem fn26 : FnV Try.prog 26 [] wornC.d := by
  refine FnV.relax (r := .agg ((.vs [(wornC.chain.shots.headD highS).cells.take 7 ++ [.nils], highS.cells.take 7 ++ [.nils]]) :: wornC.cells.tail)) ?_ rfl
  refine fnV_of mixed tysOk Try.func26 rfl (ft := ft26) 0 (by decide +kernel) (by rfl) fun {σ} Y st => ?_
  conv => whnf
  refine CallA_fn fn23o [] rfl rfl rfl ?_
  conv => whnf
  refine CallA_v (fn28 20000 20000) rfl rfl ?_
  conv => whnf
  exact RetA_view 4 (ds := [.agg ((.vs [(wornC.chain.shots.headD highS).cells.take 7 ++ [.nils], highS.cells.take 7 ++ [.nils]]) :: wornC.cells.tail)]) rfl ⟨⟨rfl, rfl⟩, rfl⟩

theorem kn1 : thickE (awakeC false) 0 0 = (⟨20300, 20700⟩, 0) := by decide +kernel
theorem kn2 : thickE (awakeC false) 0 100 = (⟨20100, 20300⟩, 0) := by decide +kernel
theorem kn3 : bearsE (awakeC false) 1 = (⟨8450, 8450⟩, 0) := by decide +kernel
theorem kn4 : pullE (awakeC false) 0 10 = (4673, 0) := by decide +kernel
theorem kn5 : pullE (awakeC false) 1 18 = (709, 0) := by decide +kernel
theorem kn6 : whyE (awakeC false) 9 = ((1, 0, 0), 0) := by decide +kernel
theorem kn7 : whyE (awakeC false) 18 = ((1, 0, 0), 0) := by decide +kernel
theorem kn8 : whyE wornC 20 = ((2, 0, 1), 0) := by decide +kernel
theorem kn9 : renewE wornC = (([], true), 0) := by decide +kernel

set_option maxHeartbeats 2000000 in
theorem fn4 : FnV Try.prog 4 [] (.bool true) := by
  refine fnV_of mixed tysOk Try.func4 rfl (ft := ft4) 0 (by decide +kernel) (by rfl) fun {σ} Y st => ?_
  conv => whnf
  refine CallA_v (fn23 false) rfl rfl ?_
  conv => whnf
  refine CallA_v (ds := [(awakeC false).d, i64 0, i64 0]) (fn15 (awakeC false) 0 0) rfl rfl ?_
  rw [kn1]
  conv => whnf
  refine CallA_v (fn23 false) rfl rfl ?_
  conv => whnf
  refine CallA_v (ds := [(awakeC false).d, i64 0, i64 100]) (fn15 (awakeC false) 0 100) rfl rfl ?_
  rw [kn2]
  conv => whnf
  refine CallA_v (fn23 false) rfl rfl ?_
  conv => whnf
  refine CallA_v (ds := [(awakeC false).d, i64 1]) (fn20 (awakeC false) 1) rfl rfl ?_
  rw [kn3]
  conv => whnf
  refine CallA_v (fn23 false) rfl rfl ?_
  conv => whnf
  refine CallA_v (ds := [(awakeC false).d, i64 0, i64 10]) (fn24 (awakeC false) 0 10) rfl rfl ?_
  rw [kn4]
  conv => whnf
  refine CallA_v (fn23 false) rfl rfl ?_
  conv => whnf
  refine CallA_v (ds := [(awakeC false).d, i64 1, i64 18]) (fn24 (awakeC false) 1 18) rfl rfl ?_
  rw [kn5]
  conv => whnf
  refine CallA_v (fn23 false) rfl rfl ?_
  conv => whnf
  refine CallA_v (ds := [(awakeC false).d, i64 9]) (fn25 (awakeC false) 9) rfl rfl ?_
  rw [kn6]
  conv => whnf
  refine CallA_v (fn23 false) rfl rfl ?_
  conv => whnf
  refine CallA_v (ds := [(awakeC false).d, i64 18]) (fn25 (awakeC false) 18) rfl rfl ?_
  rw [kn7]
  conv => whnf
  refine CallA_v (fn26) rfl rfl ?_
  conv => whnf
  refine CallA_v (ds := [wornC.d, i64 20]) (fn25 wornC 20) rfl rfl ?_
  rw [kn8]
  conv => whnf
  refine CallA_v (fn26) rfl rfl ?_
  conv => whnf
  refine CallA_v (ds := [wornC.d]) (fn27 wornC) rfl rfl ?_
  rw [kn9]
  conv => whnf
  refine DrawCall_v (fn28 20300 20700) rfl rfl ?_
  conv => whnf
  refine DrawCall_v (fn28 20100 20300) rfl rfl ?_
  conv => whnf
  refine DrawCall_v (fn28 8450 8450) rfl rfl ?_
  conv => whnf
  refine DrawCall_v (fn22) rfl rfl ?_
  conv => whnf
  exact RetA_view 0 rfl ⟨⟨rfl, rfl⟩, rfl⟩
end Go.PX
