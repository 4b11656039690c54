import Derived.Test.YtifbnniijibfgaaPxZ
import Derived.Test.YtifbnniijibfgaaPxL
set_option linter.all false
set_option maxRecDepth 10000
namespace Go.PX
open Go.Proofs

def worstA : Truth := ⟨30, 40, 20, 5, 9000, [16500, 13000]⟩

theorem fn70 : FnV Try.prog 70 [] worstA.d := by
  refine fnV_of mixed tysOk Try.func70 rfl (ft := ft70) 0 (by decide +kernel) (by rfl) fun {σ} Y st => ?_
  conv => whnf
  exact RetA_view 2 (ds := [worstA.d]) rfl ⟨⟨rfl, rfl⟩, rfl⟩

theorem aw1 : thickE (awakeC false) 0 1000 = (⟨16500, 18500⟩, 0) := by decide +kernel
theorem aw2 : doubtsE (awakeC true) 0 = [1] := by decide +kernel
theorem aw2' : openE (awakeC true) 0 = 0 := by decide +kernel
theorem aw3 : bearsE (awakeC false) 0 = (⟨13612, 17112⟩, 0) := by decide +kernel
theorem aw4 : pullE (awakeC false) 0 18 = (4851, 0) := by decide +kernel
theorem aw5 : whyE (awakeC false) 10 = ((1, 0, 0), 0) := by decide +kernel
theorem aw6 : whyE (awakeC false) 20 = ((0, 0, 0), 0) := by decide +kernel
theorem aw7 : showE (awakeC false) 0 20 = (worstA.d, (0, 0), 0) := by rfl
theorem aw8 : inE (awakeC false) 0 20 worstA = ((0, 0), 0) := by decide +kernel
theorem aw9 : scopesE (awakeC false) = ([⟨20, 20⟩], 0) := by decide +kernel
theorem aw10 : shortE (awakeC false) = (20, 0) := by decide +kernel
theorem aw11 : renewE (awakeC false) = (([], false), 0) := by decide +kernel
theorem aw12 : shortE (awakeC true) = (0, 8) := by decide +kernel
theorem aw13 : thickE (awakeC true) 0 5 = (⟨0, 0⟩, 9) := by decide +kernel

def sameT (a b : Truth) : Bool := decide (a.depth = b.depth) && (decide (a.wind = b.wind) && (decide (a.current = b.current) && (decide (a.swell = b.swell) && (decide (a.hold = b.hold) && decide (a.thick = b.thick)))))

theorem fn71 (a b : Truth) (h : a.thick.length < 1000000) : FnV Try.prog 71 [a.d, b.d] (.bool (sameT a b)) := by
  refine fnV_of mixed tysOk Try.func71 rfl (ft := ft71) 2 (by decide +kernel) (by rfl) fun {σ} Y st => ?_
  conv => whnf
  by_cases h1 : a.depth = b.depth
  · rw [decide_eq_true h1]
    conv => whnf
    by_cases h2 : a.wind = b.wind
    · rw [decide_eq_true h2]
      conv => whnf
      by_cases h3 : a.current = b.current
      · rw [decide_eq_true h3]
        conv => whnf
        by_cases h4 : a.swell = b.swell
        · rw [decide_eq_true h4]
          conv => whnf
          by_cases h5 : a.hold = b.hold
          · rw [decide_eq_true h5]
            conv => whnf
            refine CallA_v (ds := [intsD a.thick, intsD b.thick]) (fn19 a.thick b.thick h) rfl rfl ?_
            conv => whnf
            refine RetA_view 0 rfl ⟨⟨?_, rfl⟩, rfl⟩
            simp [sameT, packD, h1, h2, h3, h4, h5]
          · rw [decide_eq_false h5]
            conv => whnf
            refine RetA_view 0 rfl ⟨⟨?_, rfl⟩, rfl⟩
            simp [sameT, packD, h1, h2, h3, h4, h5]
        · rw [decide_eq_false h4]
          conv => whnf
          refine RetA_view 0 rfl ⟨⟨?_, rfl⟩, rfl⟩
          simp [sameT, packD, h1, h2, h3, h4]
      · rw [decide_eq_false h3]
        conv => whnf
        refine RetA_view 0 rfl ⟨⟨?_, rfl⟩, rfl⟩
        simp [sameT, packD, h1, h2, h3]
    · rw [decide_eq_false h2]
      conv => whnf
      refine RetA_view 0 rfl ⟨⟨?_, rfl⟩, rfl⟩
      simp [sameT, packD, h1, h2]
  · rw [decide_eq_false h1]
    conv => whnf
    refine RetA_view 0 rfl ⟨⟨?_, rfl⟩, rfl⟩
    simp [sameT, packD, h1]

theorem fn22 : FnV Try.prog 22 [] (.bool true) := by
  refine fnV_of mixed tysOk Try.func22 rfl (ft := ft22) 0 (by decide +kernel) (by rfl) fun {σ} Y st => ?_
  conv => whnf
  refine CallA_v (fn23 false) rfl rfl ?_
  conv => whnf
  refine CallA_v (ds := [(awakeC false).d, i64 0, i64 1000]) (fn15 (awakeC false) 0 1000) rfl rfl ?_
  rw [aw1]
  conv => whnf
  refine CallA_v (fn23 true) rfl rfl ?_
  conv => whnf
  refine CallA_v (ds := [(awakeC true).d, i64 0]) (fn17 (awakeC true) 0) rfl rfl ?_
  rw [aw2, aw2']
  conv => whnf
  refine CallA_v (fn23 false) rfl rfl ?_
  conv => whnf
  refine CallA_v (ds := [(awakeC false).d, i64 0]) (fn20 (awakeC false) 0) rfl rfl ?_
  rw [aw3]
  conv => whnf
  refine CallA_v (fn23 false) rfl rfl ?_
  conv => whnf
  refine CallA_v (ds := [(awakeC false).d, i64 0, i64 18]) (fn24 (awakeC false) 0 18) rfl rfl ?_
  rw [aw4]
  conv => whnf
  refine CallA_v (fn23 false) rfl rfl ?_
  conv => whnf
  refine CallA_v (ds := [(awakeC false).d, i64 10]) (fn25 (awakeC false) 10) rfl rfl ?_
  rw [aw5]
  conv => whnf
  refine CallA_v (fn23 false) rfl rfl ?_
  conv => whnf
  refine CallA_v (ds := [(awakeC false).d, i64 20]) (fn25 (awakeC false) 20) rfl rfl ?_
  rw [aw6]
  conv => whnf
  refine CallA_v (fn23 false) rfl rfl ?_
  conv => whnf
  refine CallA_v (ds := [(awakeC false).d, i64 0, i64 20]) (fn35 (awakeC false) 0 20) rfl rfl ?_
  rw [aw7]
  conv => whnf
  refine CallA_v (fn23 false) rfl rfl ?_
  conv => whnf
  refine CallA_v (fn70) rfl rfl ?_
  conv => whnf
  refine CallA_v (ds := [(awakeC false).d, i64 0, i64 20, worstA.d]) (fn39 (awakeC false) 0 20 worstA) rfl rfl ?_
  rw [aw8]
  conv => whnf
  refine CallA_v (fn23 false) rfl rfl ?_
  conv => whnf
  refine CallA_v (ds := [(awakeC false).d]) (fn41 (awakeC false)) rfl rfl ?_
  rw [aw9]
  conv => whnf
  refine CallA_v (fn23 false) rfl rfl ?_
  conv => whnf
  refine CallA_v (ds := [(awakeC false).d]) (fn40 (awakeC false)) rfl rfl ?_
  rw [aw10]
  conv => whnf
  refine CallA_v (fn23 false) rfl rfl ?_
  conv => whnf
  refine CallA_v (ds := [(awakeC false).d]) (fn27 (awakeC false)) rfl rfl ?_
  rw [aw11]
  conv => whnf
  refine CallA_v (fn23 true) rfl rfl ?_
  conv => whnf
  refine CallA_v (ds := [(awakeC true).d]) (fn40 (awakeC true)) rfl rfl ?_
  rw [aw12]
  conv => whnf
  refine CallA_v (fn23 true) rfl rfl ?_
  conv => whnf
  refine CallA_v (ds := [(awakeC true).d, i64 0, i64 5]) (fn15 (awakeC true) 0 5) rfl rfl ?_
  rw [aw13]
  conv => whnf
  refine DrawCall_v (fn28 16500 18500) rfl rfl ?_
  conv => whnf
  refine DrawCall_view (fn19 [1] [1] (by simp)) rfl 1 rfl ?_
  conv => whnf
  refine DrawCall_v (fn28 13612 17112) rfl rfl ?_
  conv => whnf
  refine DrawCall_v (fn70) rfl rfl ?_
  conv => whnf
  refine DrawCall_v (ds := [worstA.d, worstA.d]) (fn71 worstA worstA (by decide)) rfl rfl ?_
  conv => whnf
  refine DrawCall_v (fn28 20 20) rfl rfl ?_
  conv => whnf
  refine DrawCall_view (fn45 [⟨20, 20⟩] [⟨20, 20⟩] (by simp)) rfl 1 rfl ?_
  conv => whnf
  exact RetA_view 0 rfl ⟨⟨rfl, rfl⟩, rfl⟩
end Go.PX

namespace Go.PX
open Go.Proofs

theorem self_t (x : Int) : decide (x = x) = true := decide_eq_true rfl

theorem doubtsE_len (c : Case) (i : Int) : (doubtsE c i).length < 1000000 := by
  unfold doubtsE
  split
  · rename_i h0
    obtain ⟨hc, s, hi, hs⟩ := openE_ok h0
    have hm := List.mem_of_getElem? hs
    have hl := ((case_ok hc).shots s hm).1.len
    rw [hs]
    simp only [doubtsQ]
    split
    · rename_i q y hq
      unfold chooseF at hq
      obtain ⟨n, hn, h1⟩ := List.exists_of_findSome?_eq_some hq
      have h2 := fillF_len h1
      simp at hn h2
      omega
    · simp
  · simp

theorem fn3 (c : Case) (i day : Int) : FnV Try.prog 3 [c.d, i64 i, i64 day] (.bool true) := by
  refine fnV_of mixed tysOk Try.func3 rfl (ft := ft3) 3 (by decide +kernel) (by rfl) fun {σ} Y st => ?_
  conv => whnf
  refine CallA_v (fn13 c) rfl rfl ?_
  conv => whnf
  refine CallA_v (fn14 c) rfl rfl ?_
  conv => whnf
  rw [self_t]
  conv => whnf
  rw [self_t]
  conv => whnf
  rw [self_t]
  conv => whnf
  refine CallA_v (ds := [c.d, i64 i, i64 day]) (fn15 c i day) rfl rfl ?_
  conv => whnf
  refine CallA_v (ds := [c.d, i64 i, i64 day]) (fn16 c i day) rfl rfl ?_
  conv => whnf
  rw [self_t, self_t]
  conv => whnf
  rw [self_t]
  conv => whnf
  refine CallA_v (ds := [c.d, i64 i]) (fn17 c i) rfl rfl ?_
  conv => whnf
  refine CallA_v (ds := [c.d, i64 i]) (fn18 c i) rfl rfl ?_
  conv => whnf
  refine CallA_v (ds := [intsD (doubtsE c i), intsD (doubtsE c i)]) (fn19 (doubtsE c i) (doubtsE c i) (doubtsE_len c i)) rfl rfl ?_
  rw [show decide (doubtsE c i = doubtsE c i) = true from decide_eq_true rfl]
  conv => whnf
  rw [self_t]
  conv => whnf
  refine CallA_v (ds := [c.d, i64 i]) (fn20 c i) rfl rfl ?_
  conv => whnf
  refine CallA_v (ds := [c.d, i64 i]) (fn21 c i) rfl rfl ?_
  conv => whnf
  rw [self_t, self_t]
  conv => whnf
  rw [self_t]
  conv => whnf
  refine CallA_v (fn22) rfl rfl ?_
  conv => whnf
  exact RetA_view 0 rfl ⟨⟨rfl, rfl⟩, rfl⟩
end Go.PX

namespace Go.PX
open Go.Proofs Go.RowKit Go.ChangeShapes

theorem c3 : Try.prog.cellsOf 3 = 1 := by kernel_rfl
theorem c9 : Try.prog.cellsOf 9 = 1 := by kernel_rfl
theorem c24 : Try.prog.cellsOf 24 = 2 := by kernel_rfl
theorem c68 : Try.prog.cellsOf 68 = 2 := by kernel_rfl
theorem c59 : Try.prog.cellsOf 59 = 1 := by kernel_rfl
theorem c61 : Try.prog.cellsOf 61 = 8 := by kernel_rfl
theorem c22 : Try.prog.cellsOf 22 = 1 := by kernel_rfl
theorem c104 : Try.prog.cellsOf 104 = 2 := by kernel_rfl
theorem c25 : Try.prog.cellsOf 25 = 1 := by kernel_rfl
theorem c27 : Try.prog.cellsOf 27 = 7 := by kernel_rfl
theorem c29 : Try.prog.cellsOf 29 = 4 := by kernel_rfl
theorem c79 : Try.prog.cellsOf 79 = 8 := by kernel_rfl
theorem c30 : Try.prog.cellsOf 30 = 1 := by kernel_rfl
theorem c32 : Try.prog.cellsOf 32 = 13 := by kernel_rfl

section
variable (W : World)
theorem rdInt : Rd Try.prog W 3 fun ds => ∃ n, ds = [i64 n] := Rd.int Try.underlying3
theorem rdStr : Rd Try.prog W 9 fun ds => ∃ s, ds = [.str s] := Rd.str Try.underlying9

theorem rdSpan : Rd Try.prog W 24 fun ds => ∃ s : Span, ds = s.cells :=
  (Rd.struct Try.underlying24 c24 (.cons rfl c3 (rdInt W) (.cons rfl c3 (rdInt W) (.nil _)))).mono fun ds h => by
    obtain ⟨_, _, rfl, ⟨a, rfl⟩, _, _, rfl, ⟨b, rfl⟩, rfl⟩ := h
    exact ⟨⟨a, b⟩, rfl⟩

theorem rdGauge : Rd Try.prog W 68 fun ds => ∃ s : Gauge, ds = s.cells :=
  (Rd.struct Try.underlying68 c68 (.cons rfl c3 (rdInt W) (.cons rfl c3 (rdInt W) (.nil _)))).mono fun ds h => by
    obtain ⟨_, _, rfl, ⟨a, rfl⟩, _, _, rfl, ⟨b, rfl⟩, rfl⟩ := h
    exact ⟨⟨a, b⟩, rfl⟩

theorem rdGauges : Rd Try.prog W 59 fun ds => ∃ l : List Gauge, ds = [gaugesD l] :=
  (Rd.slice Try.underlying59 c68 (by omega) (rdGauge W)).mono fun ds h => by
    obtain ⟨es, rfl, he⟩ := h
    obtain ⟨l, rfl⟩ := list_of (fun _ h => h) he
    exact ⟨l, rfl⟩

theorem rdShot : Rd Try.prog W 61 fun ds => ∃ s : Shot, ds = s.cells :=
  (Rd.struct Try.underlying61 c61 (.cons rfl c9 (rdStr W) (.cons rfl c3 (rdInt W) (.cons rfl c3 (rdInt W) (.cons rfl c24 (rdSpan W) (.cons rfl c24 (rdSpan W) (.cons rfl c59 (rdGauges W) (.nil _)))))))).mono fun ds h => by
    obtain ⟨_, _, rfl, ⟨a, rfl⟩, _, _, rfl, ⟨b, rfl⟩, _, _, rfl, ⟨c, rfl⟩, _, _, rfl, ⟨d, rfl⟩, _, _, rfl, ⟨e, rfl⟩, _, _, rfl, ⟨f, rfl⟩, rfl⟩ := h
    exact ⟨⟨a, b, c, d, e, f⟩, rfl⟩

theorem rdShots : Rd Try.prog W 22 fun ds => ∃ l : List Shot, ds = [shotsD l] :=
  (Rd.slice Try.underlying22 c61 (by omega) (rdShot W)).mono fun ds h => by
    obtain ⟨es, rfl, he⟩ := h
    obtain ⟨l, rfl⟩ := list_of (fun _ h => h) he
    exact ⟨l, rfl⟩

theorem rdRow : Rd Try.prog W 104 fun ds => ∃ s : Row, ds = s.cells :=
  (Rd.struct Try.underlying104 c104 (.cons rfl c3 (rdInt W) (.cons rfl c3 (rdInt W) (.nil _)))).mono fun ds h => by
    obtain ⟨_, _, rfl, ⟨a, rfl⟩, _, _, rfl, ⟨b, rfl⟩, rfl⟩ := h
    exact ⟨⟨a, b⟩, rfl⟩

theorem rdRows : Rd Try.prog W 25 fun ds => ∃ l : List Row, ds = [rowsD l] :=
  (Rd.slice Try.underlying25 c104 (by omega) (rdRow W)).mono fun ds h => by
    obtain ⟨es, rfl, he⟩ := h
    obtain ⟨l, rfl⟩ := list_of (fun _ h => h) he
    exact ⟨l, rfl⟩

theorem rdChain : Rd Try.prog W 27 fun ds => ∃ c : Chain, ds = c.cells :=
  (Rd.struct Try.underlying27 c27 (.cons rfl c22 (rdShots W) (.cons rfl c3 (rdInt W) (.cons rfl c3 (rdInt W) (.cons rfl c3 (rdInt W) (.cons rfl c24 (rdSpan W) (.cons rfl c25 (rdRows W) (.nil _)))))))).mono fun ds h => by
    obtain ⟨_, _, rfl, ⟨a, rfl⟩, _, _, rfl, ⟨b, rfl⟩, _, _, rfl, ⟨c, rfl⟩, _, _, rfl, ⟨d, rfl⟩, _, _, rfl, ⟨e, rfl⟩, _, _, rfl, ⟨f, rfl⟩, rfl⟩ := h
    exact ⟨⟨a, b, c, d, e, f⟩, rfl⟩

theorem rdShip : Rd Try.prog W 29 fun ds => ∃ s : Ship, ds = s.cells :=
  (Rd.struct Try.underlying29 c29 (.cons rfl c3 (rdInt W) (.cons rfl c3 (rdInt W) (.cons rfl c3 (rdInt W) (.cons rfl c3 (rdInt W) (.nil _)))))).mono fun ds h => by
    obtain ⟨_, _, rfl, ⟨a, rfl⟩, _, _, rfl, ⟨b, rfl⟩, _, _, rfl, ⟨c, rfl⟩, _, _, rfl, ⟨d, rfl⟩, rfl⟩ := h
    exact ⟨⟨a, b, c, d⟩, rfl⟩

theorem rdWeather : Rd Try.prog W 79 fun ds => ∃ s : Weather, ds = s.cells :=
  (Rd.struct Try.underlying79 c79 (.cons rfl c24 (rdSpan W) (.cons rfl c24 (rdSpan W) (.cons rfl c24 (rdSpan W) (.cons rfl c24 (rdSpan W) (.nil _)))))).mono fun ds h => by
    obtain ⟨_, _, rfl, ⟨a, rfl⟩, _, _, rfl, ⟨b, rfl⟩, _, _, rfl, ⟨c, rfl⟩, _, _, rfl, ⟨d, rfl⟩, rfl⟩ := h
    exact ⟨⟨a, b, c, d⟩, rfl⟩

theorem rdWeathers : Rd Try.prog W 30 fun ds => ∃ l : List Weather, ds = [weathersD l] :=
  (Rd.slice Try.underlying30 c79 (by omega) (rdWeather W)).mono fun ds h => by
    obtain ⟨es, rfl, he⟩ := h
    obtain ⟨l, rfl⟩ := list_of (fun _ h => h) he
    exact ⟨l, rfl⟩

theorem rdCase : Rd Try.prog W 32 fun ds => ∃ c : Case, ds = c.cells :=
  (Rd.struct Try.underlying32 c32 (.cons rfl c27 (rdChain W) (.cons rfl c29 (rdShip W) (.cons rfl c3 (rdInt W) (.cons rfl c30 (rdWeathers W) (.nil _)))))).mono fun ds h => by
    obtain ⟨_, _, rfl, ⟨a, rfl⟩, _, _, rfl, ⟨b, rfl⟩, _, _, rfl, ⟨c, rfl⟩, _, _, rfl, ⟨d, rfl⟩, rfl⟩ := h
    exact ⟨⟨a, b, c, d⟩, rfl⟩
end
end Go.PX
