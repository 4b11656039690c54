import Derived.Test.YtboaolnlajoanaaGreatDoorCards
import Derived.Test.YtboaolnlajoanaaGreatDoorTie
import Derived.SevenTiedAt
import Derived.ChangeMaps5
import Derived.Test.YtboaolnlajoanaaGreatDoorPxJ
import Derived.Test.YtboaolnlajoanaaGreatDoorPxK
import Derived.Test.YtboaolnlajoanaaGreatDoorPxP
set_option linter.all false
namespace Go.Proofs.YtboaolnlajoanaaGreatDoor
open Go.ChangeShapes Go.WideShapes Go.ChangeAt Go.RowKit Go.PX
set_option maxRecDepth 100000 in
theorem chartMoved_lifted (os : Os) (started : os.Started) (H : Type) (enc : TypeId × Value → H) :
  ReturnsInHanded {} Tryz.checked os 12 .any (fun w args => (Rows.chartMovedSpec.pre enc Tryz.prog Tryz.f12 Rows.chartMovedRow.domain false w args ∧ laidMetH Tryz.prog laidX w) ∧ sizedMet enc Tryz.prog Tryz.f12 (OpenSpec.ofChange Rows.chartMovedSpec) false w args) (Rows.chartMovedSpec.post enc Tryz.prog Tryz.f12 false true false false) := by
 refine returnsInHanded_laid (C := Tryz.checked) (X := fun w _ => laidMetH Tryz.prog laidX w) (fun _ _ _ hh h => h.of_heap hh) own started (by kernel_rfl) Tryz.func12
  (ChangeSpec.witness_shaped (enc := enc) (C := Tryz.checked) (os := os) (X := fun w _ => laidMetH Tryz.prog laidX w) false (World.laidAll Tryz.prog os laidX) #[.agg #[.slice none 0 0, .slice none 0 0], .agg #[.int .i8 0, .int .i8 0], .agg #[.int .u16 0, .int .u8 0, .int .i16 0, .int .i16 0, .slice none 0 0]] 8 (World.laidAll_os _ _ _)
   (witness_shape os _) (by kernel_rfl) (by kernel_rfl) (by kernel_rfl) (witness_laid os _)) ?_
 intro W base args ds gs before hval0 hW hcnd hwt hL hsh
 have hlaid := chart_laid hL hsh
 have hval : ∀ (j : Nat) t v, Tryz.f12.params[j]? = some t → args[j]? = some v → Value.okWide Tryz.prog W .any base t v := hval0
 have hW' := hW
 obtain ⟨p, q, hA0, hV, rfl, hfz, hnd⟩ := hW
 have hA : DataW.TrodAll enc Tryz.prog W 0 (fun _ => true) true Tryz.f12.params.toList args.toList ds p := hA0
 have hAk := hA
 rw [Tryz.params12] at hA hval
 obtain ⟨v0, v1, v2, d0, d1, d2, p0, p1, p2, rfl, rfl, rfl, h0, h1, h2⟩ := trodAll_three hA
 obtain ⟨rfl, rfl⟩ := trodVars_none hV
 simp only [List.append_nil] at hW' hAk
 have hz := wOk_all hwt
 rw [Tryz.params12] at hz
 simp only [List.cons_append, List.nil_append, DataW.weightsEach] at hz
 have hz0 := (wOk_app.1 hz).1
 replace hz := (wOk_app.1 hz).2
 have hz1 := (wOk_app.1 hz).1
 replace hz := (wOk_app.1 hz).2
 have hz2 := (wOk_app.1 hz).1
 replace hz := (wOk_app.1 hz).2
 obtain ⟨cs0, rfl, _⟩ := okWide_struct Tryz.underlying25 (hval 0 25 v0 rfl rfl)
 obtain ⟨n0, g0⟩ := h0
 obtain ⟨_, ⟨c, rfl⟩, r0⟩ := (rdCht W).read g0
 have k1 := hval 1 90 v1 rfl rfl
 unfold Value.okWide at k1
 rw [Tryz.underlying90] at k1
 obtain ⟨cs1, rfl, _⟩ := k1
 obtain ⟨n1, g1⟩ := h1
 obtain ⟨_, ⟨va, vb, rfl, hva, hvb⟩, r1⟩ := (rdI8sZ W).read g1 hz1
 obtain ⟨cs2, rfl, _⟩ := okWide_struct Tryz.underlying92 (hval 2 92 v2 rfl rfl)
 obtain ⟨n2, g2⟩ := h2
 obtain ⟨_, ⟨x, y, rfl, hx, hy⟩, r2⟩ := (rdBothZ W).read g2 hz2
 clear hA0 hval0
 refine (top (ch12 c va vb hva hvb x hx y hy) W hlaid _ ⟨_, _, rfl, ⟨cs0, rfl, r0⟩, _, _, rfl, ⟨cs1, rfl, r1⟩, _, _, rfl, ⟨cs2, rfl, r2⟩, rfl⟩).mono fun e W' ⟨x, he, ⟨F', hx⟩, hs⟩ => ?_
 have hx : x = .bool true := hx
 subst he
 subst hx
 refine ⟨_, rfl, ?_⟩
 refine ⟨_, _, _, [], _, [], hW', trodAll_mk1 (shut_bool Tryz.underlying4 _), trodAll_carry (DataW.TrodAll.respare kids full (by rw [Tryz.params12]; decide) hAk (fun p hp => by simpa using hAk.lt p hp)) (fun p hp => hs.sameAt (hAk.lt p hp)), rfl, hs.frame _, fun h => by cases h⟩
theorem chartMoved_holds : Rows.ChartMovedSaid :=
 OpenClaim.holds_of_wide 12 Tryz.f12 rfl rfl rfl rfl rfl rfl rfl ⟨rfl, rfl, rfl, rfl, rfl⟩ rfl rfl rfl rfl rfl (by kernel_rfl) Tryz.func12 (by kernel_rfl)
  (of_decide_eq_true (by kernel_rfl)) (by unfold Func.isWrapper; first | (rw [if_pos (by decide +kernel)]; kernel_rfl) | (rw [if_neg (by decide +kernel)]; exact ⟨rfl, rfl⟩))
  (fun os started H enc _ => chartMoved_lifted os started H enc)
theorem chartMoved_card : Rows.ChartMovedCardSaid :=
 Claim7.holds_tied_plain_at .later [] [.data, .data, .data, .data, .sentinel, .sentinel, .pinned] true (true, "fe90e43e0e68bd813640d3980dfd904f6efc8334222bbb5ce42bfbf07e5d28bf") true chartMoved_holds (fun _ h => by cases h) (by kernel_rfl) (fun _ h => by cases h) chartMoved_row_tie rfl ⟨rfl, rfl⟩ (by kernel_rfl) rfl
  (fun f fn hf hfn => by
   obtain rfl : f = 12 := Option.some.inj ((show Tryz.prog.funcNamed "nore/norelaw01.ChartMoved" = some 12 by kernel_rfl).symm.trans hf) |>.symm
   obtain rfl : fn = Tryz.f12 := (Option.some.inj (Tryz.func12.symm.trans hfn)).symm
   exact ⟨by kernel_rfl, fun j t ht => by
    rw [Tryz.params12] at ht
    have hm : t ∈ [25, 90, 92] := by simpa using Array.mem_of_getElem? ht
    have hall : ([25, 90, 92].all fun u => !Tryz.prog.wantsStandIn u) = true := by kernel_rfl
    exact (show Tryz.prog.wantsStandIn t = false by simpa using List.all_eq_true.1 hall t hm)⟩)
  (by kernel_rfl)
end Go.Proofs.YtboaolnlajoanaaGreatDoor
