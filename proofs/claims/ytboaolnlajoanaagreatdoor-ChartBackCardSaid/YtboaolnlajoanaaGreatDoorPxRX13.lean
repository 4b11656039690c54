import Derived.Test.YtboaolnlajoanaaGreatDoorCards
import Derived.Test.YtboaolnlajoanaaGreatDoorTie
import Derived.SevenTiedAt
import Derived.ChangeMaps5
import Derived.Test.YtboaolnlajoanaaGreatDoorPxJ
import Derived.Test.YtboaolnlajoanaaGreatDoorPxK
import Derived.Test.YtboaolnlajoanaaGreatDoorPxO
set_option linter.all false
namespace Go.Proofs.YtboaolnlajoanaaGreatDoor
open Go.ChangeShapes Go.WideShapes Go.ChangeAt Go.RowKit Go.PX
set_option maxRecDepth 100000 in
theorem chartBack_lifted (os : Os) (started : os.Started) (H : Type) (enc : TypeId × Value → H) :
  ReturnsInHanded {} Tryz.checked os 14 .any (fun w args => (Rows.chartBackSpec.pre enc Tryz.prog Tryz.f14 Rows.chartBackRow.domain false w args ∧ laidMetH Tryz.prog laidX w) ∧ sizedMet enc Tryz.prog Tryz.f14 (OpenSpec.ofChange Rows.chartBackSpec) false w args) (Rows.chartBackSpec.post enc Tryz.prog Tryz.f14 false true false false) := by
 refine returnsInHanded_laid (C := Tryz.checked) (X := fun w _ => laidMetH Tryz.prog laidX w) (fun _ _ _ hh h => h.of_heap hh) own started (by kernel_rfl) Tryz.func14
  (ChangeSpec.witness_shaped (enc := enc) (C := Tryz.checked) (os := os) (X := fun w _ => laidMetH Tryz.prog laidX w) false (World.laidAll Tryz.prog os laidX) #[.agg #[.slice none 0 0, .slice none 0 0], .agg #[.int .u16 0, .int .u8 0, .int .i16 0, .int .i16 0]] 8 (World.laidAll_os _ _ _)
   (witness_shape os _) (by kernel_rfl) (by kernel_rfl) (by kernel_rfl) (witness_laid os _)) ?_
 intro W base args ds gs before hval0 hW hcnd hwt hL hsh
 have hlaid := chart_laid hL hsh
 have hval : ∀ (j : Nat) t v, Tryz.f14.params[j]? = some t → args[j]? = some v → Value.okWide Tryz.prog W .any base t v := hval0
 have hW' := hW
 obtain ⟨p, q, hA0, hV, rfl, hfz, hnd⟩ := hW
 have hA : DataW.TrodAll enc Tryz.prog W 0 (fun _ => true) true Tryz.f14.params.toList args.toList ds p := hA0
 have hAk := hA
 rw [Tryz.params14] at hA hval
 obtain ⟨v0, v1, d0, d1, p0, p1, rfl, rfl, rfl, h0, h1⟩ := trodAll_two hA
 obtain ⟨rfl, rfl⟩ := trodVars_none hV
 simp only [List.append_nil] at hW' hAk
 have hz := wOk_all hwt
 rw [Tryz.params14] at hz
 simp only [List.cons_append, List.nil_append, DataW.weightsEach] at hz
 have hz0 := (wOk_app.1 hz).1
 replace hz := (wOk_app.1 hz).2
 have hz1 := (wOk_app.1 hz).1
 replace hz := (wOk_app.1 hz).2
 obtain ⟨cs0, rfl, _⟩ := okWide_struct Tryz.underlying25 (hval 0 25 v0 rfl rfl)
 obtain ⟨n0, g0⟩ := h0
 obtain ⟨_, ⟨c, rfl⟩, r0⟩ := (rdCht W).read g0
 obtain ⟨cs1, rfl, _⟩ := okWide_struct Tryz.underlying86 (hval 1 86 v1 rfl rfl)
 obtain ⟨n1, g1⟩ := h1
 obtain ⟨_, ⟨x, rfl, hx⟩, r1⟩ := (rdFromZ W).read g1 hz1
 clear hA0 hval0
 refine (top (ch14 c x hx) W hlaid _ ⟨_, _, rfl, ⟨cs0, rfl, r0⟩, _, _, rfl, ⟨cs1, rfl, r1⟩, rfl⟩).mono fun e W' ⟨x, he, ⟨F', hx⟩, hs⟩ => ?_
 have hx : x = .bool true := hx
 subst he
 subst hx
 refine ⟨_, rfl, ?_⟩
 refine ⟨_, _, _, [], _, [], hW', trodAll_mk1 (shut_bool Tryz.underlying4 _), trodAll_carry (DataW.TrodAll.respare kids full (by rw [Tryz.params14]; decide) hAk (fun p hp => by simpa using hAk.lt p hp)) (fun p hp => hs.sameAt (hAk.lt p hp)), rfl, hs.frame _, fun h => by cases h⟩
theorem chartBack_holds : Rows.ChartBackSaid :=
 OpenClaim.holds_of_wide 14 Tryz.f14 rfl rfl rfl rfl rfl rfl rfl ⟨rfl, rfl, rfl, rfl, rfl⟩ rfl rfl rfl rfl rfl (by kernel_rfl) Tryz.func14 (by kernel_rfl)
  (of_decide_eq_true (by kernel_rfl)) (by unfold Func.isWrapper; first | (rw [if_pos (by decide +kernel)]; kernel_rfl) | (rw [if_neg (by decide +kernel)]; exact ⟨rfl, rfl⟩))
  (fun os started H enc _ => chartBack_lifted os started H enc)
theorem chartBack_card : Rows.ChartBackCardSaid :=
 Claim7.holds_tied_plain_at .later [] [.data, .data, .data, .data, .sentinel, .sentinel, .pinned] true (true, "fe90e43e0e68bd813640d3980dfd904f6efc8334222bbb5ce42bfbf07e5d28bf") true chartBack_holds (fun _ h => by cases h) (by kernel_rfl) (fun _ h => by cases h) chartBack_row_tie rfl ⟨rfl, rfl⟩ (by kernel_rfl) rfl
  (fun f fn hf hfn => by
   obtain rfl : f = 14 := Option.some.inj ((show Tryz.prog.funcNamed "nore/norelaw01.ChartBack" = some 14 by kernel_rfl).symm.trans hf) |>.symm
   obtain rfl : fn = Tryz.f14 := (Option.some.inj (Tryz.func14.symm.trans hfn)).symm
   exact ⟨by kernel_rfl, fun j t ht => by
    rw [Tryz.params14] at ht
    have hm : t ∈ [25, 86] := by simpa using Array.mem_of_getElem? ht
    have hall : ([25, 86].all fun u => !Tryz.prog.wantsStandIn u) = true := by kernel_rfl
    exact (show Tryz.prog.wantsStandIn t = false by simpa using List.all_eq_true.1 hall t hm)⟩)
  (by kernel_rfl)
end Go.Proofs.YtboaolnlajoanaaGreatDoor
