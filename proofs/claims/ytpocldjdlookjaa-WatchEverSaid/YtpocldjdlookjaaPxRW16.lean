import Derived.Test.YtpocldjdlookjaaRows
import Derived.Test.YtpocldjdlookjaaPxN
import Derived.Test.YtpocldjdlookjaaPxR
set_option linter.all false
namespace Go.Proofs.Ytpocldjdlookjaa
open Go.ChangeShapes Go.WideShapes Go.ChangeAt Go.RowKit Go.PX
theorem own : ownKnob Try.prog.godebug = none := by kernel_rfl
theorem kids : Kids Try.prog (· < Try.prog.types.size) := kids_rows (by kernel_rfl) (by kernel_rfl)
theorem full : ∀ t e, t < Try.prog.types.size → Try.prog.underlying t = some (.slice e) → 0 < Try.prog.cellsOf e := slices_full_of Try.prog (by kernel_rfl)
set_option maxRecDepth 100000 in
theorem watchEver_lifted (os : Os) (started : os.Started) (H : Type) (enc : TypeId × Value → H) :
  ReturnsInHanded {} Try.checked os 4 .any (Rows.watchEverSpec.pre6 enc Try.prog Try.f4 Rows.watchEverRow.domain false) (Rows.watchEverSpec.post enc Try.prog Try.f4 false true false false) := by
 refine returnsInHanded_of_change (C := Try.checked) own started (by kernel_rfl) Try.func4
  (ChangeSpec.witness6 (enc := enc) (C := Try.checked) false ⟨#[], #[.agg #[.slice none 0 0, .slice none 0 0, .int .i64 0, .int .i64 0]], []⟩ 8 (by kernel_rfl) (by kernel_rfl) (by kernel_rfl) (by kernel_rfl)) ?_
 intro W base args ds gs before hval0 hW hcnd _
 have hval : ∀ (j : Nat) t v, Try.f4.params[j]? = some t → args[j]? = some v → Value.okWide Try.prog W .any base t v := hval0
 have hW' := hW
 obtain ⟨p, q, hA0, hV, rfl, hfz, hnd⟩ := hW
 have hA : DataW.TrodAll enc Try.prog W 0 (fun _ => true) true Try.f4.params.toList args.toList ds p := hA0
 have hAk := hA
 rw [Try.params4] at hA hval
 obtain ⟨v0, d0, rfl, rfl, h0⟩ := trodAll_one hA
 obtain ⟨rfl, rfl⟩ := trodVars_none hV
 simp only [List.append_nil] at hW' hAk
 obtain ⟨cs0, rfl, _⟩ := okWide_struct Try.underlying25 (hval 0 25 v0 rfl rfl)
 obtain ⟨n0, g0⟩ := h0
 obtain ⟨_, ⟨c, rfl⟩, r0⟩ := (rdCase W).read g0
 clear hA0 hval0
 refine (top (wa4 c) W (laid W) _ ⟨_, _, rfl, ⟨cs0, rfl, r0⟩, rfl⟩).mono fun e W' ⟨x, he, ⟨F', hx⟩, hs⟩ => ?_
 have hx : x = .bool true := hx
 subst he
 subst hx
 refine ⟨_, rfl, ?_⟩
 refine ⟨_, _, _, [], _, [], hW', trodAll_mk1 (shut_bool Try.underlying4 _), trodAll_carry (DataW.TrodAll.respare kids full (by rw [Try.params4]; decide) hAk (fun p hp => by simpa using hAk.lt p hp)) (fun p hp => hs.sameAt (hAk.lt p hp)), rfl, hs.frame _, fun h => by cases h⟩
theorem watchEver_holds : Rows.WatchEverSaid :=
 OpenClaim.holds_of_wide 4 Try.f4 rfl rfl rfl rfl rfl rfl rfl ⟨rfl, rfl, rfl, rfl, rfl⟩ rfl rfl rfl rfl rfl (by kernel_rfl) Try.func4 (by kernel_rfl)
  (of_decide_eq_true (by kernel_rfl)) (by unfold Func.isWrapper; first | (rw [if_pos (by decide +kernel)]; kernel_rfl) | (rw [if_neg (by decide +kernel)]; exact ⟨rfl, rfl⟩))
  (fun os started H enc _ => watchEver_lifted os started H enc)
end Go.Proofs.Ytpocldjdlookjaa
