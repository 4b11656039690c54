import Derived.Test.YtiflhdanniajdaaRows
import Derived.Test.YtiflhdanniajdaaPxL
import Derived.Test.YtiflhdanniajdaaPxP
import Derived.Test.YtiflhdanniajdaaPxQ
import Derived.Test.YtiflhdanniajdaaPxR
set_option linter.all false
namespace Go.Proofs.Ytiflhdanniajdaa
open Go.ChangeShapes Go.WideShapes Go.ChangeAt Go.RowKit Go.PX

theorem own : ownKnob Try.prog.godebug = none := by kernel_rfl
theorem kids : Kids Try.prog (· < Try.prog.types.size) := kids_rows (by kernel_rfl) (by kernel_rfl)
theorem full : ∀ t e, t < Try.prog.types.size → Try.prog.underlying t = some (.slice e) → 0 < Try.prog.cellsOf e := slices_full_of Try.prog (by kernel_rfl)

set_option maxRecDepth 100000 in
theorem lampWider_lifted (os : Os) (started : os.Started) (H : Type) (enc : TypeId × Value → H) :
    ReturnsInHanded {} Try.checked os 13 .any (Rows.lampWiderSpec.pre6 enc Try.prog Try.f13 Rows.lampWiderRow.domain false) (Rows.lampWiderSpec.post enc Try.prog Try.f13 false true false false) := by
  refine returnsInHanded_of_change_sized (C := Try.checked) own started (by kernel_rfl) Try.func13
    (ChangeSpec.witness6 (enc := enc) (C := Try.checked) false ⟨#[], #[.agg #[.int .i64 0, .slice none 0 0, .int .i64 0, .int .i64 0, .int .i64 0, .int .i64 0, .int .i64 0, .int .i64 0, .slice none 0 0, .slice none 0 0], .agg #[.string ⟨#[]⟩, .slice none 0 0], .agg #[.slice none 0 0, .slice none 0 0]], []⟩ 8 (by kernel_rfl) (by kernel_rfl) (by kernel_rfl) (by kernel_rfl)) ?_
  intro W base args ds gs before hval0 hW hcnd hwt _
  have hval : ∀ (j : Nat) t v, Try.f13.params[j]? = some t → args[j]? = some v → Value.okWide Try.prog W .any base t v := hval0
  have hW' := hW
  obtain ⟨p, q, hA0, hV, rfl, hfz, hnd⟩ := hW
  have hA : DataW.TrodAll enc Try.prog W 0 (fun _ => true) true Try.f13.params.toList args.toList ds p := hA0
  have hAk := hA
  rw [Try.params13] at hA hval
  obtain ⟨v0, v1, v2, d0, d1, d2, p0, p1, p2, rfl, rfl, rfl, h0, h1, h2⟩ := trodAll_three hA
  obtain ⟨rfl, rfl⟩ := trodVars_none hV
  simp only [List.append_nil] at hW' hAk
  have hz := wOk_all hwt
  rw [Try.params13] at hz
  simp only [List.cons_append, List.nil_append, DataW.weightsEach] at hz
  have hz0 := (wOk_app.1 hz).1
  replace hz := (wOk_app.1 hz).2
  have hz1 := (wOk_app.1 hz).1
  replace hz := (wOk_app.1 hz).2
  have hz2 := (wOk_app.1 hz).1
  replace hz := (wOk_app.1 hz).2
  obtain ⟨cs0, rfl, _⟩ := okWide_struct Try.underlying30 (hval 0 30 v0 rfl rfl)
  obtain ⟨n0, g0⟩ := h0
  obtain ⟨_, ⟨c, rfl⟩, r0⟩ := (rdCase W).read g0
  obtain ⟨cs1, rfl, _⟩ := okWide_struct Try.underlying53 (hval 1 53 v1 rfl rfl)
  obtain ⟨n1, g1⟩ := h1
  obtain ⟨_, ⟨l, rfl⟩, r1⟩ := (rdLight W).read g1
  have k2 := hval 2 91 v2 rfl rfl
  unfold Value.okWide at k2
  rw [Try.underlying91] at k2
  obtain ⟨cs2, rfl, _⟩ := k2
  obtain ⟨n2, g2⟩ := h2
  obtain ⟨_, ⟨x, b, rfl, hx, hb⟩, r2⟩ := (rdTwosZ W).read g2 hz2
  clear hA0 hval0
  refine (top (la13 c l x b hx hb) W _ ⟨_, _, rfl, ⟨cs0, rfl, r0⟩, _, _, rfl, ⟨cs1, rfl, r1⟩, _, _, rfl, ⟨cs2, rfl, r2⟩, rfl⟩).mono fun e W' ⟨x, he, ⟨F', hx⟩, hs⟩ => ?_
  have hx : x = .bool true := hx
  subst he
  subst hx
  refine ⟨_, rfl, ?_⟩
  refine ⟨_, _, _, [], _, [], hW', trodAll_mk1 (shut_bool Try.underlying4 _), trodAll_carry (DataW.TrodAll.respare kids full (by rw [Try.params13]; decide) hAk (fun p hp => by simpa using hAk.lt p hp)) (fun p hp => hs.sameAt (hAk.lt p hp)), rfl, hs.frame _, fun h => by cases h⟩

theorem lampWider_holds : Rows.LampWiderSaid :=
  OpenClaim.holds_of_wide 13 Try.f13 rfl rfl rfl rfl rfl rfl rfl ⟨rfl, rfl, rfl, rfl, rfl⟩ rfl rfl rfl rfl rfl (by kernel_rfl) Try.func13 (by kernel_rfl)
    (of_decide_eq_true (by kernel_rfl)) (by unfold Func.isWrapper; first | (rw [if_pos (by decide +kernel)]; kernel_rfl) | (rw [if_neg (by decide +kernel)]; exact ⟨rfl, rfl⟩))
    (fun os started H enc _ => lampWider_lifted os started H enc)
end Go.Proofs.Ytiflhdanniajdaa