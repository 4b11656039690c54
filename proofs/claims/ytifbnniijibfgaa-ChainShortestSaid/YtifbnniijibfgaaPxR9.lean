import Derived.Test.YtifbnniijibfgaaRows
import Derived.Test.YtifbnniijibfgaaPxAA
import Derived.Test.YtifbnniijibfgaaPxAC
set_option linter.all false
namespace Go.PX
open Go.RowKit Go.ChangeShapes
section
variable {P : Program} {W : World} {t : TypeId}
theorem Rd.intw {k : IntKind} (ht : P.underlying t = some (.int k)) : Rd P W t fun ds => ∃ n, ds = [.int k n] ∧ (Lit.int k n).wf = true := by
  refine ⟨?_⟩
  intro H enc sp held fuel cs x h
  obtain ⟨n, rfl, _, hw⟩ := DataW.trod_int ht h
  exact ⟨[.int k n], ⟨n, rfl, hw⟩, _, [], rfl, rfl, rfl⟩

theorem Rd.arr2 {e : TypeId} {S : List D → Prop} (ht : P.underlying t = some (.array 2 e)) (hn : P.cellsOf t = 2) (hk : P.cellsOf e = 1) (he : Rd P W e S) : Rd P W t (AllS [S, S]) := by
  refine ⟨?_⟩
  intro H enc sp held fuel cs x h
  cases fuel with
  | zero => simp [DataW.trod] at h
  | succ fuel =>
    unfold DataW.trod at h
    rw [ht] at h
    simp only at h
    split at h
    · rename_i hl
      rw [hn] at hl
      rw [hk] at h
      obtain ⟨xs, hxs, _⟩ := Option.map_eq_some_iff.1 h
      rw [show List.range 2 = [0, 1] from rfl] at hxs
      simp only [List.mapM_cons, List.mapM_nil, Option.bind_eq_bind, Option.bind_eq_some_iff, Option.pure_def, Option.some.injEq] at hxs
      obtain ⟨y0, hy0, ys, ⟨y1, hy1, _⟩, _⟩ := hxs
      obtain ⟨d0, s0, r0⟩ := he.read hy0
      obtain ⟨d1, s1, r1⟩ := he.read hy1
      match cs, hl with
      | [a, b], _ =>
        exact ⟨d0 ++ d1, ⟨d0, d1, rfl, s0, d1, [], by simp, s1, rfl⟩, by simpa using RepDL.app r0 r1⟩
    · cases h
end
end Go.PX
namespace Go.Proofs.Ytifbnniijibfgaa
open Go.ChangeShapes Go.WideShapes Go.ChangeAt Go.RowKit Go.PX

theorem own : ownKnob Try.prog.godebug = none := by kernel_rfl
theorem kids : Kids Try.prog (· < Try.prog.types.size) := kids_rows (by kernel_rfl) (by kernel_rfl)
theorem full : ∀ t e, t < Try.prog.types.size → Try.prog.underlying t = some (.slice e) → 0 < Try.prog.cellsOf e := slices_full_of Try.prog (by kernel_rfl)

theorem rdPair (W : World) : Rd Try.prog W 69 fun ds => ∃ p0 p1 : Int, ds = [.int .u16 p0, .int .u16 p1] ∧ (0 ≤ p0 ∧ p0 ≤ 65535) ∧ (0 ≤ p1 ∧ p1 ≤ 65535) :=
  (Rd.arr2 Try.underlying69 (by kernel_rfl) (by kernel_rfl) (Rd.intw Try.underlying56)).mono fun ds h => by
    obtain ⟨_, _, rfl, ⟨a, rfl, wa⟩, _, _, rfl, ⟨b, rfl, wb⟩, rfl⟩ := h
    simp only [Lit.wf, Bool.and_eq_true, decide_eq_true_eq] at wa wb
    refine ⟨a, b, rfl, ?_, ?_⟩
    · exact wa
    · exact wb

set_option maxRecDepth 100000 in
theorem chainShortest_lifted (os : Os) (started : os.Started) (H : Type) (enc : TypeId × Value → H) :
    ReturnsInHanded {} Try.checked os 9 .any (Rows.chainShortestSpec.pre6 enc Try.prog Try.f9 Rows.chainShortestRow.domain false) (Rows.chainShortestSpec.post enc Try.prog Try.f9 false true false false) := by
  refine returnsInHanded_of_change (C := Try.checked) own started (by kernel_rfl) Try.func9
    (ChangeSpec.witness6 (enc := enc) (C := Try.checked) false ⟨#[], #[.agg #[.slice none 0 0, .int .i64 0, .int .i64 0, .int .i64 0, .int .i64 0, .int .i64 0, .slice none 0 0, .int .i64 0, .int .i64 0, .int .i64 0, .int .i64 0, .int .i64 0, .slice none 0 0], .agg #[.int .u16 0, .int .u16 0]], []⟩ 8 (by kernel_rfl) (by kernel_rfl) (by kernel_rfl) (by kernel_rfl)) ?_
  intro W base args ds gs before hval0 hW hcnd _
  have hval : ∀ (j : Nat) t v, Try.f9.params[j]? = some t → args[j]? = some v → Value.okWide Try.prog W .any base t v := hval0
  have hW' := hW
  obtain ⟨p, q, hA0, hV, rfl, hfz, hnd⟩ := hW
  have hA : DataW.TrodAll enc Try.prog W 0 (fun _ => true) true Try.f9.params.toList args.toList ds p := hA0
  have hAk := hA
  rw [Try.params9] at hA hval
  obtain ⟨v0, v1, d0, d1, p0, p1, rfl, rfl, rfl, h0, h1⟩ := trodAll_two hA
  obtain ⟨rfl, rfl⟩ := trodVars_none hV
  simp only [List.append_nil] at hW' hAk
  obtain ⟨cs, rfl, _⟩ := okWide_struct Try.underlying32 (hval 0 32 v0 rfl rfl)
  obtain ⟨n0, g0⟩ := h0
  obtain ⟨_, ⟨c, rfl⟩, r0⟩ := (rdCase W).read g0
  have k1 := hval 1 69 v1 rfl rfl
  unfold Value.okWide at k1
  rw [Try.underlying69] at k1
  obtain ⟨xs, rfl, _⟩ := k1
  obtain ⟨n1, g1⟩ := h1
  obtain ⟨_, ⟨q0, q1, rfl, w0, w1⟩, r1⟩ := (rdPair W).read g1
  clear hA0 hval0
  refine (top (fn9 c q0 q1 w0 w1) W _ ⟨_, _, rfl, ⟨cs, rfl, r0⟩, _, _, rfl, ⟨xs, rfl, r1⟩, rfl⟩).mono fun e W' ⟨x, he, ⟨F', hx⟩, hs⟩ => ?_
  have hx : x = .bool true := hx
  subst he
  subst hx
  refine ⟨_, rfl, ?_⟩
  refine ⟨_, _, _, [], _, [], hW', trodAll_mk1 (shut_bool Try.underlying4 _), trodAll_carry (DataW.TrodAll.respare kids full (by rw [Try.params9]; decide) hAk (fun p hp => by simpa using hAk.lt p hp)) (fun p hp => hs.sameAt (hAk.lt p hp)), rfl, hs.frame _, fun h => by cases h⟩

theorem chainShortest_holds : Rows.ChainShortestSaid :=
  OpenClaim.holds_of_wide 9 Try.f9 rfl rfl rfl rfl rfl rfl rfl ⟨rfl, rfl, rfl, rfl, rfl⟩ rfl rfl rfl rfl rfl (by kernel_rfl) Try.func9 (by kernel_rfl)
    (of_decide_eq_true (by kernel_rfl)) (by unfold Func.isWrapper; first | (rw [if_pos (by decide +kernel)]; kernel_rfl) | (rw [if_neg (by decide +kernel)]; exact ⟨rfl, rfl⟩))
    (fun os started H enc _ => chainShortest_lifted os started H enc)
end Go.Proofs.Ytifbnniijibfgaa
