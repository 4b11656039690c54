import Derived.Test.YtifbnniijibfgaaPxW
set_option linter.all false
set_option maxRecDepth 10000
namespace Go.PX
open Go.Proofs

/-- Runs of lengths at which the mooring holds: the first n of them. -/
def runL (ok : Int → Bool) (n : Int) : Nat → Int → Int → List Span → List Span
  | 0, _, _, acc => acc
  | r + 1, k, a, acc =>
    if ok k && decide (a = 0) then runL ok n r (k + 1) (k + 1) acc
    else if !ok k && decide (a > 0) then (if ((acc.length : Int) + 1) = n then acc ++ [⟨a, k⟩] else runL ok n r (k + 1) 0 (acc ++ [⟨a, k⟩]))
    else runL ok n r (k + 1) a acc

def holdsAt (c : Case) (th : List Span) (k : Int) : Bool := decide (k < linksF c.chain.shots) && decide ((breakF c th (k + 1)).1 = 0)
def scopesF (c : Case) (th : List Span) (n : Int) : List Span := runL (holdsAt c th) n (linksF c.chain.shots + 1).toNat 0 0 []

theorem fn78 (c : Case) (th : List Span) (fr : List (D × D)) (n : Int) (h : MoorOk c th) : FnV Try.prog 78 [mD c th fr, i64 n] (spansD (scopesF c th n)) := by
  refine fnV_of mixed tysOk Try.func78 rfl (ft := ft78) 2 (by decide +kernel) (by rfl) fun {σ} Y st => ?_
  conv => whnf
  have hR := h.case
  have hlk := links_ok hR
  refine CallA_v (fn84 c.chain (by have := hR.lens; omega) (links_bd hR)) rfl rfl ?_
  conv => whnf
  refine arith_in (wrap_i64 (by (try dsimp only); omega)) ?_
  conv => whnf
  obtain ⟨lk, hlk'⟩ : ∃ x, x = linksF c.chain.shots := ⟨_, rfl⟩
  rw [← hlk'] at hlk
  rw [← hlk']
  refine LoopA_p (T := tys) tysOk (by exact drawsB_spec mixed tysOk (by decide +kernel)) (α := Int × Int × List Span)
    (fun x => ⟨[(0, .d (mD c th fr)), (1, .d (i64 n)), (4, .sl 56 2 0 x.2.2.length), (5, .d (i64 x.2.1)), (6, .d (i64 lk)), (19, .d (i64 (lk + 1))), (20, .d (i64 x.1))], [(56, .arr 2 (.dd (x.2.2.map Span.cells)))], st⟩)
    (fun x => (0 ≤ x.1 ∧ x.1 ≤ lk + 1) ∧ (0 ≤ x.2.1 ∧ x.2.1 ≤ x.1) ∧ x.2.2.length ≤ x.1.toNat ∧ scopesF c th n = runL (holdsAt c th) n (lk + 1 - x.1).toNat x.1 x.2.1 x.2.2) (fun x => (lk + 1 - x.1).toNat) (0, 0, [])
    ((Wk.born 4 56 2 rfl rfl rfl).trans (Wk.sub ⟨(by first | rfl | (simp only [List.length_map]; rfl) | simp [PX.get]), (by first | rfl | (simp only [List.length_map]; rfl) | simp [PX.get]), (by first | rfl | (simp only [List.length_map]; rfl) | simp [PX.get]), (by first | rfl | (simp only [List.length_map]; rfl) | simp [PX.get]), (by first | rfl | (simp only [List.length_map]; rfl) | simp [PX.get]), (by first | rfl | (simp only [List.length_map]; rfl) | simp [PX.get]), (by first | rfl | (simp only [List.length_map]; rfl) | simp [PX.get]), trivial⟩ ⟨(by first | rfl | (simp only [List.length_map]; rfl) | simp [PX.get]), trivial⟩)) ⟨by simp only; omega, by simp only; omega, by simp, by simp only [scopesF, hlk', Int.sub_zero]⟩ ?_
  rintro ⟨k, a, acc⟩ ⟨hk, ha, hac, he⟩
  simp only at hk ha hac he
  conv => whnf
  refine brk_i (fun hb => ?_) (fun hb => ?_)
  · have hb : k < lk + 1 := by simpa using hb
    have hm : (lk + 1 - k).toNat = (lk + 1 - (k + 1)).toNat + 1 := by omega
    rw [hm, runL] at he
    have done : ∀ a' acc', (0 ≤ a' ∧ a' ≤ k + 1) → acc'.length ≤ (k + 1).toNat → scopesF c th n = runL (holdsAt c th) n (lk + 1 - (k + 1)).toNat (k + 1) a' acc' →
        ((lk + 1 - (k + 1)).toNat < (lk + 1 - k).toNat) ∧ ((0 ≤ k + 1 ∧ k + 1 ≤ lk + 1) ∧ (0 ≤ a' ∧ a' ≤ k + 1) ∧ acc'.length ≤ (k + 1).toNat ∧ scopesF c th n = runL (holdsAt c th) n (lk + 1 - (k + 1)).toNat (k + 1) a' acc') :=
      fun a' acc' h1 h2 h3 => ⟨by omega, ⟨by omega, by omega⟩, h1, h2, h3⟩
    conv => whnf
    refine brk_i (fun h1 => ?_) (fun h1 => ?_)
    · have h1 : k < lk := by simpa using h1
      conv => whnf
      refine arith_in (wrap_i64 (by (try dsimp only); omega)) ?_
      conv => whnf
      refine CallA_v (fn74 c th fr (k + 1) h (by omega)) rfl rfl ?_
      conv => whnf
      by_cases h2 : (breakF c th (k + 1)).1 = 0
      · have hok : holdsAt c th k = true := by simp [holdsAt, h2, ← hlk', h1]
        simp only [hok, Bool.true_and, Bool.not_true, Bool.false_and, Bool.false_eq_true, if_false] at he
        rw [h2]
        conv => whnf
        refine brk_i (fun h3 => ?_) (fun h3 => ?_)
        · have h3 : a = 0 := by simpa using h3
          simp only [h3, decide_true, if_true] at he
          conv => whnf
          refine arith_in (wrap_i64 (by (try dsimp only); omega)) ?_
          conv => whnf
          refine arith_in (wrap_i64 (by (try dsimp only); omega)) ?_
          conv => whnf
          obtain ⟨d1, d2⟩ := done (k + 1) acc (by omega) (by omega) he
          exact ⟨(k + 1, k + 1, acc), d1, d2, (Wk.sub ⟨(by first | rfl | (simp only [List.length_map]; rfl) | simp [PX.get]), (by first | rfl | (simp only [List.length_map]; rfl) | simp [PX.get]), (by first | rfl | (simp only [List.length_map]; rfl) | simp [PX.get]), (by first | rfl | (simp only [List.length_map]; rfl) | simp [PX.get]), (by first | rfl | (simp only [List.length_map]; rfl) | simp [PX.get]), (by first | rfl | (simp only [List.length_map]; rfl) | simp [PX.get]), (by first | rfl | (simp only [List.length_map]; rfl) | simp [PX.get]), trivial⟩ ⟨(by first | rfl | (simp only [List.length_map]; rfl) | simp [PX.get]), trivial⟩)⟩
        · have h3 : ¬ a = 0 := by simpa using h3
          simp only [h3, decide_false, Bool.false_eq_true, if_false] at he
          conv => whnf
          refine arith_in (wrap_i64 (by (try dsimp only); omega)) ?_
          conv => whnf
          obtain ⟨d1, d2⟩ := done a acc (by omega) (by omega) he
          exact ⟨(k + 1, a, acc), d1, d2, (Wk.sub ⟨(by first | rfl | (simp only [List.length_map]; rfl) | simp [PX.get]), (by first | rfl | (simp only [List.length_map]; rfl) | simp [PX.get]), (by first | rfl | (simp only [List.length_map]; rfl) | simp [PX.get]), (by first | rfl | (simp only [List.length_map]; rfl) | simp [PX.get]), (by first | rfl | (simp only [List.length_map]; rfl) | simp [PX.get]), (by first | rfl | (simp only [List.length_map]; rfl) | simp [PX.get]), (by first | rfl | (simp only [List.length_map]; rfl) | simp [PX.get]), trivial⟩ ⟨(by first | rfl | (simp only [List.length_map]; rfl) | simp [PX.get]), trivial⟩)⟩
      · have hok : holdsAt c th k = false := by simp [holdsAt, h2]
        rw [show decide ((breakF c th (k + 1)).1 = 0) = false from decide_eq_false h2]
        simp only [hok, Bool.false_and, Bool.not_false, Bool.true_and, Bool.false_eq_true, if_false] at he
        conv => whnf
        refine brk_i (fun h3 => ?_) (fun h3 => ?_)
        · have h3 : a > 0 := by simpa using h3
          simp only [h3, decide_true, if_true] at he
          conv => whnf
          refine chk_i (by simp [Els.len]) ?_
          conv => whnf
          refine chk_i (by simp [Els.len, Els.part, Els.cons, V.cells]; omega) ?_
          conv => whnf
          refine brk_i (fun h4 => ?_) (fun h4 => ?_)
          · have h4 : (acc.length : Int) + 1 = n := by simpa [Els.len, Els.part, Els.cons, V.cells] using h4
            rw [if_pos h4] at he
            conv => whnf
            rw [he]
            refine RetA_view 2 (ds := [spansD (acc ++ [⟨a, k⟩])]) (viewL_cons (viewV_sl' (es' := (acc ++ [Span.mk a k]).map Span.cells) rfl ?_ ?_) rfl) ⟨⟨rfl, rfl⟩, rfl⟩
            · show ((((acc.map Span.cells).drop 0).take acc.length) ++ [Span.cells ⟨a, k⟩]) = _
              rw [List.drop_zero, List.take_of_length_le (by simp)]; simp
            · show ((((acc.map Span.cells).drop 0).take acc.length).length + 1) = _
              rw [List.drop_zero, List.take_of_length_le (by simp)]; simp
          · have h4 : ¬ (acc.length : Int) + 1 = n := by simpa [Els.len, Els.part, Els.cons, V.cells] using h4
            rw [if_neg h4] at he
            conv => whnf
            refine arith_in (wrap_i64 (by (try dsimp only); omega)) ?_
            conv => whnf
            obtain ⟨d1, d2⟩ := done 0 (acc ++ [⟨a, k⟩]) (by omega) (by simp; omega) he
            refine ⟨(k + 1, 0, acc ++ [⟨a, k⟩]), d1, d2, Wk.sub ⟨rfl, rfl, ?_, rfl, rfl, rfl, rfl, trivial⟩ ⟨?_, trivial⟩⟩
            · show some (V.sl 56 2 0 ((((acc.map Span.cells).drop 0).take acc.length).length + 1)) = _
              rw [List.drop_zero, List.take_of_length_le (by simp)]; simp
            · show some (Obj.arr 2 (.dd ((((acc.map Span.cells).drop 0).take acc.length) ++ [Span.cells ⟨a, k⟩]))) = _
              rw [List.drop_zero, List.take_of_length_le (by simp)]; simp
        · have h3 : ¬ a > 0 := by simpa using h3
          simp only [h3, decide_false, Bool.false_eq_true, if_false] at he
          conv => whnf
          refine arith_in (wrap_i64 (by (try dsimp only); omega)) ?_
          conv => whnf
          obtain ⟨d1, d2⟩ := done a acc (by omega) (by omega) he
          exact ⟨(k + 1, a, acc), d1, d2, (Wk.sub ⟨(by first | rfl | (simp only [List.length_map]; rfl) | simp [PX.get]), (by first | rfl | (simp only [List.length_map]; rfl) | simp [PX.get]), (by first | rfl | (simp only [List.length_map]; rfl) | simp [PX.get]), (by first | rfl | (simp only [List.length_map]; rfl) | simp [PX.get]), (by first | rfl | (simp only [List.length_map]; rfl) | simp [PX.get]), (by first | rfl | (simp only [List.length_map]; rfl) | simp [PX.get]), (by first | rfl | (simp only [List.length_map]; rfl) | simp [PX.get]), trivial⟩ ⟨(by first | rfl | (simp only [List.length_map]; rfl) | simp [PX.get]), trivial⟩)⟩
    · have h1 : ¬ k < lk := by simpa using h1
      have hok : holdsAt c th k = false := by simp [holdsAt, ← hlk', h1]
      simp only [hok, Bool.false_and, Bool.not_false, Bool.true_and, Bool.false_eq_true, if_false] at he
      conv => whnf
      refine brk_i (fun h3 => ?_) (fun h3 => ?_)
      · have h3 : a > 0 := by simpa using h3
        simp only [h3, decide_true, if_true] at he
        conv => whnf
        refine chk_i (by simp [Els.len]) ?_
        conv => whnf
        refine chk_i (by simp [Els.len, Els.part, Els.cons, V.cells]; omega) ?_
        conv => whnf
        refine brk_i (fun h4 => ?_) (fun h4 => ?_)
        · have h4 : (acc.length : Int) + 1 = n := by simpa [Els.len, Els.part, Els.cons, V.cells] using h4
          rw [if_pos h4] at he
          conv => whnf
          rw [he]
          refine RetA_view 2 (ds := [spansD (acc ++ [⟨a, k⟩])]) (viewL_cons (viewV_sl' (es' := (acc ++ [Span.mk a k]).map Span.cells) rfl ?_ ?_) rfl) ⟨⟨rfl, rfl⟩, rfl⟩
          · show ((((acc.map Span.cells).drop 0).take acc.length) ++ [Span.cells ⟨a, k⟩]) = _
            rw [List.drop_zero, List.take_of_length_le (by simp)]; simp
          · show ((((acc.map Span.cells).drop 0).take acc.length).length + 1) = _
            rw [List.drop_zero, List.take_of_length_le (by simp)]; simp
        · have h4 : ¬ (acc.length : Int) + 1 = n := by simpa [Els.len, Els.part, Els.cons, V.cells] using h4
          rw [if_neg h4] at he
          conv => whnf
          refine arith_in (wrap_i64 (by (try dsimp only); omega)) ?_
          conv => whnf
          obtain ⟨d1, d2⟩ := done 0 (acc ++ [⟨a, k⟩]) (by omega) (by simp; omega) he
          refine ⟨(k + 1, 0, acc ++ [⟨a, k⟩]), d1, d2, Wk.sub ⟨rfl, rfl, ?_, rfl, rfl, rfl, rfl, trivial⟩ ⟨?_, trivial⟩⟩
          · show some (V.sl 56 2 0 ((((acc.map Span.cells).drop 0).take acc.length).length + 1)) = _
            rw [List.drop_zero, List.take_of_length_le (by simp)]; simp
          · show some (Obj.arr 2 (.dd ((((acc.map Span.cells).drop 0).take acc.length) ++ [Span.cells ⟨a, k⟩]))) = _
            rw [List.drop_zero, List.take_of_length_le (by simp)]; simp
      · have h3 : ¬ a > 0 := by simpa using h3
        simp only [h3, decide_false, Bool.false_eq_true, if_false] at he
        conv => whnf
        refine arith_in (wrap_i64 (by (try dsimp only); omega)) ?_
        conv => whnf
        obtain ⟨d1, d2⟩ := done a acc (by omega) (by omega) he
        exact ⟨(k + 1, a, acc), d1, d2, (Wk.sub ⟨(by first | rfl | (simp only [List.length_map]; rfl) | simp [PX.get]), (by first | rfl | (simp only [List.length_map]; rfl) | simp [PX.get]), (by first | rfl | (simp only [List.length_map]; rfl) | simp [PX.get]), (by first | rfl | (simp only [List.length_map]; rfl) | simp [PX.get]), (by first | rfl | (simp only [List.length_map]; rfl) | simp [PX.get]), (by first | rfl | (simp only [List.length_map]; rfl) | simp [PX.get]), (by first | rfl | (simp only [List.length_map]; rfl) | simp [PX.get]), trivial⟩ ⟨(by first | rfl | (simp only [List.length_map]; rfl) | simp [PX.get]), trivial⟩)⟩
  · have hb : ¬ k < lk + 1 := by simpa using hb
    have hm : (lk + 1 - k).toNat = 0 := by omega
    rw [hm, runL] at he
    conv => whnf
    rw [he]
    exact RetA_view 2 (ds := [spansD acc]) (viewL_cons (viewV_sl rfl (by simp)) rfl) ⟨⟨rfl, rfl⟩, rfl⟩
end Go.PX

namespace Go.PX
open Go.Proofs

def shortE (c : Case) : Int × Int :=
  if lookE c (checkC c).2.2 = 0 then (match scopesF c (thickL c) 1 with
    | [] => (0, 9)
    | s :: _ => (s.lo, 0)) else (0, lookE c (checkC c).2.2)

theorem fn40 (c : Case) : FnV Try.prog 40 [c.d] (.tup [i64 (shortE c).1, i64 (shortE c).2]) := by
  refine fnV_of mixed tysOk Try.func40 rfl (ft := ft40) 1 (by decide +kernel) (by rfl) fun {σ} Y st => ?_
  conv => whnf
  refine CallA_v (fn13 c) rfl rfl ?_
  conv => whnf
  refine CallA_v (fn66' c (checkC c).2.2 (fun h => case_ok h)) rfl rfl ?_
  conv => whnf
  unfold lookD
  by_cases h1 : lookE c (checkC c).2.2 = 0
  · obtain ⟨h0, hs⟩ := lookE_zero h1
    have hR := case_ok h0
    rw [if_pos h1, h1]
    conv => whnf
    refine CallA_v (ds := [mD c (thickL c) (freshM c.chain.shots 0), i64 1]) (fn78 c (thickL c) (freshM c.chain.shots 0) 1 (moor_ok hR)) rfl rfl ?_
    cases hl : scopesF c (thickL c) 1 with
    | nil =>
      have hE : shortE c = (0, 9) := by simp [shortE, h1, hl]
      rw [hE]
      conv => whnf
      exact RetA_view 0 rfl ⟨⟨rfl, rfl⟩, rfl⟩
    | cons s r =>
      have hE : shortE c = (s.lo, 0) := by simp [shortE, h1, hl]
      rw [hE]
      conv => whnf
      exact RetA_view 0 rfl ⟨⟨rfl, rfl⟩, rfl⟩
  · have hE : shortE c = (0, lookE c (checkC c).2.2) := by simp [shortE, h1]
    rw [hE, if_neg h1]
    conv => whnf
    refine brk_i (fun _ => ?_) (fun h => absurd h (by simpa using h1))
    conv => whnf
    exact RetA_view 0 rfl ⟨⟨rfl, rfl⟩, rfl⟩

def scopesE (c : Case) : List Span × Int :=
  if lookE c (checkC c).2.2 = 0 then (match scopesF c (thickL c) (linksF c.chain.shots) with
    | [] => ([], 9)
    | s :: r => (s :: r, 0)) else ([], lookE c (checkC c).2.2)

theorem fn41 (c : Case) : FnV Try.prog 41 [c.d] (.tup [spansD (scopesE c).1, i64 (scopesE c).2]) := by
  refine fnV_of mixed tysOk Try.func41 rfl (ft := ft41) 1 (by decide +kernel) (by rfl) fun {σ} Y st => ?_
  conv => whnf
  refine CallA_v (fn13 c) rfl rfl ?_
  conv => whnf
  refine CallA_v (fn66' c (checkC c).2.2 (fun h => case_ok h)) rfl rfl ?_
  conv => whnf
  unfold lookD
  by_cases h1 : lookE c (checkC c).2.2 = 0
  · obtain ⟨h0, hs⟩ := lookE_zero h1
    have hR := case_ok h0
    rw [if_pos h1, h1]
    conv => whnf
    refine CallA_v (fn84 c.chain (by have := hR.lens; omega) (links_bd hR)) rfl rfl ?_
    conv => whnf
    refine CallA_v (ds := [mD c (thickL c) (freshM c.chain.shots 0), i64 (linksF c.chain.shots)]) (fn78 c (thickL c) (freshM c.chain.shots 0) (linksF c.chain.shots) (moor_ok hR)) rfl rfl ?_
    cases hl : scopesF c (thickL c) (linksF c.chain.shots) with
    | nil =>
      have hE : scopesE c = ([], 9) := by simp [scopesE, h1, hl]
      rw [hE]
      conv => whnf
      refine RetA_nil0 ?_
      exact RetA_view 0 rfl ⟨⟨rfl, rfl⟩, rfl⟩
    | cons s r =>
      have hE : scopesE c = (s :: r, 0) := by simp [scopesE, h1, hl]
      rw [hE]
      conv => whnf
      exact RetA_view 0 rfl ⟨⟨rfl, rfl⟩, rfl⟩
  · have hE : scopesE c = ([], lookE c (checkC c).2.2) := by simp [scopesE, h1]
    rw [hE, if_neg h1]
    conv => whnf
    refine brk_i (fun _ => ?_) (fun h => absurd h (by simpa using h1))
    conv => whnf
    refine RetA_nil0 ?_
    exact RetA_view 0 rfl ⟨⟨rfl, rfl⟩, rfl⟩
end Go.PX

namespace Go.PX
open Go.Proofs

/-- What a search does, from a place, with so many numbers to come. -/
def Fill103 (g : FuncId) (caps : List D) (wf : List Int → Bool × Bool) (many left : Nat) : Prop :=
  ∀ (start : Nat) (p : List Int) (x : Bool) (b : Bool), left ≤ many → start ≤ many + 1 → p.length + left ≤ many → (∀ i ∈ p, 0 ≤ i ∧ i < many) → ∀ {σ : Type} (Y : Hd σ) (s : σ),
      FnC Try.prog Y 103 (fillArgs start left) (fillH 103 g caps many 1000006 p.length p (.bool x) (.bool b)) s fun v h' s' => s' = s ∧ ∃ (q : List Int) (y : Bool) (b' : Bool), h' = fillH 103 g caps many 2000000 q.length q (.bool y) (.bool b') ∧
        (match fillF wf many left p start with
        | some (q', y') => v = .d (.bool true) ∧ q = q' ∧ y = y' ∧ b' = true
        | none => v = .d (.bool false) ∧ q = p)

/-- What is searched for. -/
def Want103 (g : FuncId) (caps : List D) (wf : List Int → Bool × Bool) (many : Nat) : Prop :=
  ∀ q : List Int, (∀ i ∈ q, 0 ≤ i ∧ i < many) → q.length ≤ many → FnV Try.prog g (intsD q :: caps) (.tup [.bool (wf q).1, .bool (wf q).2])

theorem fill103_zero {g : FuncId} {caps : List D} {wf : List Int → Bool × Bool} {many : Nat} (hm : many ≤ 1000) (hw : Want103 g caps wf many) : Fill103 g caps wf many 0 := by
  intro start p x b hl hf hp hin σ Y s
  refine fnC_of mixed tysOk Try.func103 rfl (ft := ft103) (args := fillArgs start 0) (show fnB ft103 Try.f103 8 = true from by decide +kernel) ?_
  conv => whnf
  have hcl : (intsC p).length = p.length := by simp [intsC]
  refine CallA_view (ds := intsD p :: caps) (hw p hin (by omega)) rfl 1 (viewL_cons (viewV_sl rfl (by simp [intsC])) (viewL_inj caps)) ?_
  conv => whnf
  refine RetA_hand [1000006] [.d (.bool (wf p).2)] (fillH 103 g caps many 2000000 p.length p (.bool (wf p).1) (.bool (wf p).2)) rfl ⟨rfl, rfl, rfl, rfl, rfl, rfl, rfl, trivial⟩ rfl ?_
  refine ⟨rfl, p, (wf p).1, (wf p).2, rfl, ?_⟩
  simp only [fillF]
  cases hb : (wf p).2 <;> simp [packVv]

theorem fill103_succ {g : FuncId} {caps : List D} {wf : List Int → Bool × Bool} {many left : Nat} (hm : many ≤ 1000) (ihl : Fill103 g caps wf many left) : Fill103 g caps wf many (left + 1) := by
  intro start p x b hl hf hp hin σ Y s
  refine fnC_of mixed tysOk Try.func103 rfl (ft := ft103) (args := fillArgs start (left + 1)) (show fnB ft103 Try.f103 8 = true from by decide +kernel) ?_
  conv => whnf
  refine LoopA_p (T := tys) tysOk (by exact drawsB_spec mixed tysOk (by decide +kernel)) (α := Nat × Bool × Bool)
    (fun x => ⟨[(1, .d (i64 (left + 1 : Nat))), (2, .ptr 1000000 0), (3, .ptr 1000001 0), (4, .ptr 1000002 0), (5, .ptr 1000003 0), (6, .ptr 1000004 0), (7, .ptr 1000005 0), (11, .d (i64 x.1))], fillH 103 g caps many 900000 p.length p (.bool x.2.1) (.bool x.2.2), s⟩)
    (fun x => x.1 ≤ many + 1 ∧ fillF wf many (left + 1) p start = (List.range' x.1 (many - left - x.1)).findSome? fun (i : Nat) => fillF wf many left (p ++ [(i : Int)]) (i + 1)) (fun x => many + 1 - x.1) (start, x, b)
    ((Wk.move 1000006 900000 rfl rfl).trans (Wk.sub ⟨rfl, rfl, rfl, rfl, rfl, rfl, rfl, rfl, trivial⟩ ⟨rfl, rfl, rfl, rfl, rfl, rfl, rfl, trivial⟩)) ⟨hf, rfl⟩ ?_
  clear hf x b
  rintro ⟨i, x, b⟩ ⟨hi, he⟩
  simp only at hi he
  conv => whnf
  refine arith_in (wrap_i64 (by (try dsimp only); omega)) ?_
  conv => whnf
  refine brk_i (fun h1 => ?_) (fun h1 => ?_)
  · have h1 : i ≤ many - (left + 1) := by have := of_decide_eq_true h1; omega
    obtain ⟨m, hm1⟩ : ∃ m, many - left - i = m + 1 := ⟨many - left - i - 1, by omega⟩
    rw [hm1, List.range'_succ, List.findSome?_cons] at he
    have hpl : (intsC p).length = p.length := by simp [intsC]
    conv => whnf
    refine chk_i (by simp [Els.len, hpl]) ?_
    conv => whnf
    refine chk_i (by simp [Els.len, Els.part, Els.cons, V.cells, hpl]; omega) ?_
    conv => whnf
    refine arith_to (((i + 1 : Nat) : Int)) (by (try dsimp only); omega) (wrap_i64 (by (try dsimp only); omega)) ?_
    conv => whnf
    refine arith_to ((left : Int)) (by (try dsimp only); omega) (wrap_i64 (by (try dsimp only); omega)) ?_
    conv => whnf
    have hin' : ∀ j ∈ p ++ [(i : Int)], 0 ≤ j ∧ j < many := by
      intro j hj
      rcases List.mem_append.1 hj with hj | hj
      · exact hin j hj
      · rw [List.mem_singleton] at hj; subst hj; omega
    have ih := ihl (i + 1) (p ++ [(i : Int)]) x b (by omega) (by omega) (by simp; omega) hin' Y s
    refine CallA_y ih [1000000, 1000001, 1000002, 1000003, 1000004, 1000005, 32] rfl ⟨_, _, rfl, rfl, _, _, rfl, (by
        show some (Obj.box (Cells.vv [V.sl 32 1 0 ((((intsC p).drop 0).take p.length).length + 1)])) = some (Obj.box (Cells.vv [V.sl 32 1 0 (p ++ [(i : Int)]).length]))
        simp [intsC]), _, _, rfl, rfl, _, _, rfl, rfl, _, _, rfl, rfl, _, _, rfl, rfl, _, _, rfl, (by
        show some (Obj.arr 1 (Els.dd ((((intsC p).drop 0).take p.length) ++ [[i64 (i : Int)]]))) = some (Obj.arr 1 (Els.dd (intsC (p ++ [(i : Int)]))))
        simp [intsC, List.take_of_length_le]), rfl⟩ rfl rfl ?_
    rintro v h1 s' ⟨rfl, q, y, b', rfl, hpost⟩
    cases hF : fillF wf many left (p ++ [(i : Int)]) (i + 1) with
    | some r =>
      obtain ⟨q', y'⟩ := r
      rw [hF] at hpost he
      obtain ⟨rfl, rfl, rfl, rfl⟩ := hpost
      refine ⟨rfl, ?_⟩
      conv => whnf
      refine RetA_hand [102432] [.d (.bool true)] (fillH 103 g caps many 2000000 q.length q (.bool y) (.bool true)) rfl ⟨rfl, box_same rfl ⟨⟨rfl, rfl, rfl, rfl⟩, trivial⟩, rfl, rfl, rfl, box_same rfl ⟨⟨rfl, ⟨rfl, rfl⟩, ⟨rfl, rfl⟩, ⟨rfl, rfl⟩, ⟨rfl, rfl⟩, ⟨rfl, rfl⟩, ⟨rfl, rfl⟩, trivial⟩, trivial⟩, rfl, trivial⟩ rfl ?_
      refine ⟨rfl, q, y, true, rfl, ?_⟩
      rw [he]
      exact ⟨rfl, rfl, rfl, rfl⟩
    | none =>
      rw [hF] at hpost he
      obtain ⟨rfl, rfl⟩ := hpost
      refine ⟨rfl, ?_⟩
      conv => whnf
      refine arith_to (p.length : Int) (by simp) (wrap_i64 (by omega)) ?_
      conv => whnf
      refine chk_i (by simp; omega) ?_
      conv => whnf
      refine arith_to (((i + 1 : Nat) : Int)) (by (try dsimp only); omega) (wrap_i64 (by (try dsimp only); omega)) ?_
      conv => whnf
      have hm2 : many - left - (i + 1) = m := by omega
      refine ⟨(i + 1, y, b'), by simp only; omega, ⟨by simp only; omega, by simp only; rw [hm2]; exact he⟩, (Wk.move 102432 900000 rfl rfl).trans ((Wk.shrink 900000 p.length rfl).trans ?_)⟩
      have hsh : (intsC (p ++ [(i : Int)])).take p.length = intsC p := by simp [intsC, List.take_left']
      refine Wk.sub ⟨rfl, rfl, rfl, rfl, rfl, rfl, rfl, rfl, trivial⟩ ⟨rfl, ?_, rfl, rfl, rfl, rfl, ?_, trivial⟩
      · rfl
      · show some (Obj.arr 1 (Els.dd ((intsC (p ++ [(i : Int)])).take p.length))) = _
        rw [hsh]
  · have h1 : ¬ (i : Int) ≤ (many : Int) - ((left + 1 : Nat) : Int) := of_decide_eq_false h1
    rw [show many - left - i = 0 by omega] at he
    conv => whnf
    refine RetA_hand [900000] [.d (.bool false)] (fillH 103 g caps many 2000000 p.length p (.bool x) (.bool b)) rfl ⟨rfl, rfl, rfl, rfl, rfl, rfl, rfl, trivial⟩ rfl ?_
    refine ⟨rfl, p, x, b, rfl, ?_⟩
    rw [he]
    exact ⟨rfl, rfl⟩

theorem fill103 {g : FuncId} {caps : List D} {wf : List Int → Bool × Bool} {many : Nat} (hm : many ≤ 1000) (hw : Want103 g caps wf many) (left : Nat) : Fill103 g caps wf many left := by
  induction left with
  | zero => exact fill103_zero hm hw
  | succ n ih => exact fill103_succ hm ih
theorem fn75 (g : FuncId) (caps : List D) (wf : List Int → Bool × Bool) (many : Nat) (hm : many ≤ 1000) (hw : Want103 g caps wf many) {σ : Type} (Y : Hd σ) (s : σ) :
    FnC Try.prog Y 75 [.d (i64 many), .d (.clo g caps)] [] s fun v h' s' => s' = s ∧ h' = [] ∧ (match chooseF wf many with
      | some (q, y) => v = .d (.tup [intsD q, .bool y, .bool true])
      | none => ∃ y, v = .d (.tup [intsD [], .bool y, .bool false])) := by
  refine fnC_of mixed tysOk Try.func75 rfl (ft := ft75) (args := [.d (i64 many), .d (.clo g caps)]) (show fnB ft75 Try.f75 2 = true from by decide +kernel) ?_
  conv => whnf
  refine arith_in (wrap_i64 (by (try dsimp only); omega)) ?_
  conv => whnf
  refine LoopA_p (T := tys) tysOk (by exact drawsB_spec mixed tysOk (by decide +kernel)) (α := Nat × Bool × Bool)
    (fun x => ⟨[(2, .ptr 2 0), (3, .ptr 3 0), (4, .ptr 4 0), (5, .ptr 5 0), (6, .ptr 6 0), (7, .ptr 7 0), (11, .d (i64 (many + 1 : Nat))), (12, .d (i64 x.1))],
      [(2, .box (.dd [i64 many])), (3, .box (.dd [.clo g caps])), (4, .box (.vv [.sl 900000 1 0 0])), (5, .box (.dd [.bool x.2.1])), (6, .box (.dd [.bool x.2.2])), (7, .box (.vv [.clo 103 [.ptr 3 0, .ptr 4 0, .ptr 5 0, .ptr 6 0, .ptr 2 0, .ptr 7 0]])), (900000, .arr 1 (.dd []))], s⟩)
    (fun x => x.1 ≤ many + 1 ∧ chooseF wf many = (List.range' x.1 (many + 1 - x.1)).findSome? fun (n : Nat) => fillF wf many n [] 0) (fun x => many + 1 - x.1) (0, false, false)
    ((Wk.bornBox 4 900000 1 rfl rfl rfl rfl).trans (Wk.sub ⟨rfl, rfl, rfl, rfl, rfl, rfl, rfl, rfl, trivial⟩ ⟨rfl, rfl, rfl, rfl, rfl, rfl, rfl, trivial⟩)) ⟨by simp, rfl⟩ ?_
  rintro ⟨n, x, b⟩ ⟨hn, he⟩
  simp only at hn he
  conv => whnf
  refine brk_i (fun h1 => ?_) (fun h1 => ?_)
  · have h1 : n < many + 1 := by have := of_decide_eq_true h1; omega
    obtain ⟨m, hm1⟩ : ∃ m, many + 1 - n = m + 1 := ⟨many - n, by omega⟩
    have hm2 : many + 1 - (n + 1) = m := by omega
    rw [hm1, List.range'_succ, List.findSome?_cons] at he
    conv => whnf
    refine CallA_w (fill103 hm hw n 0 [] x b (by omega) (by omega) (by simp; omega) (by simp) Y s) [3, 4, 5, 6, 2, 7, 900000] rfl ⟨_, _, rfl, rfl, _, _, rfl, rfl, _, _, rfl, rfl, _, _, rfl, rfl, _, _, rfl, rfl, _, _, rfl, rfl, _, _, rfl, rfl, rfl⟩ rfl rfl ?_
    rintro v h1 s' ⟨rfl, q, y, b', rfl, hpost⟩
    cases hF : fillF wf many n [] 0 with
    | some r =>
      obtain ⟨q', y'⟩ := r
      rw [hF] at hpost he
      obtain ⟨rfl, rfl, rfl, rfl⟩ := hpost
      refine ⟨rfl, ?_⟩
      conv => whnf
      refine ⟨⟨[(4, .ptr 4 0), (5, .ptr 5 0), (6, .ptr 6 0), (17, .d (.bool true))], [(4, .box (.dd [intsD q])), (5, .box (.dd [.bool y])), (6, .box (.dd [.bool true]))], s'⟩, (Wk.frz 1 [101088]).trans (Wk.sub ⟨rfl, rfl, rfl, rfl, trivial⟩ ⟨?_, rfl, rfl, trivial⟩), ?_⟩
      · exact get_frz (id := 101088) (sz := 1) (n := q.length) rfl (viewV_sl (es := intsC q) rfl (by simp [intsC]))
      conv => whnf
      refine DrawCall_v (fn97 q (by have := fillF_len hF; simp at this; omega)) rfl rfl ?_
      conv => whnf
      refine RetA_view 0 rfl ⟨rfl, rfl, ?_⟩
      rw [he]
      rfl
    | none =>
      rw [hF] at hpost he
      obtain ⟨rfl, rfl⟩ := hpost
      refine ⟨rfl, ?_⟩
      conv => whnf
      refine ⟨⟨[(2, .ptr 2 0), (3, .ptr 3 0), (4, .ptr 4 0), (5, .ptr 5 0), (6, .ptr 6 0), (7, .ptr 7 0), (11, .d (i64 (many + 1 : Nat))), (12, .d (i64 n)), (17, .d (.bool false))],
        [(2, .box (.dd [i64 many])), (3, .box (.dd [.clo g caps])), (4, .box (.vv [.sl 900000 1 0 0])), (5, .box (.dd [.bool y])), (6, .box (.dd [.bool b'])), (7, .box (.vv [.clo 103 [.ptr 3 0, .ptr 4 0, .ptr 5 0, .ptr 6 0, .ptr 2 0, .ptr 7 0]])), (900000, .arr 1 (.dd []))], s'⟩,
        (Wk.move 101088 900000 rfl rfl).trans (Wk.sub ⟨rfl, rfl, rfl, rfl, rfl, rfl, rfl, rfl, rfl, trivial⟩ ⟨rfl, rfl, rfl, rfl, rfl, rfl, rfl, trivial⟩), ?_⟩
      conv => whnf
      refine arith_in (wrap_i64 (by (try dsimp only); omega)) ?_
      conv => whnf
      exact ⟨(n + 1, y, b'), by simp only; omega, ⟨by simp only; omega, by simp only; rw [hm2]; exact he⟩, (Wk.sub ⟨rfl, rfl, rfl, rfl, rfl, rfl, rfl, rfl, trivial⟩ ⟨rfl, rfl, rfl, rfl, rfl, rfl, rfl, trivial⟩)⟩
  · have h1 : ¬ n < many + 1 := by have := of_decide_eq_false h1; omega
    rw [show many + 1 - n = 0 by omega] at he
    conv => whnf
    refine RetA_nil0 ?_
    refine RetA_view 0 rfl ⟨rfl, rfl, ?_⟩
    rw [he]
    exact ⟨x, rfl⟩

end Go.PX
