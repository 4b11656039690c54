import Derived.Test.YtifbnniijibfgaaPxK
import Derived.Test.YtifbnniijibfgaaPxG
import Derived.Test.YtifbnniijibfgaaPxH
set_option linter.all false
set_option maxRecDepth 10000
namespace Go.PX
open Go.Proofs

/-- Runs of lengths at which the mooring holds: the first n of them. -/
def runL (ok : Int → Bool) (n : Int) : Nat → Int → Int → List Span → List Span
  | 0, _, _, acc => acc
  | r + 1, k, a, acc =>
    if ok k && decide (a = 0) then runL ok n r (k + 1) (k + 1) acc
    else if !ok k && decide (a > 0) then (if ((acc.length : Int) + 1) = n then acc ++ [⟨a, k⟩] else runL ok n r (k + 1) 0 (acc ++ [⟨a, k⟩]))
    else runL ok n r (k + 1) a acc

def holdsAt (c : Case) (th : List Span) (k : Int) : Bool := decide (k < linksF c.chain.shots) && decide ((breakF c th (k + 1)).1 = 0)
def scopesF (c : Case) (th : List Span) (n : Int) : List Span := runL (holdsAt c th) n (linksF c.chain.shots + 1).toNat 0 0 []

theorem fn78 (c : Case) (th : List Span) (fr : List (D × D)) (n : Int) (h : MoorOk c th) : FnV Try.prog 78 [mD c th fr, i64 n] (spansD (scopesF c th n)) := by
  refine fnV_of mixed tysOk Try.func78 rfl (ft := ft78) 2 (by decide +kernel) (by rfl) fun {σ} Y st => ?_
  conv => whnf
  have hR := h.case
  have hlk := links_ok hR
  refine CallA_v (fn84 c.chain (by have := hR.lens; omega) (links_bd hR)) rfl rfl ?_
  conv => whnf
  refine arith_in (wrap_i64 (by (try dsimp only); omega)) ?_
  conv => whnf
  obtain ⟨lk, hlk'⟩ : ∃ x, x = linksF c.chain.shots := ⟨_, rfl⟩
  rw [← hlk'] at hlk
  rw [← hlk']
  refine LoopA_p (T := tys) tysOk (by exact drawsB_spec mixed tysOk (by decide +kernel)) (α := Int × Int × List Span)
    (fun x => ⟨[(0, .d (mD c th fr)), (1, .d (i64 n)), (4, .sl 56 2 0 x.2.2.length), (5, .d (i64 x.2.1)), (6, .d (i64 lk)), (19, .d (i64 (lk + 1))), (20, .d (i64 x.1))], [(56, .arr 2 (.dd (x.2.2.map Span.cells)))], st⟩)
    (fun x => (0 ≤ x.1 ∧ x.1 ≤ lk + 1) ∧ (0 ≤ x.2.1 ∧ x.2.1 ≤ x.1) ∧ x.2.2.length ≤ x.1.toNat ∧ scopesF c th n = runL (holdsAt c th) n (lk + 1 - x.1).toNat x.1 x.2.1 x.2.2) (fun x => (lk + 1 - x.1).toNat) (0, 0, [])
    ((Wk.born 4 56 2 rfl rfl rfl).trans (Wk.sub ⟨(by first | rfl | (simp only [List.length_map]; rfl) | simp [PX.get]), (by first | rfl | (simp only [List.length_map]; rfl) | simp [PX.get]), (by first | rfl | (simp only [List.length_map]; rfl) | simp [PX.get]), (by first | rfl | (simp only [List.length_map]; rfl) | simp [PX.get]), (by first | rfl | (simp only [List.length_map]; rfl) | simp [PX.get]), (by first | rfl | (simp only [List.length_map]; rfl) | simp [PX.get]), (by first | rfl | (simp only [List.length_map]; rfl) | simp [PX.get]), trivial⟩ ⟨(by first | rfl | (simp only [List.length_map]; rfl) | simp [PX.get]), trivial⟩)) ⟨by simp only; omega, by simp only; omega, by simp, by simp only [scopesF, hlk', Int.sub_zero]⟩ ?_
  rintro ⟨k, a, acc⟩ ⟨hk, ha, hac, he⟩
  simp only at hk ha hac he
  conv => whnf
  refine brk_i (fun hb => ?_) (fun hb => ?_)
  · have hb : k < lk + 1 := by simpa using hb
    have hm : (lk + 1 - k).toNat = (lk + 1 - (k + 1)).toNat + 1 := by omega
    rw [hm, runL] at he
    have done : ∀ a' acc', (0 ≤ a' ∧ a' ≤ k + 1) → acc'.length ≤ (k + 1).toNat → scopesF c th n = runL (holdsAt c th) n (lk + 1 - (k + 1)).toNat (k + 1) a' acc' →
        ((lk + 1 - (k + 1)).toNat < (lk + 1 - k).toNat) ∧ ((0 ≤ k + 1 ∧ k + 1 ≤ lk + 1) ∧ (0 ≤ a' ∧ a' ≤ k + 1) ∧ acc'.length ≤ (k + 1).toNat ∧ scopesF c th n = runL (holdsAt c th) n (lk + 1 - (k + 1)).toNat (k + 1) a' acc') :=
      fun a' acc' h1 h2 h3 => ⟨by omega, ⟨by omega, by omega⟩, h1, h2, h3⟩
    conv => whnf
    refine brk_i (fun h1 => ?_) (fun h1 => ?_)
    · have h1 : k < lk := by simpa using h1
      conv => whnf
      refine arith_in (wrap_i64 (by (try dsimp only); omega)) ?_
      conv => whnf
      refine CallA_v (fn74 c th fr (k + 1) h (by omega)) rfl rfl ?_
      conv => whnf
      by_cases h2 : (breakF c th (k + 1)).1 = 0
      · have hok : holdsAt c th k = true := by simp [holdsAt, h2, ← hlk', h1]
        simp only [hok, Bool.true_and, Bool.not_true, Bool.false_and, Bool.false_eq_true, if_false] at he
        rw [h2]
        conv => whnf
        refine brk_i (fun h3 => ?_) (fun h3 => ?_)
        · have h3 : a = 0 := by simpa using h3
          simp only [h3, decide_true, if_true] at he
          conv => whnf
          refine arith_in (wrap_i64 (by (try dsimp only); omega)) ?_
          conv => whnf
          refine arith_in (wrap_i64 (by (try dsimp only); omega)) ?_
          conv => whnf
          obtain ⟨d1, d2⟩ := done (k + 1) acc (by omega) (by omega) he
          exact ⟨(k + 1, k + 1, acc), d1, d2, (Wk.sub ⟨(by first | rfl | (simp only [List.length_map]; rfl) | simp [PX.get]), (by first | rfl | (simp only [List.length_map]; rfl) | simp [PX.get]), (by first | rfl | (simp only [List.length_map]; rfl) | simp [PX.get]), (by first | rfl | (simp only [List.length_map]; rfl) | simp [PX.get]), (by first | rfl | (simp only [List.length_map]; rfl) | simp [PX.get]), (by first | rfl | (simp only [List.length_map]; rfl) | simp [PX.get]), (by first | rfl | (simp only [List.length_map]; rfl) | simp [PX.get]), trivial⟩ ⟨(by first | rfl | (simp only [List.length_map]; rfl) | simp [PX.get]), trivial⟩)⟩
        · have h3 : ¬ a = 0 := by simpa using h3
          simp only [h3, decide_false, Bool.false_eq_true, if_false] at he
          conv => whnf
          refine arith_in (wrap_i64 (by (try dsimp only); omega)) ?_
          conv => whnf
          obtain ⟨d1, d2⟩ := done a acc (by omega) (by omega) he
          exact ⟨(k + 1, a, acc), d1, d2, (Wk.sub ⟨(by first | rfl | (simp only [List.length_map]; rfl) | simp [PX.get]), (by first | rfl | (simp only [List.length_map]; rfl) | simp [PX.get]), (by first | rfl | (simp only [List.length_map]; rfl) | simp [PX.get]), (by first | rfl | (simp only [List.length_map]; rfl) | simp [PX.get]), (by first | rfl | (simp only [List.length_map]; rfl) | simp [PX.get]), (by first | rfl | (simp only [List.length_map]; rfl) | simp [PX.get]), (by first | rfl | (simp only [List.length_map]; rfl) | simp [PX.get]), trivial⟩ ⟨(by first | rfl | (simp only [List.length_map]; rfl) | simp [PX.get]), trivial⟩)⟩
      · have hok : holdsAt c th k = false := by simp [holdsAt, h2]
        rw [show decide ((breakF c th (k + 1)).1 = 0) = false from decide_eq_false h2]
        simp only [hok, Bool.false_and, Bool.not_false, Bool.true_and, Bool.false_eq_true, if_false] at he
        conv => whnf
        refine brk_i (fun h3 => ?_) (fun h3 => ?_)
        · have h3 : a > 0 := by simpa using h3
          simp only [h3, decide_true, if_true] at he
          conv => whnf
          refine ownK_whole rfl ?_
          conv => whnf
          refine ownK.mk (by simp [Els.len]) ?_
          conv => whnf
          refine chk_i (by simp [Els.len, Els.part, Els.cons, V.cells]; omega) ?_
          conv => whnf
          refine brk_i (fun h4 => ?_) (fun h4 => ?_)
          · have h4 : (acc.length : Int) + 1 = n := by simpa [Els.len, Els.part, Els.cons, V.cells] using h4
            rw [if_pos h4] at he
            conv => whnf
            rw [he]
            refine RetA_view 2 (ds := [spansD (acc ++ [⟨a, k⟩])]) (viewL_cons (viewV_sl' (es' := (acc ++ [Span.mk a k]).map Span.cells) rfl ?_ ?_) rfl) ⟨⟨rfl, rfl⟩, rfl⟩
            · show ((((acc.map Span.cells).drop 0).take acc.length) ++ [Span.cells ⟨a, k⟩]) = _
              rw [List.drop_zero, List.take_of_length_le (by simp)]; simp
            · show ((((acc.map Span.cells).drop 0).take acc.length).length + 1) = _
              rw [List.drop_zero, List.take_of_length_le (by simp)]; simp
          · have h4 : ¬ (acc.length : Int) + 1 = n := by simpa [Els.len, Els.part, Els.cons, V.cells] using h4
            rw [if_neg h4] at he
            conv => whnf
            refine arith_in (wrap_i64 (by (try dsimp only); omega)) ?_
            conv => whnf
            obtain ⟨d1, d2⟩ := done 0 (acc ++ [⟨a, k⟩]) (by omega) (by simp; omega) he
            refine ⟨(k + 1, 0, acc ++ [⟨a, k⟩]), d1, d2, Wk.sub ⟨rfl, rfl, ?_, rfl, rfl, rfl, rfl, trivial⟩ ⟨?_, trivial⟩⟩
            · show some (V.sl 56 2 0 ((((acc.map Span.cells).drop 0).take acc.length).length + 1)) = _
              rw [List.drop_zero, List.take_of_length_le (by simp)]; simp
            · show some (Obj.arr 2 (.dd ((((acc.map Span.cells).drop 0).take acc.length) ++ [Span.cells ⟨a, k⟩]))) = _
              rw [List.drop_zero, List.take_of_length_le (by simp)]; simp
        · have h3 : ¬ a > 0 := by simpa using h3
          simp only [h3, decide_false, Bool.false_eq_true, if_false] at he
          conv => whnf
          refine arith_in (wrap_i64 (by (try dsimp only); omega)) ?_
          conv => whnf
          obtain ⟨d1, d2⟩ := done a acc (by omega) (by omega) he
          exact ⟨(k + 1, a, acc), d1, d2, (Wk.sub ⟨(by first | rfl | (simp only [List.length_map]; rfl) | simp [PX.get]), (by first | rfl | (simp only [List.length_map]; rfl) | simp [PX.get]), (by first | rfl | (simp only [List.length_map]; rfl) | simp [PX.get]), (by first | rfl | (simp only [List.length_map]; rfl) | simp [PX.get]), (by first | rfl | (simp only [List.length_map]; rfl) | simp [PX.get]), (by first | rfl | (simp only [List.length_map]; rfl) | simp [PX.get]), (by first | rfl | (simp only [List.length_map]; rfl) | simp [PX.get]), trivial⟩ ⟨(by first | rfl | (simp only [List.length_map]; rfl) | simp [PX.get]), trivial⟩)⟩
    · have h1 : ¬ k < lk := by simpa using h1
      have hok : holdsAt c th k = false := by simp [holdsAt, ← hlk', h1]
      simp only [hok, Bool.false_and, Bool.not_false, Bool.true_and, Bool.false_eq_true, if_false] at he
      conv => whnf
      refine brk_i (fun h3 => ?_) (fun h3 => ?_)
      · have h3 : a > 0 := by simpa using h3
        simp only [h3, decide_true, if_true] at he
        conv => whnf
        refine ownK_whole rfl ?_
        conv => whnf
        refine ownK.mk (by simp [Els.len]) ?_
        conv => whnf
        refine chk_i (by simp [Els.len, Els.part, Els.cons, V.cells]; omega) ?_
        conv => whnf
        refine brk_i (fun h4 => ?_) (fun h4 => ?_)
        · have h4 : (acc.length : Int) + 1 = n := by simpa [Els.len, Els.part, Els.cons, V.cells] using h4
          rw [if_pos h4] at he
          conv => whnf
          rw [he]
          refine RetA_view 2 (ds := [spansD (acc ++ [⟨a, k⟩])]) (viewL_cons (viewV_sl' (es' := (acc ++ [Span.mk a k]).map Span.cells) rfl ?_ ?_) rfl) ⟨⟨rfl, rfl⟩, rfl⟩
          · show ((((acc.map Span.cells).drop 0).take acc.length) ++ [Span.cells ⟨a, k⟩]) = _
            rw [List.drop_zero, List.take_of_length_le (by simp)]; simp
          · show ((((acc.map Span.cells).drop 0).take acc.length).length + 1) = _
            rw [List.drop_zero, List.take_of_length_le (by simp)]; simp
        · have h4 : ¬ (acc.length : Int) + 1 = n := by simpa [Els.len, Els.part, Els.cons, V.cells] using h4
          rw [if_neg h4] at he
          conv => whnf
          refine arith_in (wrap_i64 (by (try dsimp only); omega)) ?_
          conv => whnf
          obtain ⟨d1, d2⟩ := done 0 (acc ++ [⟨a, k⟩]) (by omega) (by simp; omega) he
          refine ⟨(k + 1, 0, acc ++ [⟨a, k⟩]), d1, d2, Wk.sub ⟨rfl, rfl, ?_, rfl, rfl, rfl, rfl, trivial⟩ ⟨?_, trivial⟩⟩
          · show some (V.sl 56 2 0 ((((acc.map Span.cells).drop 0).take acc.length).length + 1)) = _
            rw [List.drop_zero, List.take_of_length_le (by simp)]; simp
          · show some (Obj.arr 2 (.dd ((((acc.map Span.cells).drop 0).take acc.length) ++ [Span.cells ⟨a, k⟩]))) = _
            rw [List.drop_zero, List.take_of_length_le (by simp)]; simp
      · have h3 : ¬ a > 0 := by simpa using h3
        simp only [h3, decide_false, Bool.false_eq_true, if_false] at he
        conv => whnf
        refine arith_in (wrap_i64 (by (try dsimp only); omega)) ?_
        conv => whnf
        obtain ⟨d1, d2⟩ := done a acc (by omega) (by omega) he
        exact ⟨(k + 1, a, acc), d1, d2, (Wk.sub ⟨(by first | rfl | (simp only [List.length_map]; rfl) | simp [PX.get]), (by first | rfl | (simp only [List.length_map]; rfl) | simp [PX.get]), (by first | rfl | (simp only [List.length_map]; rfl) | simp [PX.get]), (by first | rfl | (simp only [List.length_map]; rfl) | simp [PX.get]), (by first | rfl | (simp only [List.length_map]; rfl) | simp [PX.get]), (by first | rfl | (simp only [List.length_map]; rfl) | simp [PX.get]), (by first | rfl | (simp only [List.length_map]; rfl) | simp [PX.get]), trivial⟩ ⟨(by first | rfl | (simp only [List.length_map]; rfl) | simp [PX.get]), trivial⟩)⟩
  · have hb : ¬ k < lk + 1 := by simpa using hb
    have hm : (lk + 1 - k).toNat = 0 := by omega
    rw [hm, runL] at he
    conv => whnf
    rw [he]
    exact RetA_view 2 (ds := [spansD acc]) (viewL_cons (viewV_sl rfl (by simp)) rfl) ⟨⟨rfl, rfl⟩, rfl⟩
end Go.PX

namespace Go.PX
open Go.Proofs

def shortE (c : Case) : Int × Int :=
  if lookE c (checkC c).2.2 = 0 then (match scopesF c (thickL c) 1 with
    | [] => (0, 9)
    | s :: _ => (s.lo, 0)) else (0, lookE c (checkC c).2.2)

theorem fn40 (c : Case) : FnV Try.prog 40 [c.d] (.tup [i64 (shortE c).1, i64 (shortE c).2]) := by
  refine fnV_of mixed tysOk Try.func40 rfl (ft := ft40) 1 (by decide +kernel) (by rfl) fun {σ} Y st => ?_
  conv => whnf
  refine CallA_v (fn13 c) rfl rfl ?_
  conv => whnf
  refine CallA_v (fn66' c (checkC c).2.2 (fun h => case_ok h)) rfl rfl ?_
  conv => whnf
  unfold lookD
  by_cases h1 : lookE c (checkC c).2.2 = 0
  · obtain ⟨h0, hs⟩ := lookE_zero h1
    have hR := case_ok h0
    rw [if_pos h1, h1]
    conv => whnf
    refine CallA_v (ds := [mD c (thickL c) (freshM c.chain.shots 0), i64 1]) (fn78 c (thickL c) (freshM c.chain.shots 0) 1 (moor_ok hR)) rfl rfl ?_
    cases hl : scopesF c (thickL c) 1 with
    | nil =>
      have hE : shortE c = (0, 9) := by simp [shortE, h1, hl]
      rw [hE]
      conv => whnf
      exact RetA_view 0 rfl ⟨⟨rfl, rfl⟩, rfl⟩
    | cons s r =>
      have hE : shortE c = (s.lo, 0) := by simp [shortE, h1, hl]
      rw [hE]
      conv => whnf
      exact RetA_view 0 rfl ⟨⟨rfl, rfl⟩, rfl⟩
  · have hE : shortE c = (0, lookE c (checkC c).2.2) := by simp [shortE, h1]
    rw [hE, if_neg h1]
    conv => whnf
    refine brk_i (fun _ => ?_) (fun h => absurd h (by simpa using h1))
    conv => whnf
    exact RetA_view 0 rfl ⟨⟨rfl, rfl⟩, rfl⟩

def scopesE (c : Case) : List Span × Int :=
  if lookE c (checkC c).2.2 = 0 then (match scopesF c (thickL c) (linksF c.chain.shots) with
    | [] => ([], 9)
    | s :: r => (s :: r, 0)) else ([], lookE c (checkC c).2.2)

theorem fn41 (c : Case) : FnV Try.prog 41 [c.d] (.tup [spansD (scopesE c).1, i64 (scopesE c).2]) := by
  refine fnV_of mixed tysOk Try.func41 rfl (ft := ft41) 1 (by decide +kernel) (by rfl) fun {σ} Y st => ?_
  conv => whnf
  refine CallA_v (fn13 c) rfl rfl ?_
  conv => whnf
  refine CallA_v (fn66' c (checkC c).2.2 (fun h => case_ok h)) rfl rfl ?_
  conv => whnf
  unfold lookD
  by_cases h1 : lookE c (checkC c).2.2 = 0
  · obtain ⟨h0, hs⟩ := lookE_zero h1
    have hR := case_ok h0
    rw [if_pos h1, h1]
    conv => whnf
    refine CallA_v (fn84 c.chain (by have := hR.lens; omega) (links_bd hR)) rfl rfl ?_
    conv => whnf
    refine CallA_v (ds := [mD c (thickL c) (freshM c.chain.shots 0), i64 (linksF c.chain.shots)]) (fn78 c (thickL c) (freshM c.chain.shots 0) (linksF c.chain.shots) (moor_ok hR)) rfl rfl ?_
    cases hl : scopesF c (thickL c) (linksF c.chain.shots) with
    | nil =>
      have hE : scopesE c = ([], 9) := by simp [scopesE, h1, hl]
      rw [hE]
      conv => whnf
      refine RetA_nil0 ?_
      exact RetA_view 0 rfl ⟨⟨rfl, rfl⟩, rfl⟩
    | cons s r =>
      have hE : scopesE c = (s :: r, 0) := by simp [scopesE, h1, hl]
      rw [hE]
      conv => whnf
      exact RetA_view 0 rfl ⟨⟨rfl, rfl⟩, rfl⟩
  · have hE : scopesE c = ([], lookE c (checkC c).2.2) := by simp [scopesE, h1]
    rw [hE, if_neg h1]
    conv => whnf
    refine brk_i (fun _ => ?_) (fun h => absurd h (by simpa using h1))
    conv => whnf
    refine RetA_nil0 ?_
    exact RetA_view 0 rfl ⟨⟨rfl, rfl⟩, rfl⟩
end Go.PX

namespace Go.PX
open Go.Proofs

/-- What a search does, from a place, with so many numbers to come. -/
def Fill103 (g : FuncId) (caps : List D) (wf : List Int → Bool × Bool) (many left : Nat) : Prop :=
  ∀ (start : Nat) (p : List Int) (x : Bool) (b : Bool), left ≤ many → start ≤ many + 1 → p.length + left ≤ many → (∀ i ∈ p, 0 ≤ i ∧ i < many) → ∀ {σ : Type} (Y : Hd σ) (s : σ),
      FnC Try.prog Y 103 (fillArgs start left) (fillH 103 g caps many 1000006 p.length p (.bool x) (.bool b)) s fun v h' s' => s' = s ∧ ∃ (q : List Int) (y : Bool) (b' : Bool), h' = fillH 103 g caps many 2000000 q.length q (.bool y) (.bool b') ∧
        (match fillF wf many left p start with
        | some (q', y') => v = .d (.bool true) ∧ q = q' ∧ y = y' ∧ b' = true
        | none => v = .d (.bool false) ∧ q = p)

/-- What is searched for. -/
def Want103 (g : FuncId) (caps : List D) (wf : List Int → Bool × Bool) (many : Nat) : Prop :=
  ∀ q : List Int, (∀ i ∈ q, 0 ≤ i ∧ i < many) → q.length ≤ many → FnV Try.prog g (intsD q :: caps) (.tup [.bool (wf q).1, .bool (wf q).2])

theorem fill103_zero {g : FuncId} {caps : List D} {wf : List Int → Bool × Bool} {many : Nat} (hm : many ≤ 1000) (hw : Want103 g caps wf many) : Fill103 g caps wf many 0 := by
  intro start p x b hl hf hp hin σ Y s
  refine fnC_of mixed tysOk Try.func103 rfl (ft := ft103) (args := fillArgs start 0) (show fnB ft103 Try.f103 8 = true from by decide +kernel) ?_
  conv => whnf
  have hcl : (intsC p).length = p.length := by simp [intsC]
  refine CallA_view (ds := intsD p :: caps) (hw p hin (by omega)) rfl 1 (viewL_cons (viewV_sl rfl (by simp [intsC])) (viewL_inj caps)) ?_
  conv => whnf
  refine RetA_hand [1000006] [.d (.bool (wf p).2)] (fillH 103 g caps many 2000000 p.length p (.bool (wf p).1) (.bool (wf p).2)) rfl ⟨rfl, rfl, rfl, rfl, rfl, rfl, rfl, trivial⟩ rfl ?_
  refine ⟨rfl, p, (wf p).1, (wf p).2, rfl, ?_⟩
  simp only [fillF]
  cases hb : (wf p).2 <;> simp [packVv]

theorem fill103_succ {g : FuncId} {caps : List D} {wf : List Int → Bool × Bool} {many left : Nat} (hm : many ≤ 1000) (ihl : Fill103 g caps wf many left) : Fill103 g caps wf many (left + 1) := by
  intro start p x b hl hf hp hin σ Y s
  refine fnC_of mixed tysOk Try.func103 rfl (ft := ft103) (args := fillArgs start (left + 1)) (show fnB ft103 Try.f103 8 = true from by decide +kernel) ?_
  conv => whnf
  refine LoopA_p (T := tys) tysOk (by exact drawsB_spec mixed tysOk (by decide +kernel)) (α := Nat × Bool × Bool)
    (fun x => ⟨[(1, .d (i64 (left + 1 : Nat))), (2, .ptr 1000000 0), (3, .ptr 1000001 0), (4, .ptr 1000002 0), (5, .ptr 1000003 0), (6, .ptr 1000004 0), (7, .ptr 1000005 0), (11, .d (i64 x.1))], fillH 103 g caps many 900000 p.length p (.bool x.2.1) (.bool x.2.2), s⟩)
    (fun x => x.1 ≤ many + 1 ∧ fillF wf many (left + 1) p start = (List.range' x.1 (many - left - x.1)).findSome? fun (i : Nat) => fillF wf many left (p ++ [(i : Int)]) (i + 1)) (fun x => many + 1 - x.1) (start, x, b)
    ((Wk.move 1000006 900000 rfl rfl).trans (Wk.sub ⟨rfl, rfl, rfl, rfl, rfl, rfl, rfl, rfl, trivial⟩ ⟨rfl, rfl, rfl, rfl, rfl, rfl, rfl, trivial⟩)) ⟨hf, rfl⟩ ?_
  clear hf x b
  rintro ⟨i, x, b⟩ ⟨hi, he⟩
  simp only at hi he
  conv => whnf
  refine arith_in (wrap_i64 (by (try dsimp only); omega)) ?_
  conv => whnf
  refine brk_i (fun h1 => ?_) (fun h1 => ?_)
  · have h1 : i ≤ many - (left + 1) := by have := of_decide_eq_true h1; omega
    obtain ⟨m, hm1⟩ : ∃ m, many - left - i = m + 1 := ⟨many - left - i - 1, by omega⟩
    rw [hm1, List.range'_succ, List.findSome?_cons] at he
    have hpl : (intsC p).length = p.length := by simp [intsC]
    conv => whnf
    refine ownK_whole rfl ?_
    conv => whnf
    refine ownK.mk (by simp [Els.len, hpl]) ?_
    conv => whnf
    refine chk_i (by simp [Els.len, Els.part, Els.cons, V.cells, hpl]; omega) ?_
    conv => whnf
    refine arith_to (((i + 1 : Nat) : Int)) (by (try dsimp only); omega) (wrap_i64 (by (try dsimp only); omega)) ?_
    conv => whnf
    refine arith_to ((left : Int)) (by (try dsimp only); omega) (wrap_i64 (by (try dsimp only); omega)) ?_
    conv => whnf
    have hin' : ∀ j ∈ p ++ [(i : Int)], 0 ≤ j ∧ j < many := by
      intro j hj
      rcases List.mem_append.1 hj with hj | hj
      · exact hin j hj
      · rw [List.mem_singleton] at hj; subst hj; omega
    have ih := ihl (i + 1) (p ++ [(i : Int)]) x b (by omega) (by omega) (by simp; omega) hin' Y s
    refine CallA_y ih [1000000, 1000001, 1000002, 1000003, 1000004, 1000005, 32] rfl ⟨_, _, rfl, rfl, _, _, rfl, (by
        show some (Obj.box (Cells.vv [V.sl 32 1 0 ((((intsC p).drop 0).take p.length).length + 1)])) = some (Obj.box (Cells.vv [V.sl 32 1 0 (p ++ [(i : Int)]).length]))
        simp [intsC]), _, _, rfl, rfl, _, _, rfl, rfl, _, _, rfl, rfl, _, _, rfl, rfl, _, _, rfl, (by
        show some (Obj.arr 1 (Els.dd ((((intsC p).drop 0).take p.length) ++ [[i64 (i : Int)]]))) = some (Obj.arr 1 (Els.dd (intsC (p ++ [(i : Int)]))))
        simp [intsC, List.take_of_length_le]), rfl⟩ rfl rfl ?_
    rintro v h1 s' ⟨rfl, q, y, b', rfl, hpost⟩
    cases hF : fillF wf many left (p ++ [(i : Int)]) (i + 1) with
    | some r =>
      obtain ⟨q', y'⟩ := r
      rw [hF] at hpost he
      obtain ⟨rfl, rfl, rfl, rfl⟩ := hpost
      refine ⟨rfl, ?_⟩
      conv => whnf
      refine RetA_hand [102432] [.d (.bool true)] (fillH 103 g caps many 2000000 q.length q (.bool y) (.bool true)) rfl ⟨rfl, box_same rfl ⟨⟨rfl, rfl, rfl, rfl⟩, trivial⟩, rfl, rfl, rfl, box_same rfl ⟨⟨rfl, ⟨rfl, rfl⟩, ⟨rfl, rfl⟩, ⟨rfl, rfl⟩, ⟨rfl, rfl⟩, ⟨rfl, rfl⟩, ⟨rfl, rfl⟩, trivial⟩, trivial⟩, rfl, trivial⟩ rfl ?_
      refine ⟨rfl, q, y, true, rfl, ?_⟩
      rw [he]
      exact ⟨rfl, rfl, rfl, rfl⟩
    | none =>
      rw [hF] at hpost he
      obtain ⟨rfl, rfl⟩ := hpost
      refine ⟨rfl, ?_⟩
      conv => whnf
      refine arith_to (p.length : Int) (by simp) (wrap_i64 (by omega)) ?_
      conv => whnf
      refine chk_i (by simp; omega) ?_
      conv => whnf
      refine arith_to (((i + 1 : Nat) : Int)) (by (try dsimp only); omega) (wrap_i64 (by (try dsimp only); omega)) ?_
      conv => whnf
      have hm2 : many - left - (i + 1) = m := by omega
      refine ⟨(i + 1, y, b'), by simp only; omega, ⟨by simp only; omega, by simp only; rw [hm2]; exact he⟩, (Wk.move 102432 900000 rfl rfl).trans ((Wk.shrink 900000 p.length rfl).trans ?_)⟩
      have hsh : (intsC (p ++ [(i : Int)])).take p.length = intsC p := by simp [intsC, List.take_left']
      refine Wk.sub ⟨rfl, rfl, rfl, rfl, rfl, rfl, rfl, rfl, trivial⟩ ⟨rfl, ?_, rfl, rfl, rfl, rfl, ?_, trivial⟩
      · rfl
      · show some (Obj.arr 1 (Els.dd ((intsC (p ++ [(i : Int)])).take p.length))) = _
        rw [hsh]
  · have h1 : ¬ (i : Int) ≤ (many : Int) - ((left + 1 : Nat) : Int) := of_decide_eq_false h1
    rw [show many - left - i = 0 by omega] at he
    conv => whnf
    refine RetA_hand [900000] [.d (.bool false)] (fillH 103 g caps many 2000000 p.length p (.bool x) (.bool b)) rfl ⟨rfl, rfl, rfl, rfl, rfl, rfl, rfl, trivial⟩ rfl ?_
    refine ⟨rfl, p, x, b, rfl, ?_⟩
    rw [he]
    exact ⟨rfl, rfl⟩

theorem fill103 {g : FuncId} {caps : List D} {wf : List Int → Bool × Bool} {many : Nat} (hm : many ≤ 1000) (hw : Want103 g caps wf many) (left : Nat) : Fill103 g caps wf many left := by
  induction left with
  | zero => exact fill103_zero hm hw
  | succ n ih => exact fill103_succ hm ih
theorem fn75 (g : FuncId) (caps : List D) (wf : List Int → Bool × Bool) (many : Nat) (hm : many ≤ 1000) (hw : Want103 g caps wf many) {σ : Type} (Y : Hd σ) (s : σ) :
    FnC Try.prog Y 75 [.d (i64 many), .d (.clo g caps)] [] s fun v h' s' => s' = s ∧ h' = [] ∧ (match chooseF wf many with
      | some (q, y) => v = .d (.tup [intsD q, .bool y, .bool true])
      | none => ∃ y, v = .d (.tup [intsD [], .bool y, .bool false])) := by
  refine fnC_of mixed tysOk Try.func75 rfl (ft := ft75) (args := [.d (i64 many), .d (.clo g caps)]) (show fnB ft75 Try.f75 2 = true from by decide +kernel) ?_
  conv => whnf
  refine arith_in (wrap_i64 (by (try dsimp only); omega)) ?_
  conv => whnf
  refine LoopA_p (T := tys) tysOk (by exact drawsB_spec mixed tysOk (by decide +kernel)) (α := Nat × Bool × Bool)
    (fun x => ⟨[(2, .ptr 2 0), (3, .ptr 3 0), (4, .ptr 4 0), (5, .ptr 5 0), (6, .ptr 6 0), (7, .ptr 7 0), (11, .d (i64 (many + 1 : Nat))), (12, .d (i64 x.1))],
      [(2, .box (.dd [i64 many])), (3, .box (.dd [.clo g caps])), (4, .box (.vv [.sl 900000 1 0 0])), (5, .box (.dd [.bool x.2.1])), (6, .box (.dd [.bool x.2.2])), (7, .box (.vv [.clo 103 [.ptr 3 0, .ptr 4 0, .ptr 5 0, .ptr 6 0, .ptr 2 0, .ptr 7 0]])), (900000, .arr 1 (.dd []))], s⟩)
    (fun x => x.1 ≤ many + 1 ∧ chooseF wf many = (List.range' x.1 (many + 1 - x.1)).findSome? fun (n : Nat) => fillF wf many n [] 0) (fun x => many + 1 - x.1) (0, false, false)
    ((Wk.bornBox 4 900000 1 rfl rfl rfl rfl).trans (Wk.sub ⟨rfl, rfl, rfl, rfl, rfl, rfl, rfl, rfl, trivial⟩ ⟨rfl, rfl, rfl, rfl, rfl, rfl, rfl, trivial⟩)) ⟨by simp, rfl⟩ ?_
  rintro ⟨n, x, b⟩ ⟨hn, he⟩
  simp only at hn he
  conv => whnf
  refine brk_i (fun h1 => ?_) (fun h1 => ?_)
  · have h1 : n < many + 1 := by have := of_decide_eq_true h1; omega
    obtain ⟨m, hm1⟩ : ∃ m, many + 1 - n = m + 1 := ⟨many - n, by omega⟩
    have hm2 : many + 1 - (n + 1) = m := by omega
    rw [hm1, List.range'_succ, List.findSome?_cons] at he
    conv => whnf
    refine CallA_w (fill103 hm hw n 0 [] x b (by omega) (by omega) (by simp; omega) (by simp) Y s) [3, 4, 5, 6, 2, 7, 900000] rfl ⟨_, _, rfl, rfl, _, _, rfl, rfl, _, _, rfl, rfl, _, _, rfl, rfl, _, _, rfl, rfl, _, _, rfl, rfl, _, _, rfl, rfl, rfl⟩ rfl rfl ?_
    rintro v h1 s' ⟨rfl, q, y, b', rfl, hpost⟩
    cases hF : fillF wf many n [] 0 with
    | some r =>
      obtain ⟨q', y'⟩ := r
      rw [hF] at hpost he
      obtain ⟨rfl, rfl, rfl, rfl⟩ := hpost
      refine ⟨rfl, ?_⟩
      conv => whnf
      refine ⟨⟨[(4, .ptr 4 0), (5, .ptr 5 0), (6, .ptr 6 0), (17, .d (.bool true))], [(4, .box (.dd [intsD q])), (5, .box (.dd [.bool y])), (6, .box (.dd [.bool true]))], s'⟩, (Wk.frz 1 [101088]).trans (Wk.sub ⟨rfl, rfl, rfl, rfl, trivial⟩ ⟨?_, rfl, rfl, trivial⟩), ?_⟩
      · exact get_frz (id := 101088) (sz := 1) (n := q.length) rfl (viewV_sl (es := intsC q) rfl (by simp [intsC]))
      conv => whnf
      refine DrawCall_v (fn97 q (by have := fillF_len hF; simp at this; omega)) rfl rfl ?_
      conv => whnf
      refine RetA_view 0 rfl ⟨rfl, rfl, ?_⟩
      rw [he]
      rfl
    | none =>
      rw [hF] at hpost he
      obtain ⟨rfl, rfl⟩ := hpost
      refine ⟨rfl, ?_⟩
      conv => whnf
      refine ⟨⟨[(2, .ptr 2 0), (3, .ptr 3 0), (4, .ptr 4 0), (5, .ptr 5 0), (6, .ptr 6 0), (7, .ptr 7 0), (11, .d (i64 (many + 1 : Nat))), (12, .d (i64 n)), (17, .d (.bool false))],
        [(2, .box (.dd [i64 many])), (3, .box (.dd [.clo g caps])), (4, .box (.vv [.sl 900000 1 0 0])), (5, .box (.dd [.bool y])), (6, .box (.dd [.bool b'])), (7, .box (.vv [.clo 103 [.ptr 3 0, .ptr 4 0, .ptr 5 0, .ptr 6 0, .ptr 2 0, .ptr 7 0]])), (900000, .arr 1 (.dd []))], s'⟩,
        (Wk.move 101088 900000 rfl rfl).trans (Wk.sub ⟨rfl, rfl, rfl, rfl, rfl, rfl, rfl, rfl, rfl, trivial⟩ ⟨rfl, rfl, rfl, rfl, rfl, rfl, rfl, trivial⟩), ?_⟩
      conv => whnf
      refine arith_in (wrap_i64 (by (try dsimp only); omega)) ?_
      conv => whnf
      exact ⟨(n + 1, y, b'), by simp only; omega, ⟨by simp only; omega, by simp only; rw [hm2]; exact he⟩, (Wk.sub ⟨rfl, rfl, rfl, rfl, rfl, rfl, rfl, rfl, trivial⟩ ⟨rfl, rfl, rfl, rfl, rfl, rfl, rfl, trivial⟩)⟩
  · have h1 : ¬ n < many + 1 := by have := of_decide_eq_false h1; omega
    rw [show many + 1 - n = 0 by omega] at he
    conv => whnf
    refine RetA_nil0 ?_
    refine RetA_view 0 rfl ⟨rfl, rfl, ?_⟩
    rw [he]
    exact ⟨x, rfl⟩

end Go.PX

namespace Go.PX
open Go.Proofs

/-- A list is copied to memory of one's own. -/
theorem fn104 (p : List Span) (hp : p.length < 1000000) (h0 : p ≠ []) : FnU Try.prog 104 [.d (spansD p)] [] fun v h' => v = .sl 2000000 2 0 p.length ∧ h' = [(2000000, .arr 2 (.dd (p.map Span.cells)))] := by
  intro σ Y s
  refine fnC_of mixed tysOk Try.func104 rfl (ft := ft104) (args := [.d (spansD p)]) (show fnB ft104 Try.f104 1 = true from by decide +kernel) ?_
  conv => whnf
  refine ⟨fun b hb => ?_⟩
  cases b with
  | true => exact absurd (hb (by cases p with
      | nil => exact absurd rfl h0
      | cons a r => simp)) (by simp)
  | false =>
    conv => whnf
    refine ownK.mk rfl ?_
    conv => whnf
    refine chk_i (by
      show (lenAllD 2 (p.map Span.cells) && true) = true
      rw [lenAllD_map (fun x => ⟨rfl, rfl⟩)]; rfl) ?_
    conv => whnf
    refine chk_i (by simp [Els.len, Els.part]; omega) ?_
    conv => whnf
    refine RetA_hand [7] [.sl 2000000 2 0 p.length] [(2000000, .arr 2 (.dd (p.map Span.cells)))] ?_ ?_ rfl ⟨⟨rfl, rfl⟩, rfl⟩
    · show [V.sl 7 2 0 p.length] = [V.sl 7 2 0 (0 + (p.map Span.cells).length)]
      simp
    · exact ⟨rfl, trivial⟩

/-- A list, half turned about. -/
def Turned {α : Type} (l m : List α) (i : Nat) : Prop := m.length = l.length ∧ ∀ k, k < l.length → m[k]? = if k < i ∨ l.length ≤ k + i then l.reverse[k]? else l[k]?

theorem turned_step {α : Type} {p m : List α} {i j : Nat} {x y : α} (h : Turned p m i) (hj : i + j + 1 = p.length) (hij : i < j) (hx : m[i]? = some x) (hy : m[j]? = some y) : Turned p ((m.set i y).set j x) (i + 1) := by
  obtain ⟨hm, hT⟩ := h
  refine ⟨by simp [hm], fun k hk => ?_⟩
  have h1 := hT i (by omega)
  have h2 := hT j (by omega)
  rw [if_neg (by omega), hx] at h1
  rw [if_neg (by omega), hy] at h2
  by_cases hkj : j = k
  · subst hkj
    rw [List.getElem?_set_self (by simp; omega), if_pos (by omega), List.getElem?_reverse (by omega), show p.length - 1 - j = i by omega, h1]
  · rw [List.getElem?_set_ne hkj]
    by_cases hki : i = k
    · subst hki
      rw [List.getElem?_set_self (by omega), if_pos (by omega), List.getElem?_reverse (by omega), show p.length - 1 - i = j by omega, h2]
    · rw [List.getElem?_set_ne hki, hT k hk]
      by_cases hc : k < i ∨ p.length ≤ k + i
      · rw [if_pos hc, if_pos (by omega)]
      · rw [if_neg hc, if_neg (by omega)]

theorem turned_end {α : Type} {p m : List α} {i : Nat} (h : Turned p m i) (hi : p.length ≤ 2 * i + 1) : m = p.reverse := by
  obtain ⟨hm, hT⟩ := h
  refine List.ext_getElem? fun k => ?_
  by_cases hk : k < p.length
  · rw [hT k hk]
    by_cases hc : k < i ∨ p.length ≤ k + i
    · rw [if_pos hc]
    · rw [if_neg hc, List.getElem?_reverse hk, show p.length - 1 - k = k by omega]
  · rw [List.getElem?_eq_none (by omega), List.getElem?_eq_none (by simp; omega)]

theorem fn106 (p : List Span) (hp : p.length < 1000000) : FnU Try.prog 106 [.sl 1000000 2 0 p.length] [(1000000, .arr 2 (.dd (p.map Span.cells)))] fun v h' => v = .d (.tup []) ∧ h' = [(1000000, .arr 2 (.dd (p.reverse.map Span.cells)))] := by
  intro σ Y s
  refine fnC_of mixed tysOk Try.func106 rfl (ft := ft106) (args := [.sl 1000000 2 0 p.length]) (show fnB ft106 Try.f106 1 = true from by decide +kernel) ?_
  conv => whnf
  refine arith_in (wrap_i64 (by (try dsimp only); omega)) ?_
  conv => whnf
  refine LoopA_p (T := tys) tysOk (by exact drawsB_spec mixed tysOk (by decide +kernel)) (α := Nat × List Span)
    (fun x => ⟨[(0, .sl 1000000 2 0 p.length), (2, .d (i64 x.1)), (3, .d (i64 ((p.length : Int) - 1 - x.1)))], [(1000000, .arr 2 (.dd (x.2.map Span.cells)))], s⟩)
    (fun x => 2 * x.1 ≤ p.length + 1 ∧ Turned p x.2 x.1) (fun x => p.length - x.1) (0, p)
    (Wk.sub ⟨rfl, rfl, by simp [PX.get], trivial⟩ ⟨rfl, trivial⟩) ⟨by simp, rfl, fun k hk => by simp; omega⟩ ?_
  rintro ⟨i, m⟩ ⟨hi, hm, hT⟩
  simp only at hi hm hT
  conv => whnf
  refine brk_i (fun hb => ?_) (fun hb => ?_)
  · have hb : (i : Int) < (p.length : Int) - 1 - i := by simpa using hb
    obtain ⟨j, hj⟩ : ∃ j : Nat, i + j + 1 = p.length := ⟨p.length - 1 - i, by omega⟩
    have hj1 : ((p.length : Int) - 1 - (i : Int)).toNat = j := by omega
    have hmi : m[i]? = some m[i] := List.getElem?_eq_getElem (by omega)
    have hmj : m[j]? = some m[j] := List.getElem?_eq_getElem (by omega)
    generalize m[i] = x at *
    generalize m[j] = y at *
    obtain ⟨hm', hT'⟩ := turned_step ⟨hm, hT⟩ hj (by omega) hmi hmj
    conv => whnf
    refine chk_i (by simp; omega) ?_
    conv => whnf
    refine cellK_i y.cells (by simp [hj1, hmj]) ?_
    conv => whnf
    refine chk_i (by simp; omega) ?_
    conv => whnf
    refine cellK_i x.cells (by simp [hmi]) ?_
    conv => whnf
    refine chk_i (by simp; omega) ?_
    conv => whnf
    refine cellK_i x.cells (by simp [hmi]) ?_
    conv => whnf
    refine chk_i (by simp; omega) ?_
    conv => whnf
    refine cellK_i y.cells (by
      show ((m.map Span.cells).set (0 + (i : Int).toNat) y.cells)[0 + ((p.length : Int) - 1 - (i : Int)).toNat]? = _
      rw [hj1, List.getElem?_set_ne (by simp; omega)]
      simp [hmj]) ?_
    conv => whnf
    refine arith_to (((i + 1 : Nat) : Int)) (by (try dsimp only); omega) (wrap_i64 (by (try dsimp only); omega)) ?_
    conv => whnf
    refine arith_to ((p.length : Int) - 1 - ((i + 1 : Nat) : Int)) (by (try dsimp only); omega) (wrap_i64 (by (try dsimp only); omega)) ?_
    conv => whnf
    refine ⟨(i + 1, (m.set i y).set j x), by simp only; omega, ⟨by simp only; omega, hm', hT'⟩, Wk.sub ⟨rfl, rfl, rfl, trivial⟩ ⟨?_, trivial⟩⟩
    show some (Obj.arr 2 (.dd (((m.map Span.cells).set (0 + (i : Int).toNat) y.cells).set (0 + ((p.length : Int) - 1 - (i : Int)).toNat) x.cells))) = _
    rw [hj1]
    simp [List.map_set]
  · have hb : ¬ (i : Int) < (p.length : Int) - 1 - i := by simpa using hb
    conv => whnf
    rw [turned_end ⟨hm, hT⟩ (by omega)]
    exact RetA_hand [] [] [(1000000, .arr 2 (.dd (p.reverse.map Span.cells)))] rfl ⟨rfl, trivial⟩ rfl ⟨⟨rfl, rfl⟩, rfl⟩
/-- A list is copied to memory of one's own. -/
theorem fn105 (p : List Shot) (hp : p.length < 1000000) (h0 : p ≠ []) : FnU Try.prog 105 [.d (shotsD p)] [] fun v h' => v = .sl 2000000 8 0 p.length ∧ h' = [(2000000, .arr 8 (.dd (p.map Shot.cells)))] := by
  intro σ Y s
  refine fnC_of mixed tysOk Try.func105 rfl (ft := ft105) (args := [.d (shotsD p)]) (show fnB ft105 Try.f105 1 = true from by decide +kernel) ?_
  conv => whnf
  refine ⟨fun b hb => ?_⟩
  cases b with
  | true => exact absurd (hb (by cases p with
      | nil => exact absurd rfl h0
      | cons a r => simp)) (by simp)
  | false =>
    conv => whnf
    refine ownK.mk rfl ?_
    conv => whnf
    refine chk_i (by
      show (lenAllD 8 (p.map Shot.cells) && true) = true
      rw [lenAllD_map (fun x => ⟨rfl, rfl⟩)]; rfl) ?_
    conv => whnf
    refine chk_i (by simp [Els.len, Els.part]; omega) ?_
    conv => whnf
    refine RetA_hand [7] [.sl 2000000 8 0 p.length] [(2000000, .arr 8 (.dd (p.map Shot.cells)))] ?_ ?_ rfl ⟨⟨rfl, rfl⟩, rfl⟩
    · show [V.sl 7 8 0 p.length] = [V.sl 7 8 0 (0 + (p.map Shot.cells).length)]
      simp
    · exact ⟨rfl, trivial⟩

theorem fn107 (p : List Shot) (hp : p.length < 1000000) : FnU Try.prog 107 [.sl 1000000 8 0 p.length] [(1000000, .arr 8 (.dd (p.map Shot.cells)))] fun v h' => v = .d (.tup []) ∧ h' = [(1000000, .arr 8 (.dd (p.reverse.map Shot.cells)))] := by
  intro σ Y s
  refine fnC_of mixed tysOk Try.func107 rfl (ft := ft107) (args := [.sl 1000000 8 0 p.length]) (show fnB ft107 Try.f107 1 = true from by decide +kernel) ?_
  conv => whnf
  refine arith_in (wrap_i64 (by (try dsimp only); omega)) ?_
  conv => whnf
  refine LoopA_p (T := tys) tysOk (by exact drawsB_spec mixed tysOk (by decide +kernel)) (α := Nat × List Shot)
    (fun x => ⟨[(0, .sl 1000000 8 0 p.length), (2, .d (i64 x.1)), (3, .d (i64 ((p.length : Int) - 1 - x.1)))], [(1000000, .arr 8 (.dd (x.2.map Shot.cells)))], s⟩)
    (fun x => 2 * x.1 ≤ p.length + 1 ∧ Turned p x.2 x.1) (fun x => p.length - x.1) (0, p)
    (Wk.sub ⟨rfl, rfl, by simp [PX.get], trivial⟩ ⟨rfl, trivial⟩) ⟨by simp, rfl, fun k hk => by simp; omega⟩ ?_
  rintro ⟨i, m⟩ ⟨hi, hm, hT⟩
  simp only at hi hm hT
  conv => whnf
  refine brk_i (fun hb => ?_) (fun hb => ?_)
  · have hb : (i : Int) < (p.length : Int) - 1 - i := by simpa using hb
    obtain ⟨j, hj⟩ : ∃ j : Nat, i + j + 1 = p.length := ⟨p.length - 1 - i, by omega⟩
    have hj1 : ((p.length : Int) - 1 - (i : Int)).toNat = j := by omega
    have hmi : m[i]? = some m[i] := List.getElem?_eq_getElem (by omega)
    have hmj : m[j]? = some m[j] := List.getElem?_eq_getElem (by omega)
    generalize m[i] = x at *
    generalize m[j] = y at *
    obtain ⟨hm', hT'⟩ := turned_step ⟨hm, hT⟩ hj (by omega) hmi hmj
    conv => whnf
    refine chk_i (by simp; omega) ?_
    conv => whnf
    refine cellK_i y.cells (by simp [hj1, hmj]) ?_
    conv => whnf
    refine chk_i (by simp; omega) ?_
    conv => whnf
    refine cellK_i x.cells (by simp [hmi]) ?_
    conv => whnf
    refine chk_i (by simp; omega) ?_
    conv => whnf
    refine cellK_i x.cells (by simp [hmi]) ?_
    conv => whnf
    refine chk_i (by simp; omega) ?_
    conv => whnf
    refine cellK_i y.cells (by
      show ((m.map Shot.cells).set (0 + (i : Int).toNat) y.cells)[0 + ((p.length : Int) - 1 - (i : Int)).toNat]? = _
      rw [hj1, List.getElem?_set_ne (by simp; omega)]
      simp [hmj]) ?_
    conv => whnf
    refine arith_to (((i + 1 : Nat) : Int)) (by (try dsimp only); omega) (wrap_i64 (by (try dsimp only); omega)) ?_
    conv => whnf
    refine arith_to ((p.length : Int) - 1 - ((i + 1 : Nat) : Int)) (by (try dsimp only); omega) (wrap_i64 (by (try dsimp only); omega)) ?_
    conv => whnf
    refine ⟨(i + 1, (m.set i y).set j x), by simp only; omega, ⟨by simp only; omega, hm', hT'⟩, Wk.sub ⟨rfl, rfl, rfl, trivial⟩ ⟨?_, trivial⟩⟩
    show some (Obj.arr 8 (.dd (((m.map Shot.cells).set (0 + (i : Int).toNat) y.cells).set (0 + ((p.length : Int) - 1 - (i : Int)).toNat) x.cells))) = _
    rw [hj1]
    simp [List.map_set]
  · have hb : ¬ (i : Int) < (p.length : Int) - 1 - i := by simpa using hb
    conv => whnf
    rw [turned_end ⟨hm, hT⟩ (by omega)]
    exact RetA_hand [] [] [(1000000, .arr 8 (.dd (p.reverse.map Shot.cells)))] rfl ⟨rfl, trivial⟩ rfl ⟨⟨rfl, rfl⟩, rfl⟩
end Go.PX

namespace Go.PX
open Go.Proofs

/-- What region 2 of func 77 looks at; the copies are made there. -/
def ft77b : FT := ⟨[0, 1, 2, 6, 7, 9, 29, 30, 31, 32, 46], [(2, ⟨[101088, 101536], [⟨[0], []⟩, ⟨[13], []⟩, ⟨[14], []⟩, ⟨[15], []⟩, ⟨[16], []⟩, ⟨[0], [0, 1, 2, 3, 4]⟩, ⟨[18], [0, 1, 2, 3, 4]⟩, ⟨[19], [0, 1, 2, 3, 4]⟩, ⟨[20], [0, 1, 2, 3, 4]⟩, ⟨[21], [0, 1, 2, 3, 4]⟩, ⟨[22], [0, 1, 2, 3, 4]⟩, ⟨[23], []⟩, ⟨[7], []⟩, ⟨[17, 25], []⟩, ⟨[7], []⟩, ⟨[26], []⟩, ⟨[27], []⟩, ⟨[24, 28], []⟩]⟩), (6, ⟨[], [⟨[7], []⟩, ⟨[35], []⟩, ⟨[9], [0, 1]⟩, ⟨[0], [0, 1, 2]⟩, ⟨[38], [0, 1, 2]⟩, ⟨[39], [0, 1, 2]⟩, ⟨[40], [0, 1, 2]⟩, ⟨[9], [0, 1, 2, 3, 4, 5, 6]⟩, ⟨[41, 42], [0, 1, 2]⟩, ⟨[36, 37], []⟩, ⟨[43, 44], []⟩]⟩)]⟩

def newAt (c : Case) (i : Int) : Span := match c.chain.shots[i.toNat]? with
  | some s => s.new
  | none => ⟨0, 0⟩
def renewT (c : Case) (th : List Span) (w : List Int) : List Span := w.foldl (fun t i => t.set i.toNat (newAt c i)) th
def turnC (c : Case) (rev : Bool) : Case := if rev then { c with chain := { c.chain with shots := c.chain.shots.reverse } } else c
def turnT (th : List Span) (rev : Bool) : List Span := if rev then th.reverse else th

theorem DrawCall_fnU {P : Program} {e : Env} {h : Heap} {d : Option Nat} {f : FuncId} {args : List V} {args0 : List V} {v0 : V} {h1 : Heap} (hf : FnU P f args0 [] fun v h' => v = v0 ∧ h' = h1) (hargs : renL (callR [] (d.getD 0)) args0 = args)
    (hB : callB [] d v0 h1 = true) {K : List Wr → Prop} (hk : K (callWs [] d v0 h1)) : DrawCall P e h d f args K :=
  DrawCall_fn hf [] hargs rfl hB hk

theorem fn77 (c : Case) (th : List Span) (w : List Int) (rev : Bool) (h : MoorOk c th) (hw : ∀ i ∈ w, 0 ≤ i ∧ i < c.chain.shots.length) (hwl : w.length < 1000000) :
    FnV Try.prog 77 [mD c th (freshM c.chain.shots 0), intsD w, .bool rev] (mD (turnC c rev) (turnT (renewT c th w) rev) (freshM c.chain.shots 0)) := by
  refine fnV_of mixed tysOk Try.func77 rfl (ft := ft77b) 3 (by decide +kernel) (by rfl) fun {σ} Y st => ?_
  have hls := h.case.lens
  have hlt := h.len
  conv => whnf
  refine DrawCall_fnU (args0 := [.d (spansD th)]) (fn104 th (by omega) (by intro h0; subst h0; simp at hlt; omega)) rfl rfl ?_
  conv => whnf
  refine DrawCall_fnU (args0 := [.d (shotsD c.chain.shots)]) (fn105 c.chain.shots (by omega) (by intro h0; rw [h0] at hls; simp at hls)) rfl rfl ?_
  conv => whnf
  have hT0 : th.length = c.chain.shots.length := hlt
  refine LoopA_i (T := tys) tysOk (by exact drawsB_spec mixed tysOk (by decide +kernel)) w (fun i (t : List Span) => ⟨[(0, .d (mD c th (freshM c.chain.shots 0))), (2, .d (.bool rev)), (7, .ptr 7 0), (29, .d (intsD w)), (30, .d (i64 w.length)), (31, .d (i64 i))],
      [(7, .box (.vv (.sl 101536 8 0 c.chain.shots.length :: inj c.cells.tail ++ [.sl 101088 2 0 t.length, .d (.mv (freshM c.chain.shots 0))]))), (101088, .arr 2 (.dd (t.map Span.cells))), (101536, .arr 8 (.dd (c.chain.shots.map Shot.cells)))], st⟩)
    (fun i r t => (∀ n ∈ r, 0 ≤ n ∧ n < c.chain.shots.length) ∧ t.length = th.length ∧ renewT c th w = r.foldl (fun t i => t.set i.toNat (newAt c i)) t) th
    (Wk.sub ⟨(by first | rfl | (simp only [List.length_map]; rfl) | simp [PX.get]), (by first | rfl | (simp only [List.length_map]; rfl) | simp [PX.get]), (by first | rfl | (simp only [List.length_map]; rfl) | simp [PX.get]), (by first | rfl | (simp only [List.length_map]; rfl) | simp [PX.get]), (by first | rfl | (simp only [List.length_map]; rfl) | simp [PX.get]), (by first | rfl | (simp only [List.length_map]; rfl) | simp [PX.get]), trivial⟩ ⟨(by first | rfl | (simp only [List.length_map]; rfl) | simp [PX.get]), (by first | rfl | (simp only [List.length_map]; rfl) | simp [PX.get]), (by first | rfl | (simp only [List.length_map]; rfl) | simp [PX.get]), trivial⟩) ⟨hw, rfl, rfl⟩ ?_ ?_
  · intro i x r t hx hi hr ⟨hm, htl, he⟩
    obtain ⟨x0, x1⟩ := hm x (by simp)
    have hxl : x.toNat < c.chain.shots.length := by omega
    have hsx : c.chain.shots[x.toNat]? = some c.chain.shots[x.toNat] := List.getElem?_eq_getElem hxl
    have htx : t[x.toNat]? = some t[x.toNat] := List.getElem?_eq_getElem (by omega)
    have hfr := freshM_some c.chain.shots 0 x.toNat 0 _ hsx
    have hnew : newAt c x = c.chain.shots[x.toNat].new := by simp [newAt, hsx]
    rw [List.foldl_cons, hnew] at he
    rw [show (0 : Int) + (x.toNat : Int) = x by omega] at hfr
    generalize c.chain.shots[x.toNat] = s at *
    generalize t[x.toNat] = u at *
    conv => whnf
    refine brk_i (fun _ => ?_) (fun h => absurd hi (by simpa using h))
    conv => whnf
    refine elemK_nat hx ?_
    conv => whnf
    refine ⟨_, hfr, ?_⟩
    conv => whnf
    refine chk_i (by simp; omega) ?_
    conv => whnf
    refine cellK_i u.cells (by simp [htx]) ?_
    conv => whnf
    refine arith_in (wrap_i64 (by (try dsimp only); omega)) ?_
    conv => whnf
    refine ⟨t.set x.toNat s.new, ⟨fun n hn => hm n (by simp [hn]), by simp [htl], he⟩, Wk.sub ⟨rfl, rfl, rfl, rfl, rfl, rfl, trivial⟩ ⟨?_, ?_, rfl, trivial⟩⟩
    · simp only [List.length_set]; rfl
    · show some (Obj.arr 2 (.dd ((t.map Span.cells).set (0 + x.toNat) s.new.cells))) = _
      rw [List.map_set, Nat.zero_add]
  · intro t ⟨_, htl, he⟩
    have he : renewT c th w = t := he
    rw [he]
    conv => whnf
    refine brk_i (fun h => absurd h (by simp)) (fun _ => ?_)
    conv => whnf
    cases rev with
    | false =>
      conv => whnf
      refine RetA_view 2 (ds := [mD (turnC c false) (turnT t false) (freshM c.chain.shots 0)]) (viewL_cons (viewV_ptr rfl (viewL_cons (viewV_sl' (es' := c.chain.shots.map Shot.cells) rfl rfl (by simp)) (viewL_app (a := c.cells.tail) (viewL_cons (viewV_sl' (es' := t.map Span.cells) rfl rfl (by simp)) rfl)))) rfl) ⟨⟨rfl, rfl⟩, rfl⟩
    | true =>
      conv => whnf
      refine CallA_fn (fn106 t (by omega)) [101088] rfl ⟨_, _, rfl, rfl, rfl⟩ rfl ?_
      conv => whnf
      refine CallA_fn (fn107 c.chain.shots (by omega)) [101536] rfl ⟨_, _, rfl, rfl, rfl⟩ rfl ?_
      conv => whnf
      refine RetA_view 2 (ds := [mD (turnC c true) (turnT t true) (freshM c.chain.shots 0)]) (viewL_cons (viewV_ptr rfl (viewL_cons (viewV_sl' (es' := c.chain.shots.reverse.map Shot.cells) rfl rfl (by simp)) (viewL_app (a := c.cells.tail) (viewL_cons (viewV_sl' (es' := t.reverse.map Span.cells) rfl rfl (by simp)) rfl)))) rfl) ⟨⟨rfl, rfl⟩, rfl⟩
end Go.PX

namespace Go.PX
open Go.Proofs

theorem CaseR.turn {c : Case} (h : CaseR c) (rev : Bool) : CaseR (turnC c rev) := by
  cases rev with
  | false => exact h
  | true => exact ⟨by simpa [turnC] using h.lens, h.rlen, h.long, h.heavy, h.err, h.hold, fun s hs => h.shots s (by simpa [turnC] using hs), h.rows, h.ship, h.day, h.wlen, h.weathers⟩

theorem renewT_ok {c : Case} {th : List Span} (h : MoorOk c th) : ∀ (w : List Int) (t : List Span), t.length = th.length → (∀ s ∈ t, (0 ≤ s.lo ∧ s.lo ≤ 1000000) ∧ (0 ≤ s.hi ∧ s.hi ≤ 1000000)) →
    (w.foldl (fun t i => t.set i.toNat (newAt c i)) t).length = th.length ∧ ∀ s ∈ w.foldl (fun t i => t.set i.toNat (newAt c i)) t, (0 ≤ s.lo ∧ s.lo ≤ 1000000) ∧ (0 ≤ s.hi ∧ s.hi ≤ 1000000)
  | [], t, hl, ht => ⟨hl, ht⟩
  | i :: r, t, hl, ht => by
    rw [List.foldl_cons]
    refine renewT_ok h r _ (by simp [hl]) fun s hs => ?_
    rcases List.mem_or_eq_of_mem_set hs with hs | rfl
    · exact ht s hs
    · unfold newAt
      split
      · rename_i x hx
        have := (h.case.shots x (List.mem_of_getElem? hx)).1.new
        omega
      · exact ⟨by simp, by simp⟩

theorem MoorOk.turn {c : Case} {th : List Span} (h : MoorOk c th) (w : List Int) (rev : Bool) : MoorOk (turnC c rev) (turnT (renewT c th w) rev) := by
  obtain ⟨h1, h2⟩ := renewT_ok h w th rfl h.th
  refine ⟨h.case.turn rev, ?_, fun s hs => h2 s ?_⟩
  · cases rev <;> simp [turnC, turnT, renewT, h1, h.len]
  · cases rev with
    | false => exact hs
    | true => exact List.mem_reverse.1 hs

/-- With these shots renewed: does the chain hold, and must it be turned? -/
def renewW (c : Case) (th : List Span) (q : List Int) : Bool × Bool :=
  if (scopesF (turnC c false) (turnT (renewT c th q) false) 1).length > 0 then (false, true)
  else if (scopesF (turnC c true) (turnT (renewT c th q) true) 1).length > 0 then (true, true) else (false, false)

theorem fn76 (c : Case) (th : List Span) (q : List Int) (h : MoorOk c th) (hw : ∀ i ∈ q, 0 ≤ i ∧ i < c.chain.shots.length) (hwl : q.length < 1000000) :
    FnV Try.prog 76 [intsD q, .ref [mD c th (freshM c.chain.shots 0)]] (.tup [.bool (renewW c th q).1, .bool (renewW c th q).2]) := by
  refine fnV_of mixed tysOk Try.func76 rfl (ft := ft76) 2 (by decide +kernel) (by rfl) fun {σ} Y st => ?_
  conv => whnf
  refine LoopA_p (T := tys) tysOk (by exact drawsB_spec mixed tysOk (by decide +kernel)) (α := Nat)
    (fun x => ⟨[(0, .d (intsD q)), (1, .d (.ref [mD c th (freshM c.chain.shots 0)])), (7, .sl 7 1 0 2), (8, .d (i64 2)), (9, .d (i64 x))], [(7, .arr 1 (.dd [[.bool false], [.bool true]]))], st⟩)
    (fun x => x = 0 ∨ (x = 1 ∧ ¬ (scopesF (turnC c false) (turnT (renewT c th q) false) 1).length > 0) ∨ (x = 2 ∧ renewW c th q = (false, false))) (fun x => 2 - x) 0
    (Wk.sub ⟨(by first | rfl | (simp only [List.length_map]; rfl) | simp [PX.get]), (by first | rfl | (simp only [List.length_map]; rfl) | simp [PX.get]), (by first | rfl | (simp only [List.length_map]; rfl) | simp [PX.get]), (by first | rfl | (simp only [List.length_map]; rfl) | simp [PX.get]), (by first | rfl | (simp only [List.length_map]; rfl) | simp [PX.get]), trivial⟩ ⟨(by first | rfl | (simp only [List.length_map]; rfl) | simp [PX.get]), trivial⟩) (.inl rfl) ?_
  intro n hn
  rcases hn with rfl | ⟨rfl, h1⟩ | ⟨rfl, h1⟩
  · conv => whnf
    refine CallA_v (ds := [mD c th (freshM c.chain.shots 0), intsD q, .bool false]) (fn77 c th q false h hw hwl) rfl rfl ?_
    conv => whnf
    refine CallA_v (ds := [mD (turnC c false) (turnT (renewT c th q) false) (freshM c.chain.shots 0), i64 1]) (fn78 (turnC c false) (turnT (renewT c th q) false) (freshM c.chain.shots 0) 1 (h.turn q false)) rfl rfl ?_
    obtain ⟨l, hl⟩ : ∃ x, x = scopesF (turnC c false) (turnT (renewT c th q) false) 1 := ⟨_, rfl⟩
    rw [← hl]
    conv => whnf
    refine brk_i (fun h2 => ?_) (fun h2 => ?_)
    · have h2 : l.length > 0 := by have := of_decide_eq_true h2; simpa using this
      have hE : renewW c th q = (false, true) := by rw [renewW, ← hl, if_pos h2]
      rw [hE]
      conv => whnf
      exact RetA_view 0 rfl ⟨⟨rfl, rfl⟩, rfl⟩
    · have h2 : ¬ l.length > 0 := by have := of_decide_eq_false h2; simpa using this
      conv => whnf
      refine arith_in (wrap_i64 (by (try dsimp only); omega)) ?_
      conv => whnf
      exact ⟨1, by simp, .inr (.inl ⟨rfl, hl ▸ h2⟩), (Wk.sub ⟨(by first | rfl | (simp only [List.length_map]; rfl) | simp [PX.get]), (by first | rfl | (simp only [List.length_map]; rfl) | simp [PX.get]), (by first | rfl | (simp only [List.length_map]; rfl) | simp [PX.get]), (by first | rfl | (simp only [List.length_map]; rfl) | simp [PX.get]), (by first | rfl | (simp only [List.length_map]; rfl) | simp [PX.get]), trivial⟩ ⟨(by first | rfl | (simp only [List.length_map]; rfl) | simp [PX.get]), trivial⟩)⟩
  · conv => whnf
    refine CallA_v (ds := [mD c th (freshM c.chain.shots 0), intsD q, .bool true]) (fn77 c th q true h hw hwl) rfl rfl ?_
    conv => whnf
    refine CallA_v (ds := [mD (turnC c true) (turnT (renewT c th q) true) (freshM c.chain.shots 0), i64 1]) (fn78 (turnC c true) (turnT (renewT c th q) true) (freshM c.chain.shots 0) 1 (h.turn q true)) rfl rfl ?_
    obtain ⟨l, hl⟩ : ∃ x, x = scopesF (turnC c true) (turnT (renewT c th q) true) 1 := ⟨_, rfl⟩
    rw [← hl]
    conv => whnf
    refine brk_i (fun h2 => ?_) (fun h2 => ?_)
    · have h2 : l.length > 0 := by have := of_decide_eq_true h2; simpa using this
      have hE : renewW c th q = (true, true) := by rw [renewW, ← hl, if_neg h1, if_pos h2]
      rw [hE]
      conv => whnf
      exact RetA_view 0 rfl ⟨⟨rfl, rfl⟩, rfl⟩
    · have h2 : ¬ l.length > 0 := by have := of_decide_eq_false h2; simpa using this
      conv => whnf
      refine arith_in (wrap_i64 (by (try dsimp only); omega)) ?_
      conv => whnf
      exact ⟨2, by simp, .inr (.inr ⟨rfl, by rw [renewW, ← hl, if_neg h1, if_neg h2]⟩), (Wk.sub ⟨(by first | rfl | (simp only [List.length_map]; rfl) | simp [PX.get]), (by first | rfl | (simp only [List.length_map]; rfl) | simp [PX.get]), (by first | rfl | (simp only [List.length_map]; rfl) | simp [PX.get]), (by first | rfl | (simp only [List.length_map]; rfl) | simp [PX.get]), (by first | rfl | (simp only [List.length_map]; rfl) | simp [PX.get]), trivial⟩ ⟨(by first | rfl | (simp only [List.length_map]; rfl) | simp [PX.get]), trivial⟩)⟩
  · conv => whnf
    rw [h1]
    exact RetA_view 0 rfl ⟨⟨rfl, rfl⟩, rfl⟩

def renewE (c : Case) : (List Int × Bool) × Int :=
  if lookE c (checkC c).2.2 = 0 then (match chooseF (renewW c (thickL c)) c.chain.shots.length with
    | some (q, y) => ((q, y), 0)
    | none => (([], false), 9)) else (([], false), lookE c (checkC c).2.2)

theorem fn27 (c : Case) : FnV Try.prog 27 [c.d] (.tup [intsD (renewE c).1.1, .bool (renewE c).1.2, i64 (renewE c).2]) := by
  refine fnV_of mixed tysOk Try.func27 rfl (ft := ft27) 1 (by decide +kernel) (by rfl) fun {σ} Y st => ?_
  conv => whnf
  refine CallA_v (fn13 c) rfl rfl ?_
  conv => whnf
  refine CallA_v (fn66' c (checkC c).2.2 (fun h => case_ok h)) rfl rfl ?_
  conv => whnf
  unfold lookD
  by_cases h1 : lookE c (checkC c).2.2 = 0
  · obtain ⟨h0, hs⟩ := lookE_zero h1
    have hR := case_ok h0
    have hM := moor_ok hR
    have hlen := hR.lens
    rw [if_pos h1, h1]
    conv => whnf
    have hwant : Want103 76 [.ref [mD c (thickL c) (freshM c.chain.shots 0)]] (renewW c (thickL c)) c.chain.shots.length := fun q hq hql => fn76 c (thickL c) q hM hq (by omega)
    refine CallA_frz 1 [5] ?_
    refine CallA_sub (e' := [(2, .d .nils), (3, .d (.bool false)), (4, .d (i64 0))]) (h' := []) (args' := [.d (i64 c.chain.shots.length), .d (.clo 76 [.ref [mD c (thickL c) (freshM c.chain.shots 0)]])]) ⟨rfl, rfl, rfl, trivial⟩ trivial (by simp only [List.length_map]; rfl) ?_
    refine CallA_y (fn75 76 [.ref [mD c (thickL c) (freshM c.chain.shots 0)]] (renewW c (thickL c)) c.chain.shots.length (by omega) hwant Y st) [] rfl rfl rfl rfl ?_
    rintro v h1' s' ⟨rfl, rfl, hv⟩
    cases hF : chooseF (renewW c (thickL c)) c.chain.shots.length with
    | some r =>
      obtain ⟨q, y⟩ := r
      rw [hF] at hv
      simp only at hv
      subst hv
      have hE : renewE c = ((q, y), 0) := by simp [renewE, h1, hF]
      rw [hE]
      refine ⟨rfl, ?_⟩
      conv => whnf
      exact RetA_view 0 rfl ⟨⟨rfl, rfl⟩, rfl⟩
    | none =>
      rw [hF] at hv
      obtain ⟨y, rfl⟩ := hv
      have hE : renewE c = (([], false), 9) := by simp [renewE, h1, hF]
      rw [hE]
      refine ⟨rfl, ?_⟩
      conv => whnf
      refine RetA_nil0 ?_
      exact RetA_view 0 rfl ⟨⟨rfl, rfl⟩, rfl⟩
  · have hE : renewE c = (([], false), lookE c (checkC c).2.2) := by simp [renewE, h1]
    rw [hE, if_neg h1]
    conv => whnf
    refine brk_i (fun _ => ?_) (fun h => absurd h (by simpa using h1))
    conv => whnf
    refine RetA_nil0 ?_
    exact RetA_view 0 rfl ⟨⟨rfl, rfl⟩, rfl⟩
end Go.PX

namespace Go.PX
open Go.Proofs

mutual
/-- Data with empty lists for nil slices. -/
def relax : D → D
  | .agg cs => .agg (relaxL cs)
  | .tup cs => .tup (relaxL cs)
  | .vs es => .vs (relaxE es)
  | .nils => .vs []
  | .ref cs => .ref (relaxL cs)
  | .bool b => .bool b
  | .int k n => .int k n
  | .str s => .str s
  | .nilp => .nilp
  | .mv kvs => .mv kvs
  | .nilm => .nilm
  | .clo f caps => .clo f caps
  | .mth f first => .mth f first
  | .nilf => .nilf
  | .ifc t v => .ifc t v
  | .nili => .nili
def relaxL : List D → List D
  | [] => []
  | c :: r => relax c :: relaxL r
def relaxE : List (List D) → List (List D)
  | [] => []
  | c :: r => relaxL c :: relaxE r
end

theorem relaxL_length : ∀ l : List D, (relaxL l).length = l.length
  | [] => rfl
  | c :: r => by simp only [relaxL, List.length_cons, relaxL_length r]
theorem relaxE_length : ∀ l : List (List D), (relaxE l).length = l.length
  | [] => rfl
  | c :: r => by simp only [relaxE, List.length_cons, relaxE_length r]

mutual
theorem RepD.relax {F : Nat → Nat} {w : World} : ∀ (a : D) (v : Value), RepD F w a v → RepD F w (relax a) v
  | .agg cs, _, hr => by
    obtain ⟨l, rfl, hl⟩ := hr
    exact ⟨l, rfl, RepDL.relax cs _ hl⟩
  | .tup cs, _, hr => by
    obtain ⟨l, rfl, hl⟩ := hr
    exact ⟨l, rfl, RepDL.relax cs _ hl⟩
  | .vs es, _, hr => by
    obtain ⟨a, len, cap, rfl, hl, hc, he⟩ := hr
    refine ⟨a, len, cap, rfl, by rw [relaxE_length]; exact hl, hc, fun hne => ?_⟩
    obtain ⟨b, off, sz, ha, hs, hes⟩ := he (by rintro rfl; exact hne rfl)
    exact ⟨b, off, sz, ha, hs, RepEs.relax es b off sz hes⟩
  | .nils, _, hr => by
    have hx : _ = Value.slice none 0 0 := hr
    subst hx
    exact ⟨none, 0, 0, rfl, rfl, Nat.le_refl _, fun h => absurd rfl h⟩
  | .ref cs, _, hr => by
    obtain ⟨b, off, rfl, hc⟩ := hr
    exact ⟨b, off, rfl, RepAt.relax cs b off hc⟩
  | .bool _, _, hr => hr
  | .int _ _, _, hr => hr
  | .str _, _, hr => hr
  | .nilp, _, hr => hr
  | .mv _, _, hr => hr
  | .nilm, _, hr => hr
  | .clo _ _, _, hr => hr
  | .mth _ _, _, hr => hr
  | .nilf, _, hr => hr
  | .ifc _ _, _, hr => hr
  | .nili, _, hr => hr
theorem RepDL.relax {F : Nat → Nat} {w : World} : ∀ (cs : List D) (l : List Value), RepDL F w cs l → RepDL F w (relaxL cs) l
  | [], _, hr => hr
  | c :: r, _, hr => by
    obtain ⟨x, l', rfl, hc, hl⟩ := hr
    exact ⟨x, l', rfl, RepD.relax c x hc, RepDL.relax r l' hl⟩
theorem RepAt.relax {F : Nat → Nat} {w : World} : ∀ (cs : List D) (b off : Nat), RepAt F w b off cs → RepAt F w b off (relaxL cs)
  | [], _, _, _ => trivial
  | c :: r, b, off, hr => by
    obtain ⟨hf, ⟨x, hx, hc⟩, hl⟩ := hr
    exact ⟨hf, ⟨x, hx, RepD.relax c x hc⟩, RepAt.relax r b (off + 1) hl⟩
theorem RepEs.relax {F : Nat → Nat} {w : World} : ∀ (es : List (List D)) (b off sz : Nat), RepEs F w b off sz es → RepEs F w b off sz (relaxE es)
  | [], _, _, _, _ => trivial
  | e :: r, b, off, sz, hr => by
    obtain ⟨hn, he, hl⟩ := hr
    exact ⟨by rw [relaxL_length]; exact hn, RepAt.relax e b off he, RepEs.relax r b (off + sz) sz hl⟩
end

theorem FnV.relax {P : Program} {f : FuncId} {ds : List D} {r : D} (h : FnV P f ds r) {r' : D} (hr : PX.relax r = r') : FnV P f ds r' := by
  subst hr
  intro σ Y s
  obtain ⟨h1, h2⟩ := h Y s
  refine ⟨h1, fun cx hY L F vals w hh hv => (h2 cx hY L F vals w hh hv).mono ?_⟩
  rintro e w' ⟨x, rfl, v, h', s', L', F', ⟨⟨rfl, rfl⟩, rfl⟩, hh', hx, tr, hp⟩
  exact ⟨x, rfl, _, _, _, L', F', ⟨⟨rfl, rfl⟩, rfl⟩, hh', RepD.relax r x hx, tr, hp⟩

def lowS (b : Bool) : Shot := ⟨⟨#[108, 111, 119]⟩, 10, 0, ⟨20000, 21000⟩, ⟨2, 4⟩, ⟨100, 20200⟩ :: (if b then [⟨200, 18000⟩] else [])⟩
def highS : Shot := ⟨⟨#[104, 105, 103, 104]⟩, 10, 0, ⟨18000, 18000⟩, ⟨5, 5⟩, []⟩
def awakeC (b : Bool) : Case := ⟨⟨[lowS b, highS], 10, 20, 100, ⟨9000, 12000⟩, [⟨30, 500⟩, ⟨60, 1000⟩]⟩, ⟨200, 300, 10, 5⟩, 1000, [⟨⟨20, 30⟩, ⟨20, 40⟩, ⟨0, 20⟩, ⟨0, 5⟩⟩, ⟨⟨20, 30⟩, ⟨0, 10⟩, ⟨0, 10⟩, ⟨10, 15⟩⟩]⟩

set_option maxHeartbeats 2000000 in
theorem fn23 (b : Bool) : FnV Try.prog 23 [.bool b] (awakeC b).d := by
  refine FnV.relax (r := .agg ((.vs [(lowS b).cells, highS.cells.take 7 ++ [.nils]]) :: (awakeC b).cells.tail)) ?_ (by cases b <;> rfl)
  cases b with
  | false =>
    refine fnV_of mixed tysOk Try.func23 rfl (ft := ft23) 1 (by decide +kernel) (by rfl) fun {σ} Y st => ?_
    conv => whnf
    refine CallA_v (fn28 20000 21000) rfl rfl ?_
    conv => whnf
    refine CallA_v (fn28 2 4) rfl rfl ?_
    conv => whnf
    refine CallA_v (fn28 18000 18000) rfl rfl ?_
    conv => whnf
    refine CallA_v (fn28 5 5) rfl rfl ?_
    conv => whnf
    refine DrawCall_v (fn28 9000 12000) rfl rfl ?_
    conv => whnf
    refine DrawCall_v (fn28 20 30) rfl rfl ?_
    conv => whnf
    refine DrawCall_v (fn28 20 40) rfl rfl ?_
    conv => whnf
    refine DrawCall_v (fn28 0 20) rfl rfl ?_
    conv => whnf
    refine DrawCall_v (fn28 0 5) rfl rfl ?_
    conv => whnf
    refine DrawCall_v (fn28 20 30) rfl rfl ?_
    conv => whnf
    refine DrawCall_v (fn28 0 10) rfl rfl ?_
    conv => whnf
    refine DrawCall_v (fn28 0 10) rfl rfl ?_
    conv => whnf
    refine DrawCall_v (fn28 10 15) rfl rfl ?_
    conv => whnf
    exact RetA_view 4 (ds := [.agg ((.vs [(lowS false).cells, highS.cells.take 7 ++ [.nils]]) :: (awakeC false).cells.tail)]) rfl ⟨⟨rfl, rfl⟩, rfl⟩
  | true =>
    refine fnV_of mixed tysOk Try.func23 rfl (ft := ft23) 1 (by decide +kernel) (by rfl) fun {σ} Y st => ?_
    conv => whnf
    refine CallA_v (fn28 20000 21000) rfl rfl ?_
    conv => whnf
    refine CallA_v (fn28 2 4) rfl rfl ?_
    conv => whnf
    refine ownK_whole rfl ?_
    conv => whnf
    refine ownK_whole rfl ?_
    conv => whnf
    refine CallA_v (fn28 18000 18000) rfl rfl ?_
    conv => whnf
    refine CallA_v (fn28 5 5) rfl rfl ?_
    conv => whnf
    refine DrawCall_v (fn28 9000 12000) rfl rfl ?_
    conv => whnf
    refine DrawCall_v (fn28 20 30) rfl rfl ?_
    conv => whnf
    refine DrawCall_v (fn28 20 40) rfl rfl ?_
    conv => whnf
    refine DrawCall_v (fn28 0 20) rfl rfl ?_
    conv => whnf
    refine DrawCall_v (fn28 0 5) rfl rfl ?_
    conv => whnf
    refine DrawCall_v (fn28 20 30) rfl rfl ?_
    conv => whnf
    refine DrawCall_v (fn28 0 10) rfl rfl ?_
    conv => whnf
    refine DrawCall_v (fn28 0 10) rfl rfl ?_
    conv => whnf
    refine DrawCall_v (fn28 10 15) rfl rfl ?_
    conv => whnf
    exact RetA_view 4 (ds := [.agg ((.vs [(lowS true).cells, highS.cells.take 7 ++ [.nils]]) :: (awakeC true).cells.tail)]) rfl ⟨⟨rfl, rfl⟩, rfl⟩
end Go.PX

namespace Go.PX
open Go.Proofs

def worstA : Truth := ⟨30, 40, 20, 5, 9000, [16500, 13000]⟩

theorem fn70 : FnV Try.prog 70 [] worstA.d := by
  refine fnV_of mixed tysOk Try.func70 rfl (ft := ft70) 0 (by decide +kernel) (by rfl) fun {σ} Y st => ?_
  conv => whnf
  exact RetA_view 2 (ds := [worstA.d]) rfl ⟨⟨rfl, rfl⟩, rfl⟩

theorem aw1 : thickE (awakeC false) 0 1000 = (⟨16500, 18500⟩, 0) := by decide +kernel
theorem aw2 : doubtsE (awakeC true) 0 = [1] := by decide +kernel
theorem aw2' : openE (awakeC true) 0 = 0 := by decide +kernel
theorem aw3 : bearsE (awakeC false) 0 = (⟨13612, 17112⟩, 0) := by decide +kernel
theorem aw4 : pullE (awakeC false) 0 18 = (4851, 0) := by decide +kernel
theorem aw5 : whyE (awakeC false) 10 = ((1, 0, 0), 0) := by decide +kernel
theorem aw6 : whyE (awakeC false) 20 = ((0, 0, 0), 0) := by decide +kernel
theorem aw7 : showE (awakeC false) 0 20 = (worstA.d, (0, 0), 0) := by rfl
theorem aw8 : inE (awakeC false) 0 20 worstA = ((0, 0), 0) := by decide +kernel
theorem aw9 : scopesE (awakeC false) = ([⟨20, 20⟩], 0) := by decide +kernel
theorem aw10 : shortE (awakeC false) = (20, 0) := by decide +kernel
theorem aw11 : renewE (awakeC false) = (([], false), 0) := by decide +kernel
theorem aw12 : shortE (awakeC true) = (0, 8) := by decide +kernel
theorem aw13 : thickE (awakeC true) 0 5 = (⟨0, 0⟩, 9) := by decide +kernel

def sameT (a b : Truth) : Bool := decide (a.depth = b.depth) && (decide (a.wind = b.wind) && (decide (a.current = b.current) && (decide (a.swell = b.swell) && (decide (a.hold = b.hold) && decide (a.thick = b.thick)))))

theorem fn71 (a b : Truth) (h : a.thick.length < 1000000) : FnV Try.prog 71 [a.d, b.d] (.bool (sameT a b)) := by
  refine fnV_of mixed tysOk Try.func71 rfl (ft := ft71) 2 (by decide +kernel) (by rfl) fun {σ} Y st => ?_
  conv => whnf
  by_cases h1 : a.depth = b.depth
  · rw [decide_eq_true h1]
    conv => whnf
    by_cases h2 : a.wind = b.wind
    · rw [decide_eq_true h2]
      conv => whnf
      by_cases h3 : a.current = b.current
      · rw [decide_eq_true h3]
        conv => whnf
        by_cases h4 : a.swell = b.swell
        · rw [decide_eq_true h4]
          conv => whnf
          by_cases h5 : a.hold = b.hold
          · rw [decide_eq_true h5]
            conv => whnf
            refine CallA_v (ds := [intsD a.thick, intsD b.thick]) (fn19 a.thick b.thick h) rfl rfl ?_
            conv => whnf
            refine RetA_view 0 rfl ⟨⟨?_, rfl⟩, rfl⟩
            simp [sameT, packD, h1, h2, h3, h4, h5]
          · rw [decide_eq_false h5]
            conv => whnf
            refine RetA_view 0 rfl ⟨⟨?_, rfl⟩, rfl⟩
            simp [sameT, packD, h1, h2, h3, h4, h5]
        · rw [decide_eq_false h4]
          conv => whnf
          refine RetA_view 0 rfl ⟨⟨?_, rfl⟩, rfl⟩
          simp [sameT, packD, h1, h2, h3, h4]
      · rw [decide_eq_false h3]
        conv => whnf
        refine RetA_view 0 rfl ⟨⟨?_, rfl⟩, rfl⟩
        simp [sameT, packD, h1, h2, h3]
    · rw [decide_eq_false h2]
      conv => whnf
      refine RetA_view 0 rfl ⟨⟨?_, rfl⟩, rfl⟩
      simp [sameT, packD, h1, h2]
  · rw [decide_eq_false h1]
    conv => whnf
    refine RetA_view 0 rfl ⟨⟨?_, rfl⟩, rfl⟩
    simp [sameT, packD, h1]

theorem fn22 : FnV Try.prog 22 [] (.bool true) := by
  refine fnV_of mixed tysOk Try.func22 rfl (ft := ft22) 0 (by decide +kernel) (by rfl) fun {σ} Y st => ?_
  conv => whnf
  refine CallA_v (fn23 false) rfl rfl ?_
  conv => whnf
  refine CallA_v (ds := [(awakeC false).d, i64 0, i64 1000]) (fn15 (awakeC false) 0 1000) rfl rfl ?_
  rw [aw1]
  conv => whnf
  refine CallA_v (fn23 true) rfl rfl ?_
  conv => whnf
  refine CallA_v (ds := [(awakeC true).d, i64 0]) (fn17 (awakeC true) 0) rfl rfl ?_
  rw [aw2, aw2']
  conv => whnf
  refine CallA_v (fn23 false) rfl rfl ?_
  conv => whnf
  refine CallA_v (ds := [(awakeC false).d, i64 0]) (fn20 (awakeC false) 0) rfl rfl ?_
  rw [aw3]
  conv => whnf
  refine CallA_v (fn23 false) rfl rfl ?_
  conv => whnf
  refine CallA_v (ds := [(awakeC false).d, i64 0, i64 18]) (fn24 (awakeC false) 0 18) rfl rfl ?_
  rw [aw4]
  conv => whnf
  refine CallA_v (fn23 false) rfl rfl ?_
  conv => whnf
  refine CallA_v (ds := [(awakeC false).d, i64 10]) (fn25 (awakeC false) 10) rfl rfl ?_
  rw [aw5]
  conv => whnf
  refine CallA_v (fn23 false) rfl rfl ?_
  conv => whnf
  refine CallA_v (ds := [(awakeC false).d, i64 20]) (fn25 (awakeC false) 20) rfl rfl ?_
  rw [aw6]
  conv => whnf
  refine CallA_v (fn23 false) rfl rfl ?_
  conv => whnf
  refine CallA_v (ds := [(awakeC false).d, i64 0, i64 20]) (fn35 (awakeC false) 0 20) rfl rfl ?_
  rw [aw7]
  conv => whnf
  refine CallA_v (fn23 false) rfl rfl ?_
  conv => whnf
  refine CallA_v (fn70) rfl rfl ?_
  conv => whnf
  refine CallA_v (ds := [(awakeC false).d, i64 0, i64 20, worstA.d]) (fn39 (awakeC false) 0 20 worstA) rfl rfl ?_
  rw [aw8]
  conv => whnf
  refine CallA_v (fn23 false) rfl rfl ?_
  conv => whnf
  refine CallA_v (ds := [(awakeC false).d]) (fn41 (awakeC false)) rfl rfl ?_
  rw [aw9]
  conv => whnf
  refine CallA_v (fn23 false) rfl rfl ?_
  conv => whnf
  refine CallA_v (ds := [(awakeC false).d]) (fn40 (awakeC false)) rfl rfl ?_
  rw [aw10]
  conv => whnf
  refine CallA_v (fn23 false) rfl rfl ?_
  conv => whnf
  refine CallA_v (ds := [(awakeC false).d]) (fn27 (awakeC false)) rfl rfl ?_
  rw [aw11]
  conv => whnf
  refine CallA_v (fn23 true) rfl rfl ?_
  conv => whnf
  refine CallA_v (ds := [(awakeC true).d]) (fn40 (awakeC true)) rfl rfl ?_
  rw [aw12]
  conv => whnf
  refine CallA_v (fn23 true) rfl rfl ?_
  conv => whnf
  refine CallA_v (ds := [(awakeC true).d, i64 0, i64 5]) (fn15 (awakeC true) 0 5) rfl rfl ?_
  rw [aw13]
  conv => whnf
  refine DrawCall_v (fn28 16500 18500) rfl rfl ?_
  conv => whnf
  refine DrawCall_view (fn19 [1] [1] (by simp)) rfl 1 rfl ?_
  conv => whnf
  refine DrawCall_v (fn28 13612 17112) rfl rfl ?_
  conv => whnf
  refine DrawCall_v (fn70) rfl rfl ?_
  conv => whnf
  refine DrawCall_v (ds := [worstA.d, worstA.d]) (fn71 worstA worstA (by decide)) rfl rfl ?_
  conv => whnf
  refine DrawCall_v (fn28 20 20) rfl rfl ?_
  conv => whnf
  refine DrawCall_view (fn45 [⟨20, 20⟩] [⟨20, 20⟩] (by simp)) rfl 1 rfl ?_
  conv => whnf
  exact RetA_view 0 rfl ⟨⟨rfl, rfl⟩, rfl⟩
end Go.PX

namespace Go.PX
open Go.Proofs

theorem self_t (x : Int) : decide (x = x) = true := decide_eq_true rfl

theorem doubtsE_len (c : Case) (i : Int) : (doubtsE c i).length < 1000000 := by
  unfold doubtsE
  split
  · rename_i h0
    obtain ⟨hc, s, hi, hs⟩ := openE_ok h0
    have hm := List.mem_of_getElem? hs
    have hl := ((case_ok hc).shots s hm).1.len
    rw [hs]
    simp only [doubtsQ]
    split
    · rename_i q y hq
      unfold chooseF at hq
      obtain ⟨n, hn, h1⟩ := List.exists_of_findSome?_eq_some hq
      have h2 := fillF_len h1
      simp at hn h2
      omega
    · simp
  · simp

theorem fn3 (c : Case) (i day : Int) : FnV Try.prog 3 [c.d, i64 i, i64 day] (.bool true) := by
  refine fnV_of mixed tysOk Try.func3 rfl (ft := ft3) 3 (by decide +kernel) (by rfl) fun {σ} Y st => ?_
  conv => whnf
  refine CallA_v (fn13 c) rfl rfl ?_
  conv => whnf
  refine CallA_v (fn14 c) rfl rfl ?_
  conv => whnf
  rw [self_t]
  conv => whnf
  rw [self_t]
  conv => whnf
  rw [self_t]
  conv => whnf
  refine CallA_v (ds := [c.d, i64 i, i64 day]) (fn15 c i day) rfl rfl ?_
  conv => whnf
  refine CallA_v (ds := [c.d, i64 i, i64 day]) (fn16 c i day) rfl rfl ?_
  conv => whnf
  rw [self_t, self_t]
  conv => whnf
  rw [self_t]
  conv => whnf
  refine CallA_v (ds := [c.d, i64 i]) (fn17 c i) rfl rfl ?_
  conv => whnf
  refine CallA_v (ds := [c.d, i64 i]) (fn18 c i) rfl rfl ?_
  conv => whnf
  refine CallA_v (ds := [intsD (doubtsE c i), intsD (doubtsE c i)]) (fn19 (doubtsE c i) (doubtsE c i) (doubtsE_len c i)) rfl rfl ?_
  rw [show decide (doubtsE c i = doubtsE c i) = true from decide_eq_true rfl]
  conv => whnf
  rw [self_t]
  conv => whnf
  refine CallA_v (ds := [c.d, i64 i]) (fn20 c i) rfl rfl ?_
  conv => whnf
  refine CallA_v (ds := [c.d, i64 i]) (fn21 c i) rfl rfl ?_
  conv => whnf
  rw [self_t, self_t]
  conv => whnf
  rw [self_t]
  conv => whnf
  refine CallA_v (fn22) rfl rfl ?_
  conv => whnf
  exact RetA_view 0 rfl ⟨⟨rfl, rfl⟩, rfl⟩
end Go.PX

namespace Go.PX
open Go.Proofs Go.RowKit Go.ChangeShapes

theorem c3 : Try.prog.cellsOf 3 = 1 := by kernel_rfl
theorem c9 : Try.prog.cellsOf 9 = 1 := by kernel_rfl
theorem c24 : Try.prog.cellsOf 24 = 2 := by kernel_rfl
theorem c68 : Try.prog.cellsOf 68 = 2 := by kernel_rfl
theorem c59 : Try.prog.cellsOf 59 = 1 := by kernel_rfl
theorem c61 : Try.prog.cellsOf 61 = 8 := by kernel_rfl
theorem c22 : Try.prog.cellsOf 22 = 1 := by kernel_rfl
theorem c104 : Try.prog.cellsOf 104 = 2 := by kernel_rfl
theorem c25 : Try.prog.cellsOf 25 = 1 := by kernel_rfl
theorem c27 : Try.prog.cellsOf 27 = 7 := by kernel_rfl
theorem c29 : Try.prog.cellsOf 29 = 4 := by kernel_rfl
theorem c79 : Try.prog.cellsOf 79 = 8 := by kernel_rfl
theorem c30 : Try.prog.cellsOf 30 = 1 := by kernel_rfl
theorem c32 : Try.prog.cellsOf 32 = 13 := by kernel_rfl

section
variable (W : World)
theorem rdInt : Rd Try.prog W 3 fun ds => ∃ n, ds = [i64 n] := Rd.int Try.underlying3
theorem rdStr : Rd Try.prog W 9 fun ds => ∃ s, ds = [.str s] := Rd.str Try.underlying9

theorem rdSpan : Rd Try.prog W 24 fun ds => ∃ s : Span, ds = s.cells :=
  (Rd.struct Try.underlying24 c24 (.cons rfl c3 (rdInt W) (.cons rfl c3 (rdInt W) (.nil _)))).mono fun ds h => by
    obtain ⟨_, _, rfl, ⟨a, rfl⟩, _, _, rfl, ⟨b, rfl⟩, rfl⟩ := h
    exact ⟨⟨a, b⟩, rfl⟩

theorem rdGauge : Rd Try.prog W 68 fun ds => ∃ s : Gauge, ds = s.cells :=
  (Rd.struct Try.underlying68 c68 (.cons rfl c3 (rdInt W) (.cons rfl c3 (rdInt W) (.nil _)))).mono fun ds h => by
    obtain ⟨_, _, rfl, ⟨a, rfl⟩, _, _, rfl, ⟨b, rfl⟩, rfl⟩ := h
    exact ⟨⟨a, b⟩, rfl⟩

theorem rdGauges : Rd Try.prog W 59 fun ds => ∃ l : List Gauge, ds = [gaugesD l] :=
  (Rd.slice Try.underlying59 c68 (by omega) (rdGauge W)).mono fun ds h => by
    obtain ⟨es, rfl, he⟩ := h
    obtain ⟨l, rfl⟩ := list_of (fun _ h => h) he
    exact ⟨l, rfl⟩

theorem rdShot : Rd Try.prog W 61 fun ds => ∃ s : Shot, ds = s.cells :=
  (Rd.struct Try.underlying61 c61 (.cons rfl c9 (rdStr W) (.cons rfl c3 (rdInt W) (.cons rfl c3 (rdInt W) (.cons rfl c24 (rdSpan W) (.cons rfl c24 (rdSpan W) (.cons rfl c59 (rdGauges W) (.nil _)))))))).mono fun ds h => by
    obtain ⟨_, _, rfl, ⟨a, rfl⟩, _, _, rfl, ⟨b, rfl⟩, _, _, rfl, ⟨c, rfl⟩, _, _, rfl, ⟨d, rfl⟩, _, _, rfl, ⟨e, rfl⟩, _, _, rfl, ⟨f, rfl⟩, rfl⟩ := h
    exact ⟨⟨a, b, c, d, e, f⟩, rfl⟩

theorem rdShots : Rd Try.prog W 22 fun ds => ∃ l : List Shot, ds = [shotsD l] :=
  (Rd.slice Try.underlying22 c61 (by omega) (rdShot W)).mono fun ds h => by
    obtain ⟨es, rfl, he⟩ := h
    obtain ⟨l, rfl⟩ := list_of (fun _ h => h) he
    exact ⟨l, rfl⟩

theorem rdRow : Rd Try.prog W 104 fun ds => ∃ s : Row, ds = s.cells :=
  (Rd.struct Try.underlying104 c104 (.cons rfl c3 (rdInt W) (.cons rfl c3 (rdInt W) (.nil _)))).mono fun ds h => by
    obtain ⟨_, _, rfl, ⟨a, rfl⟩, _, _, rfl, ⟨b, rfl⟩, rfl⟩ := h
    exact ⟨⟨a, b⟩, rfl⟩

theorem rdRows : Rd Try.prog W 25 fun ds => ∃ l : List Row, ds = [rowsD l] :=
  (Rd.slice Try.underlying25 c104 (by omega) (rdRow W)).mono fun ds h => by
    obtain ⟨es, rfl, he⟩ := h
    obtain ⟨l, rfl⟩ := list_of (fun _ h => h) he
    exact ⟨l, rfl⟩

theorem rdChain : Rd Try.prog W 27 fun ds => ∃ c : Chain, ds = c.cells :=
  (Rd.struct Try.underlying27 c27 (.cons rfl c22 (rdShots W) (.cons rfl c3 (rdInt W) (.cons rfl c3 (rdInt W) (.cons rfl c3 (rdInt W) (.cons rfl c24 (rdSpan W) (.cons rfl c25 (rdRows W) (.nil _)))))))).mono fun ds h => by
    obtain ⟨_, _, rfl, ⟨a, rfl⟩, _, _, rfl, ⟨b, rfl⟩, _, _, rfl, ⟨c, rfl⟩, _, _, rfl, ⟨d, rfl⟩, _, _, rfl, ⟨e, rfl⟩, _, _, rfl, ⟨f, rfl⟩, rfl⟩ := h
    exact ⟨⟨a, b, c, d, e, f⟩, rfl⟩

theorem rdShip : Rd Try.prog W 29 fun ds => ∃ s : Ship, ds = s.cells :=
  (Rd.struct Try.underlying29 c29 (.cons rfl c3 (rdInt W) (.cons rfl c3 (rdInt W) (.cons rfl c3 (rdInt W) (.cons rfl c3 (rdInt W) (.nil _)))))).mono fun ds h => by
    obtain ⟨_, _, rfl, ⟨a, rfl⟩, _, _, rfl, ⟨b, rfl⟩, _, _, rfl, ⟨c, rfl⟩, _, _, rfl, ⟨d, rfl⟩, rfl⟩ := h
    exact ⟨⟨a, b, c, d⟩, rfl⟩

theorem rdWeather : Rd Try.prog W 79 fun ds => ∃ s : Weather, ds = s.cells :=
  (Rd.struct Try.underlying79 c79 (.cons rfl c24 (rdSpan W) (.cons rfl c24 (rdSpan W) (.cons rfl c24 (rdSpan W) (.cons rfl c24 (rdSpan W) (.nil _)))))).mono fun ds h => by
    obtain ⟨_, _, rfl, ⟨a, rfl⟩, _, _, rfl, ⟨b, rfl⟩, _, _, rfl, ⟨c, rfl⟩, _, _, rfl, ⟨d, rfl⟩, rfl⟩ := h
    exact ⟨⟨a, b, c, d⟩, rfl⟩

theorem rdWeathers : Rd Try.prog W 30 fun ds => ∃ l : List Weather, ds = [weathersD l] :=
  (Rd.slice Try.underlying30 c79 (by omega) (rdWeather W)).mono fun ds h => by
    obtain ⟨es, rfl, he⟩ := h
    obtain ⟨l, rfl⟩ := list_of (fun _ h => h) he
    exact ⟨l, rfl⟩

theorem rdCase : Rd Try.prog W 32 fun ds => ∃ c : Case, ds = c.cells :=
  (Rd.struct Try.underlying32 c32 (.cons rfl c27 (rdChain W) (.cons rfl c29 (rdShip W) (.cons rfl c3 (rdInt W) (.cons rfl c30 (rdWeathers W) (.nil _)))))).mono fun ds h => by
    obtain ⟨_, _, rfl, ⟨a, rfl⟩, _, _, rfl, ⟨b, rfl⟩, _, _, rfl, ⟨c, rfl⟩, _, _, rfl, ⟨d, rfl⟩, rfl⟩ := h
    exact ⟨⟨a, b, c, d⟩, rfl⟩
end
end Go.PX

namespace Go.PX
open Go.Proofs

def vI (n : Int) : V := .d (i64 n)

/-- The case of the law's own, handed back with its lists. -/
def caseV : V := .agg [.sl 2000001 8 0 2, vI 10, vI 20, vI 100, vI 9000, vI 12000, .sl 2000002 2 0 2, vI 200, vI 300, vI 10, vI 5, vI 1000, .sl 2000003 8 0 2]
def caseH : Heap := [(2000000, .arr 2 (.dd [[i64 100, i64 20200]])), (2000001, .arr 8 (.vv [[.d (.str ⟨#[108, 111, 119]⟩), vI 10, vI 0, vI 20000, vI 21000, vI 2, vI 4, .sl 2000000 2 0 1], [.d (.str ⟨#[104, 105, 103, 104]⟩), vI 10, vI 0, vI 18000, vI 18000, vI 5, vI 5, .d .nils]])),
  (2000002, .arr 2 (.dd [[i64 30, i64 500], [i64 60, i64 1000]])),
  (2000003, .arr 8 (.dd [[i64 20, i64 30, i64 20, i64 40, i64 0, i64 20, i64 0, i64 5], [i64 20, i64 30, i64 0, i64 10, i64 0, i64 10, i64 10, i64 15]]))]

set_option maxHeartbeats 2000000 in
theorem fn23o : FnU Try.prog 23 [.d (.bool false)] [] fun v h' => v = caseV ∧ h' = caseH := by
  intro σ Y s
  refine fnC_of mixed tysOk Try.func23 rfl (ft := ft23) (args := [.d (.bool false)]) (show fnB ft23 Try.f23 1 = true from by decide +kernel) ?_
  conv => whnf
  refine CallA_v (fn28 20000 21000) rfl rfl ?_
  conv => whnf
  refine CallA_v (fn28 2 4) rfl rfl ?_
  conv => whnf
  refine CallA_v (fn28 18000 18000) rfl rfl ?_
  conv => whnf
  refine CallA_v (fn28 5 5) rfl rfl ?_
  conv => whnf
  refine DrawCall_v (fn28 9000 12000) rfl rfl ?_
  conv => whnf
  refine DrawCall_v (fn28 20 30) rfl rfl ?_
  conv => whnf
  refine DrawCall_v (fn28 20 40) rfl rfl ?_
  conv => whnf
  refine DrawCall_v (fn28 0 20) rfl rfl ?_
  conv => whnf
  refine DrawCall_v (fn28 0 5) rfl rfl ?_
  conv => whnf
  refine DrawCall_v (fn28 20 30) rfl rfl ?_
  conv => whnf
  refine DrawCall_v (fn28 0 10) rfl rfl ?_
  conv => whnf
  refine DrawCall_v (fn28 0 10) rfl rfl ?_
  conv => whnf
  refine DrawCall_v (fn28 10 15) rfl rfl ?_
  conv => whnf
  exact RetA_hand [8, 22, 26, 39] [caseV] caseH rfl ⟨rfl, rfl, rfl, rfl, trivial⟩ rfl ⟨⟨rfl, rfl⟩, rfl⟩

def wornC : Case := ⟨⟨[⟨⟨#[108, 111, 119]⟩, 10, 0, ⟨20000, 21000⟩, ⟨2, 4⟩, []⟩, highS], 10, 100, 100, ⟨20000, 20000⟩, [⟨30, 500⟩, ⟨60, 1000⟩]⟩, ⟨200, 300, 10, 5⟩, 1000, [⟨⟨20, 30⟩, ⟨20, 53⟩, ⟨0, 20⟩, ⟨0, 5⟩⟩, ⟨⟨20, 30⟩, ⟨0, 10⟩, ⟨0, 10⟩, ⟨10, 15⟩⟩]⟩

set_option maxHeartbeats 2000000 in
theorem fn26 : FnV Try.prog 26 [] wornC.d := by
  refine FnV.relax (r := .agg ((.vs [(wornC.chain.shots.headD highS).cells.take 7 ++ [.nils], highS.cells.take 7 ++ [.nils]]) :: wornC.cells.tail)) ?_ rfl
  refine fnV_of mixed tysOk Try.func26 rfl (ft := ft26) 0 (by decide +kernel) (by rfl) fun {σ} Y st => ?_
  conv => whnf
  refine CallA_fn fn23o [] rfl rfl rfl ?_
  conv => whnf
  refine CallA_v (fn28 20000 20000) rfl rfl ?_
  conv => whnf
  exact RetA_view 4 (ds := [.agg ((.vs [(wornC.chain.shots.headD highS).cells.take 7 ++ [.nils], highS.cells.take 7 ++ [.nils]]) :: wornC.cells.tail)]) rfl ⟨⟨rfl, rfl⟩, rfl⟩

theorem kn1 : thickE (awakeC false) 0 0 = (⟨20300, 20700⟩, 0) := by decide +kernel
theorem kn2 : thickE (awakeC false) 0 100 = (⟨20100, 20300⟩, 0) := by decide +kernel
theorem kn3 : bearsE (awakeC false) 1 = (⟨8450, 8450⟩, 0) := by decide +kernel
theorem kn4 : pullE (awakeC false) 0 10 = (4673, 0) := by decide +kernel
theorem kn5 : pullE (awakeC false) 1 18 = (709, 0) := by decide +kernel
theorem kn6 : whyE (awakeC false) 9 = ((1, 0, 0), 0) := by decide +kernel
theorem kn7 : whyE (awakeC false) 18 = ((1, 0, 0), 0) := by decide +kernel
theorem kn8 : whyE wornC 20 = ((2, 0, 1), 0) := by decide +kernel
theorem kn9 : renewE wornC = (([], true), 0) := by decide +kernel

set_option maxHeartbeats 2000000 in
theorem fn4 : FnV Try.prog 4 [] (.bool true) := by
  refine fnV_of mixed tysOk Try.func4 rfl (ft := ft4) 0 (by decide +kernel) (by rfl) fun {σ} Y st => ?_
  conv => whnf
  refine CallA_v (fn23 false) rfl rfl ?_
  conv => whnf
  refine CallA_v (ds := [(awakeC false).d, i64 0, i64 0]) (fn15 (awakeC false) 0 0) rfl rfl ?_
  rw [kn1]
  conv => whnf
  refine CallA_v (fn23 false) rfl rfl ?_
  conv => whnf
  refine CallA_v (ds := [(awakeC false).d, i64 0, i64 100]) (fn15 (awakeC false) 0 100) rfl rfl ?_
  rw [kn2]
  conv => whnf
  refine CallA_v (fn23 false) rfl rfl ?_
  conv => whnf
  refine CallA_v (ds := [(awakeC false).d, i64 1]) (fn20 (awakeC false) 1) rfl rfl ?_
  rw [kn3]
  conv => whnf
  refine CallA_v (fn23 false) rfl rfl ?_
  conv => whnf
  refine CallA_v (ds := [(awakeC false).d, i64 0, i64 10]) (fn24 (awakeC false) 0 10) rfl rfl ?_
  rw [kn4]
  conv => whnf
  refine CallA_v (fn23 false) rfl rfl ?_
  conv => whnf
  refine CallA_v (ds := [(awakeC false).d, i64 1, i64 18]) (fn24 (awakeC false) 1 18) rfl rfl ?_
  rw [kn5]
  conv => whnf
  refine CallA_v (fn23 false) rfl rfl ?_
  conv => whnf
  refine CallA_v (ds := [(awakeC false).d, i64 9]) (fn25 (awakeC false) 9) rfl rfl ?_
  rw [kn6]
  conv => whnf
  refine CallA_v (fn23 false) rfl rfl ?_
  conv => whnf
  refine CallA_v (ds := [(awakeC false).d, i64 18]) (fn25 (awakeC false) 18) rfl rfl ?_
  rw [kn7]
  conv => whnf
  refine CallA_v (fn26) rfl rfl ?_
  conv => whnf
  refine CallA_v (ds := [wornC.d, i64 20]) (fn25 wornC 20) rfl rfl ?_
  rw [kn8]
  conv => whnf
  refine CallA_v (fn26) rfl rfl ?_
  conv => whnf
  refine CallA_v (ds := [wornC.d]) (fn27 wornC) rfl rfl ?_
  rw [kn9]
  conv => whnf
  refine DrawCall_v (fn28 20300 20700) rfl rfl ?_
  conv => whnf
  refine DrawCall_v (fn28 20100 20300) rfl rfl ?_
  conv => whnf
  refine DrawCall_v (fn28 8450 8450) rfl rfl ?_
  conv => whnf
  refine DrawCall_v (fn22) rfl rfl ?_
  conv => whnf
  exact RetA_view 0 rfl ⟨⟨rfl, rfl⟩, rfl⟩
end Go.PX

namespace Go.PX
open Go.Proofs

def soundAll (c : Case) : Int := lookE c (checkC c).2.2

theorem fn33 (c : Case) : FnV Try.prog 33 [c.d] (i64 (soundAll c)) := by
  refine fnV_of mixed tysOk Try.func33 rfl (ft := ft33) 1 (by decide +kernel) (by rfl) fun {σ} Y st => ?_
  conv => whnf
  refine CallA_v (fn14 c) rfl rfl ?_
  conv => whnf
  refine CallA_v (ds := [c.d, i64 (checkC c).2.2]) (fn68 c (checkC c).2.2 (fun h => (case_ok h).caseOk)) rfl rfl ?_
  rw [lookE_eq]
  conv => whnf
  exact RetA_view 0 rfl ⟨⟨rfl, rfl⟩, rfl⟩
end Go.PX

namespace Go.PX
open Go.Proofs

/-- All runs. -/
def runsL (ok : Int → Bool) : Nat → Int → Int → List Span
  | 0, _, _ => []
  | r + 1, k, a =>
    if ok k && decide (a = 0) then runsL ok r (k + 1) (k + 1)
    else if !ok k && decide (a > 0) then ⟨a, k⟩ :: runsL ok r (k + 1) 0
    else runsL ok r (k + 1) a

theorem runL_take {ok : Int → Bool} {n : Nat} : ∀ (r : Nat) (k a : Int) (acc : List Span), acc.length < n → runL ok n r k a acc = acc ++ (runsL ok r k a).take (n - acc.length)
  | 0, k, a, acc, h => by simp [runL, runsL]
  | r + 1, k, a, acc, h => by
    rw [runL, runsL]
    split
    · exact runL_take r _ _ _ h
    · split
      · split
        · rename_i h1
          rw [show n - acc.length = 1 by omega]
          simp
        · rename_i h1
          have hl : (acc ++ [Span.mk a k]).length = acc.length + 1 := by simp
          rw [runL_take r _ _ _ (by rw [hl]; omega), hl, List.append_assoc, show n - acc.length = (n - (acc.length + 1)) + 1 by omega]
          simp
      · exact runL_take r _ _ _ h

/-- Ascending, with gaps. -/
def Asc : Int → List Span → Prop
  | _, [] => True
  | b, s :: r => b ≤ s.lo ∧ s.lo ≤ s.hi ∧ Asc (s.hi + 2) r

theorem Asc.weak {b b' : Int} (h : b' ≤ b) : ∀ {l : List Span}, Asc b l → Asc b' l
  | [], _ => trivial
  | s :: r, ⟨h1, h2, h3⟩ => ⟨by omega, h2, h3⟩

theorem runsL_start {ok : Int → Bool} {k : Int} (h : ok k = true) (r : Nat) : runsL ok (r + 1) k 0 = runsL ok r (k + 1) (k + 1) := by simp [runsL, h]
theorem runsL_end {ok : Int → Bool} {k a : Int} (h : ok k = false) (ha : 0 < a) (r : Nat) : runsL ok (r + 1) k a = ⟨a, k⟩ :: runsL ok r (k + 1) 0 := by simp [runsL, h, ha]
theorem runsL_in {ok : Int → Bool} {k a : Int} (h : ok k = true) (ha : 0 < a) (r : Nat) : runsL ok (r + 1) k a = runsL ok r (k + 1) a := by
  have : a ≠ 0 := by omega
  simp [runsL, h, this]
theorem runsL_out {ok : Int → Bool} {k : Int} (h : ok k = false) (r : Nat) : runsL ok (r + 1) k 0 = runsL ok r (k + 1) 0 := by simp [runsL, h]

theorem runsL_asc (ok : Int → Bool) : ∀ (r : Nat) (k a : Int), 0 ≤ k → (a = 0 → Asc (k + 1) (runsL ok r k a)) ∧ (0 < a ∧ a ≤ k → Asc a (runsL ok r k a))
  | 0, k, a, _ => ⟨fun _ => trivial, fun _ => trivial⟩
  | r + 1, k, a, hk => by
    refine ⟨fun h => ?_, fun h => ?_⟩
    · subst h
      cases hok : ok k with
      | true => rw [runsL_start hok]; exact (runsL_asc ok r (k + 1) (k + 1) (by omega)).2 (by omega)
      | false => rw [runsL_out hok]; exact ((runsL_asc ok r (k + 1) 0 (by omega)).1 rfl).weak (by omega)
    · cases hok : ok k with
      | true => rw [runsL_in hok h.1]; exact (runsL_asc ok r (k + 1) a (by omega)).2 (by omega)
      | false => rw [runsL_end hok h.1]; exact ⟨Int.le_refl _, h.2, ((runsL_asc ok r (k + 1) 0 (by omega)).1 rfl).weak (by simp only; omega)⟩

def Cov (x : Int) (l : List Span) : Prop := ∃ s ∈ l, s.lo ≤ x ∧ x ≤ s.hi

theorem runsL_cov (ok : Int → Bool) (x : Int) : ∀ (r : Nat) (k a : Int), 0 ≤ k → 0 ≤ a ∧ a ≤ k → (r = 0 → a = 0) → (0 < r → ok (k + r - 1) = false) →
    (Cov x (runsL ok r k a) ↔ ((0 < a ∧ a ≤ x ∧ x ≤ k) ∨ (k + 1 ≤ x ∧ x ≤ k + r ∧ ok (x - 1) = true)))
  | 0, k, a, hk, ha, h0, _ => by
    have := h0 rfl
    simp only [runsL, Cov, List.not_mem_nil, false_and, exists_false, false_iff]
    omega
  | r + 1, k, a, hk, ha, _, hend => by
    have hend := hend (by omega)
    rw [show k + ((r + 1 : Nat) : Int) - 1 = k + r by omega] at hend
    have hx : ∀ b, ok k = b → (x = k + 1 → ok (x - 1) = b) := fun b hb h => by rw [h, show k + 1 - 1 = k by omega, hb]
    cases hok : ok k with
    | true =>
      have hr : 0 < r := by
        rcases Nat.eq_zero_or_pos r with h | h
        · subst h; rw [show k + ((0 : Nat) : Int) = k by omega, hok] at hend; cases hend
        · exact h
      have hx := hx true hok
      by_cases ha0 : 0 < a
      · rw [runsL_in hok ha0, runsL_cov ok x r (k + 1) a (by omega) (by omega) (by omega) (fun _ => by rw [show k + 1 + (r : Int) - 1 = k + r by omega]; exact hend)]
        constructor
        · rintro (h | ⟨h1, h2, h3⟩)
          · by_cases he : x = k + 1
            · exact .inr ⟨by omega, by omega, hx he⟩
            · exact .inl (by omega)
          · exact .inr ⟨by omega, by omega, h3⟩
        · rintro (h | ⟨h1, h2, h3⟩)
          · exact .inl (by omega)
          · by_cases he : x = k + 1
            · exact .inl (by omega)
            · exact .inr ⟨by omega, by omega, h3⟩
      · have ha1 : a = 0 := by omega
        subst ha1
        rw [runsL_start hok, runsL_cov ok x r (k + 1) (k + 1) (by omega) (by omega) (by omega) (fun _ => by rw [show k + 1 + (r : Int) - 1 = k + r by omega]; exact hend)]
        constructor
        · rintro (h | ⟨h1, h2, h3⟩)
          · exact .inr ⟨by omega, by omega, hx (by omega)⟩
          · exact .inr ⟨by omega, by omega, h3⟩
        · rintro (h | ⟨h1, h2, h3⟩)
          · omega
          · by_cases he : x = k + 1
            · exact .inl (by omega)
            · exact .inr ⟨by omega, by omega, h3⟩
    | false =>
      have hx := hx false hok
      have hne : ok (x - 1) = true → x ≠ k + 1 := fun h he => by rw [hx he] at h; cases h
      have ih := runsL_cov ok x r (k + 1) 0 (by omega) (by omega) (by omega) (fun _ => by rw [show k + 1 + (r : Int) - 1 = k + r by omega]; exact hend)
      by_cases ha0 : 0 < a
      · rw [runsL_end hok ha0]
        have e : Cov x (⟨a, k⟩ :: runsL ok r (k + 1) 0) ↔ ((a ≤ x ∧ x ≤ k) ∨ Cov x (runsL ok r (k + 1) 0)) := by
          simp [Cov]
        rw [e, ih]
        constructor
        · rintro (h | h | ⟨h1, h2, h3⟩)
          · exact .inl (by omega)
          · omega
          · exact .inr ⟨by omega, by omega, h3⟩
        · rintro (h | ⟨h1, h2, h3⟩)
          · exact .inl (by omega)
          · have := hne h3
            exact .inr (.inr ⟨by omega, by omega, h3⟩)
      · have ha1 : a = 0 := by omega
        subst ha1
        rw [runsL_out hok, ih]
        constructor
        · rintro (h | ⟨h1, h2, h3⟩)
          · omega
          · exact .inr ⟨by omega, by omega, h3⟩
        · rintro (h | ⟨h1, h2, h3⟩)
          · omega
          · have := hne h3
            exact .inr ⟨by omega, by omega, h3⟩

def allRuns (c : Case) (th : List Span) : List Span := runsL (holdsAt c th) (linksF c.chain.shots + 1).toNat 0 0

theorem scopesF_take (c : Case) (th : List Span) {n : Int} (hn : 1 ≤ n) : scopesF c th n = (allRuns c th).take n.toNat := by
  unfold scopesF allRuns
  have := runL_take (ok := holdsAt c th) (n := n.toNat) (linksF c.chain.shots + 1).toNat 0 0 [] (by simp; omega)
  rw [show ((n.toNat : Nat) : Int) = n by omega] at this
  simpa using this

theorem allRuns_asc (c : Case) (th : List Span) : Asc 1 (allRuns c th) := (runsL_asc _ _ 0 0 (by omega)).1 rfl

/-- A length is in a run if and only if it holds in every weather. -/
theorem allRuns_cov {c : Case} (h : CaseR c) (th : List Span) (x : Int) : Cov x (allRuns c th) ↔ (1 ≤ x ∧ x ≤ linksF c.chain.shots ∧ (breakF c th x).1 = 0) := by
  have hl := links_ok h
  unfold allRuns
  rw [runsL_cov (holdsAt c th) x _ 0 0 (by omega) (by omega) (by omega) (fun _ => by
    have : (0 : Int) + ((linksF c.chain.shots + 1).toNat : Int) - 1 = linksF c.chain.shots := by omega
    rw [this]; simp [holdsAt])]
  constructor
  · rintro (h | ⟨h1, h2, h3⟩)
    · omega
    · simp only [holdsAt, Bool.and_eq_true, decide_eq_true_eq] at h3
      rw [show x - 1 + 1 = x by omega] at h3
      exact ⟨by omega, by omega, h3.2⟩
  · rintro ⟨h1, h2, h3⟩
    refine .inr ⟨by omega, by omega, ?_⟩
    simp only [holdsAt, Bool.and_eq_true, decide_eq_true_eq]
    rw [show x - 1 + 1 = x by omega]
    exact ⟨by omega, h3⟩
end Go.PX
