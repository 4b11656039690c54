import Derived.Test.YtpocldjdlookjaaPxM
import Derived.Test.YtpocldjdlookjaaPxJ
import Derived.Test.YtpocldjdlookjaaPxL
set_option linter.all false
set_option maxRecDepth 10000
namespace Go.PX
open Go.Proofs
def adaM : Man := ⟨⟨#[97, 100, 97]⟩, 2, []⟩
def benM : Man := ⟨⟨#[98, 101, 110]⟩, 1, []⟩
def cidM : Man := ⟨⟨#[99, 105, 100]⟩, 0, [2]⟩
def danM : Man := ⟨⟨#[100, 97, 110]⟩, 1, []⟩
def caseC (rest : Int) (dan : Bool) : WCase := ⟨[adaM, benM, cidM] ++ (if dan then [danM] else []), [⟨1, 1⟩, ⟨1, 0⟩, ⟨1, 0⟩], 1, rest⟩
theorem wa40 (rest : Int) (dan : Bool) : FnV Try.prog 40 [i64 rest, .bool dan] (caseC rest dan).d := by
 refine FnV.relax (r := .agg ((.vs ([[.str ⟨#[97, 100, 97]⟩, i64 2, .nils], [.str ⟨#[98, 101, 110]⟩, i64 1, .nils], [.str ⟨#[99, 105, 100]⟩, i64 0, intsD [2]]] ++ (if dan then [[.str ⟨#[100, 97, 110]⟩, i64 1, .nils]] else []))) :: (caseC rest dan).cells.tail)) ?_ (by cases dan <;> rfl)
 cases dan with
 | false =>
  refine fnV_of mixed tysOk Try.func40 rfl (ft := ft40) 2 (by decide +kernel) (by rfl) fun {σ} Y st => ?_
  conv=>whnf
  exact RetA_view 3 rfl ⟨⟨rfl, rfl⟩, rfl⟩
 | true =>
  refine fnV_of mixed tysOk Try.func40 rfl (ft := ft40) 2 (by decide +kernel) (by rfl) fun {σ} Y st => ?_
  conv=>whnf
  refine ownK_whole rfl ?_
  conv=>whnf
  refine ownK_whole rfl ?_
  conv=>whnf
  exact RetA_view 3 rfl ⟨⟨rfl, rfl⟩, rfl⟩
theorem wa24 (a b : List (List Int)) (ha : a.length < 1000000) (hr : ∀ r ∈ a, r.length < 1000000) : FnV Try.prog 24 [rotaD a, rotaD b] (.bool (decide (a = b))) := by
 refine fnV_of mixed tysOk Try.func24 rfl (ft := ft24) 2 (by decide +kernel) (by rfl) fun {σ} Y st => ?_
 conv=>whnf
 refine brk_i (fun h0 => ?_) (fun h0 => ?_)
 ·have h0 : ¬ a.length = b.length := by
   have : ¬ ((a.length : Int) = b.length) := by simpa using h0
   omega
  conv=>whnf
  rw [decide_eq_false (fun e => h0 (by rw [e]))]
  exact RetA_view 0 rfl ⟨⟨rfl, rfl⟩, rfl⟩
 have h0 : a.length = b.length := by
  have : ((a.length : Int) = b.length) := by simpa using h0
  omega
 conv=>whnf
 refine LoopA_i (T := tys) tysOk (by exact drawsB_spec mixed tysOk (by decide +kernel)) a (fun i (_ : Unit) => ⟨[(0, .d (rotaD a)), (1, .d (rotaD b)), (4, .d (.bool false)), (5, .d (i64 i))], [], st⟩)
  (fun i r _ => (decide (a = b)) = decide (r = b.drop i)) () (Wk.sub (by repeat' first|exact trivial|refine⟨?_,?_⟩|rfl|(simp only[List.length_map];rfl)|simp[PX.get]) trivial) rfl ?_ ?_
 ·intro i x r _ hx hi hr' he
  have hib : i < b.length := by omega
  have hdb : b.drop i = b[i] :: b.drop (i + 1) := by rw [List.drop_eq_getElem_cons hib]
  rw [hdb] at he
  have hgb : b[i]? = some b[i] := List.getElem?_eq_getElem hib
  have hxr := hr x (List.mem_of_getElem? hx)
  conv=>whnf
  refine brk_i (fun _ => ?_) (fun h => absurd hi (by have := of_decide_eq_false h; simp at this; omega))
  conv=>whnf
  refine elemK_nat hx ?_
  conv=>whnf
  refine elemK_nat hgb ?_
  conv=>whnf
  refine DrawCall_v (ds := [intsD x, intsD b[i]]) (fn19 x b[i] hxr) rfl rfl ?_
  conv=>whnf
  refine brk_i (fun h1 => ?_) (fun h1 => ?_)
  ·have h1 : ¬ x = b[i] := by simpa using h1
   conv=>whnf
   rw [he, decide_eq_false (fun e => h1 (List.cons.inj e).1)]
   exact RetA_view 0 rfl ⟨⟨rfl, rfl⟩, rfl⟩
  ·have h1 : x = b[i] := by simpa using h1
   conv=>whnf
   refine arith_in (wrap_i64 (by (try dsimp only); omega)) ?_
   conv=>whnf
   refine ⟨(), ?_, (Wk.sub (by repeat' first|exact trivial|refine⟨?_,?_⟩|rfl|(simp only[List.length_map];rfl)|simp[PX.get]) trivial)⟩
   rw [he]
   exact decide_eq_decide.2 ⟨fun e => (List.cons.inj e).2, fun e => by rw [h1, e]⟩
 ·intro _ he
  conv=>whnf
  refine brk_i (fun h => absurd h (by simp)) (fun _ => ?_)
  conv=>whnf
  have hd : b.drop a.length = [] := by rw [h0]; simp
  rw [he, hd]
  exact RetA_view 0 rfl ⟨⟨rfl, rfl⟩, rfl⟩
def rowsL (men : List Int) : List (List Int) := men.map fun m => [m]
theorem wa42 (men : List Int) (hl : men.length ≤ 1000) : FnV Try.prog 42 [intsD men] (rotaN (rowsL men)) := by
 refine fnV_of mixed tysOk Try.func42 rfl (ft := ft42) 1 (by decide +kernel) (by rfl) fun {σ} Y st => ?_
 conv=>whnf
 generalize hM : rowsL men = M
 refine LoopA_i (T := tys) tysOk (by exact drawsB_spec mixed tysOk (by decide +kernel)) men (fun j (acc : List (List Int)) => ⟨[(0, .d (intsD men)), (3, match acc with
   | [] => .d .nils
   | x :: r => .sl 18 1 0 (x :: r).length), (4, .d (i64 j))], match acc with
   | [] => []
   | x :: r => [(18, .arr 1 (.dd ((x :: r).map fun r => [intsD r])))], st⟩)
  (fun j r acc => acc.length = j ∧ M = acc ++ rowsL r) [] (Wk.sub (by repeat' first|exact trivial|refine⟨?_,?_⟩|rfl|(simp only[List.length_map];rfl)|simp[PX.get]) trivial) ⟨rfl, hM.symm⟩ ?_ ?_
 ·rintro j x r acc hx hj hr2 ⟨hal, he⟩
  have he : M = (acc ++ [[x]]) ++ rowsL r := by rw [he]; simp [rowsL]
  cases acc with
  | nil =>
   conv=>whnf
   refine brk_i (fun _ => ?_) (fun h => absurd hj (by have := of_decide_eq_false h; simp at this; omega))
   conv=>whnf
   refine elemK_nat hx ?_
   conv=>whnf
   refine ownK_whole rfl ?_
   conv=>whnf
   refine arith_in (wrap_i64 (by (try dsimp only); omega)) ?_
   conv=>whnf
   refine ⟨[[x]], ⟨by simp at hal ⊢; omega, he⟩, (Wk.frzArr 1 [16] 18 (vs := [[.sl 16 1 0 1]]) (ds := [[intsD [x]]]) rfl (viewLL_one (viewL_cons (viewV_sl (es := [[i64 x]]) rfl rfl) rfl))).trans (Wk.sub (by repeat' first|exact trivial|refine⟨?_,?_⟩|rfl|(simp only[List.length_map];rfl)|simp[PX.get]) ⟨(by first | rfl | (simp only [List.length_map]; rfl) | simp [PX.get]), trivial⟩)⟩
  | cons a l =>
   conv=>whnf
   refine brk_i (fun _ => ?_) (fun h => absurd hj (by have := of_decide_eq_false h; simp at this; omega))
   conv=>whnf
   refine elemK_nat hx ?_
   conv=>whnf
   refine ownK_whole rfl ?_
   conv=>whnf
   refine ownK_whole (by simp [Els.len]) ?_
   conv=>whnf
   have hfree : (true && !nameBL 18 ((injL ((a :: l).map fun r => [intsD r]) ++ [[V.sl 16 1 0 1]]).flatten)) = true := by
    rw [nameBL_injL]; rfl
   refine chk_i hfree ?_
   conv=>whnf
   refine chk_i (decide_eq_true (by
    show (((a :: l).map fun r => [intsD r]).length + 1) * 24 ≤ 140737488355328
    rw [List.length_map]; omega)) ?_
   conv=>whnf
   refine arith_in (wrap_i64 (by (try dsimp only); omega)) ?_
   conv=>whnf
   refine ⟨a :: l ++ [[x]], ⟨by simp at hal ⊢; omega, he⟩, (Wk.frzArr 1 [16] 18 (sz := 1) (vs := injL ((a :: l).map fun r => [intsD r]) ++ [[.sl 16 1 0 1]]) (ds := ((a :: l).map fun r => [intsD r]) ++ [[intsD [x]]]) ?_ (viewLL_app (viewLL_one (viewL_cons (viewV_sl (es := [[i64 x]]) rfl rfl) rfl)) _)).trans ?_⟩
   ·rfl
   ·refine Wk.sub ⟨rfl, ?_, rfl, trivial⟩ ⟨?_, trivial⟩
    ·show some (V.sl 18 1 0 (((a :: l).map fun r => [intsD r]).length + 1)) = some (V.sl 18 1 0 (a :: (l ++ [[x]])).length)
     simp
    ·show some (Obj.arr 1 (Els.dd (((a :: l).map fun r => [intsD r]) ++ [[intsD [x]]]))) = some (Obj.arr 1 (Els.dd ((a :: (l ++ [[x]])).map fun r => [intsD r])))
     simp
 ·rintro acc ⟨_, he⟩
  have he : M = acc := by simpa [rowsL] using he
  rw [he]
  cases acc with
  | nil =>
   conv=>whnf
   refine brk_i (fun h => absurd h (by simp)) (fun _ => ?_)
   conv=>whnf
   exact RetA_view 0 rfl ⟨⟨rfl, rfl⟩, rfl⟩
  | cons a l =>
   conv=>whnf
   refine brk_i (fun h => absurd h (by simp)) (fun _ => ?_)
   conv=>whnf
   refine RetA_view 1 (ds := [rotaD (a :: l)]) ?_ ⟨⟨rfl, rfl⟩, rfl⟩
   exact viewL_cons (viewV_sl (es := (a :: l).map fun r => [intsD r]) rfl (by simp)) rfl
end Go.PX
namespace Go.PX
open Go.Proofs
theorem wa60 (n lo hi : Int) : FnV Try.prog 60 [i64 n, i64 lo, i64 hi] (.bool (inB n lo hi)) := by
 refine fnV_of mixed tysOk Try.func60 rfl (ft := ft60) 3 (by decide +kernel) (by rfl) fun {σ} Y st => ?_
 conv=>whnf
 refine brk_i (fun hb => ?_) (fun hb => ?_)
 ·conv=>whnf
  refine RetA_view 0 rfl ⟨⟨?_, rfl⟩, rfl⟩
  simp [packD, inB] at hb ⊢; simp [hb]
 ·conv=>whnf
  refine RetA_view 0 rfl ⟨⟨?_, rfl⟩, rfl⟩
  simp [packD, inB] at hb ⊢; omega
theorem wa49 (l : List Int) (n : Int) (hl : l.length < 4000000000000000000) : FnV Try.prog 49 [intsD l, i64 n] (.bool (decide (n ∈ l))) := by
 refine fnV_of mixed tysOk Try.func49 rfl (ft := ft49) 2 (by decide +kernel) (by rfl) fun {σ} Y st => ?_
 conv=>whnf
 refine LoopA_i (T := tys) tysOk (by exact drawsB_spec mixed tysOk (by decide +kernel)) l (fun i (_ : Unit) => ⟨[(0, .d (intsD l)), (1, .d (i64 n)), (4, .d (.bool false)), (5, .d (i64 i))], [], st⟩) (fun i r _ => decide (n ∈ l) = decide (n ∈ r)) () (Wk.sub (by repeat' first|exact trivial|refine⟨?_,?_⟩|rfl|(simp only[List.length_map];rfl)|simp[PX.get]) trivial) rfl ?_ ?_
 ·intro i x r _ hx hi hr he
  conv=>whnf
  refine brk_i (fun _ => ?_) (fun h => absurd hi (by have := of_decide_eq_false h; simp at this; omega))
  conv=>whnf
  refine elemK_nat hx ?_
  conv=>whnf
  refine brk_i (fun h1 => ?_) (fun h1 => ?_)
  ·have h1 : x = n := of_decide_eq_true h1
   conv=>whnf
   rw [he, decide_eq_true (by rw [h1]; simp)]
   exact RetA_view 0 rfl ⟨⟨rfl, rfl⟩, rfl⟩
  ·have h1 : ¬ x = n := of_decide_eq_false h1
   conv=>whnf
   refine arith_in (wrap_i64 (by (try dsimp only); omega)) ?_
   conv=>whnf
   refine ⟨(), ?_, (Wk.sub (by repeat' first|exact trivial|refine⟨?_,?_⟩|rfl|(simp only[List.length_map];rfl)|simp[PX.get]) trivial)⟩
   rw [he]
   exact decide_eq_decide.2 ⟨fun h => (List.mem_cons.1 h).elim (fun e => absurd e.symm h1) id, fun h => List.mem_cons_of_mem _ h⟩
 ·intro _ he
  conv=>whnf
  refine brk_i (fun h => absurd h (by simp)) (fun _ => ?_)
  conv=>whnf
  rw [he]
  exact RetA_view 0 rfl ⟨⟨rfl, rfl⟩, rfl⟩
theorem wa62 (l : List Int) (many : Int) (hm : -1000000 ≤ many ∧ many ≤ 1000000) : FnV Try.prog 62 [intsD l, i64 many] (i64 (ascF many (-1) l)) := by
 refine fnV_of mixed tysOk Try.func62 rfl (ft := ft62) 2 (by decide +kernel) (by rfl) fun {σ} Y st => ?_
 conv=>whnf
 refine LoopA_i (T := tys) tysOk (by exact drawsB_spec mixed tysOk (by decide +kernel)) l (fun i (last : Int) => ⟨[(0, .d (intsD l)), (1, .d (i64 many)), (4, .d (i64 0)), (5, .d (i64 i))], [], st⟩)
  (fun i r last => ascF many (-1) l = ascF many last r ∧ ((i = 0 ∧ last = -1) ∨ (0 < i ∧ l[i - 1]? = some last ∧ (i : Int) - 1 ≤ last ∧ last ≤ many - 1))) (-1) (Wk.sub (by repeat' first|exact trivial|refine⟨?_,?_⟩|rfl|(simp only[List.length_map];rfl)|simp[PX.get]) trivial) ⟨rfl, .inl ⟨rfl, rfl⟩⟩ ?_ ?_
 ·rintro i x r last hx hi hr ⟨he, hlast⟩
  rw [ascF] at he
  conv=>whnf
  refine brk_i (fun _ => ?_) (fun h => absurd hi (by have := of_decide_eq_false h; simp at this; omega))
  conv=>whnf
  refine elemK_nat hx ?_
  conv=>whnf
  refine arith_in (wrap_i64 (by (try dsimp only); omega)) ?_
  conv=>whnf
  refine CallA_v (ds := [i64 x, i64 0, i64 (many - 1)]) (wa60 x 0 (many - 1)) rfl rfl ?_
  cases hb : inB x 0 (many - 1) with
  | false =>
   rw [hb] at he
   conv=>whnf
   rw [he]
   exact RetA_view 0 rfl ⟨⟨rfl, rfl⟩, rfl⟩
  | true =>
   rw [hb] at he
   have hx0 := inB_iff.1 hb
   simp only [if_true] at he
   conv=>whnf
   refine brk_i (fun h2 => ?_) (fun h2 => ?_)
   ·have h2 : 0 < i := by have := of_decide_eq_true h2; simp at this; omega
    obtain ⟨_, hl1, hl2, hl3⟩ := hlast.resolve_left (fun h => by omega)
    conv=>whnf
    refine elemK_nat hx ?_
    conv=>whnf
    refine arith_to (((i - 1 : Nat) : Int)) (by (try dsimp only); omega) (wrap_i64 (by (try dsimp only); omega)) ?_
    conv=>whnf
    refine elemK_nat hl1 ?_
    conv=>whnf
    refine brk_i (fun h3 => ?_) (fun h3 => ?_)
    ·have h3 : x ≤ last := of_decide_eq_true h3
     rw [if_pos h3] at he
     conv=>whnf
     rw [he]
     exact RetA_view 0 rfl ⟨⟨rfl, rfl⟩, rfl⟩
    ·have h3 : ¬ x ≤ last := of_decide_eq_false h3
     rw [if_neg h3] at he
     conv=>whnf
     refine arith_in (wrap_i64 (by (try dsimp only); omega)) ?_
     conv=>whnf
     exact ⟨x, ⟨he, .inr ⟨by omega, by simpa using hx, by omega, by omega⟩⟩, (Wk.sub (by repeat' first|exact trivial|refine⟨?_,?_⟩|rfl|(simp only[List.length_map];rfl)|simp[PX.get]) trivial)⟩
   ·have h2 : ¬ 0 < i := by have := of_decide_eq_false h2; simp at this; omega
    have hl1 : last = -1 := by
     rcases hlast with h | h
     ·exact h.2
     ·omega
    rw [if_neg (by omega)] at he
    conv=>whnf
    refine arith_in (wrap_i64 (by (try dsimp only); omega)) ?_
    conv=>whnf
    exact ⟨x, ⟨he, .inr ⟨by omega, by simpa using hx, by omega, by omega⟩⟩, (Wk.sub (by repeat' first|exact trivial|refine⟨?_,?_⟩|rfl|(simp only[List.length_map];rfl)|simp[PX.get]) trivial)⟩
 ·rintro last ⟨he, _⟩
  conv=>whnf
  refine brk_i (fun h => absurd h (by simp)) (fun _ => ?_)
  conv=>whnf
  rw [he, ascF]
  exact RetA_view 0 rfl ⟨⟨rfl, rfl⟩, rfl⟩
end Go.PX
namespace Go.PX
open Go.Proofs
def namesW (l : List Man) : List ByteArray := l.map (·.name)
theorem manF_eq (n : Int) (b : List Man) (x : Man) : manF n b x = if freshF x.name (namesW b) = 0 then (if inB x.kind 0 3 then ascF n (-1) x.no else 7) else freshF x.name (namesW b) := by
 have h : ((namesW b).any fun y => decide (y = x.name)) = b.any fun y => decide (y.name = x.name) := by
  unfold namesW; rw [List.any_map]; rfl
 unfold manF freshF
 rw [h]
 cases nameF x.name <;> cases (b.any fun y => decide (y.name = x.name)) <;> simp
theorem wa16 (c : WCase) : FnV Try.prog 16 [c.d] (tri (checkW c)) := by
 refine fnV_of mixed tysOk Try.func16 rfl (ft := ft16) 1 (by decide +kernel) (by rfl) fun {σ} Y st => ?_
 conv=>whnf
 unfold checkW
 rw [List.length_map]
 refine CallA_v (ds := [i64 c.men.length, i64 1, i64 5]) (wa60 _ 1 5) rfl rfl ?_
 cases h0 : inB c.men.length 1 5 with
 | false =>
  conv=>whnf
  exact RetA_view 0 rfl ⟨⟨rfl, rfl⟩, rfl⟩
 | true =>
 conv=>whnf
 rw [List.length_map]
 refine CallA_v (ds := [i64 c.slots.length, i64 1, i64 6]) (wa60 _ 1 6) rfl rfl ?_
 cases h1 : inB c.slots.length 1 6 with
 | false =>
  conv=>whnf
  exact RetA_view 0 rfl ⟨⟨rfl, rfl⟩, rfl⟩
 | true =>
 rw [inB_iff] at h0 h1
 conv=>whnf
 refine CallA_v (ds := [i64 c.run, i64 1, i64 3]) (wa60 _ 1 3) rfl rfl ?_
 cases h2 : inB c.run 1 3 with
 | false =>
  conv=>whnf
  exact RetA_view 0 rfl ⟨⟨rfl, rfl⟩, rfl⟩
 | true =>
 conv=>whnf
 refine CallA_v (ds := [i64 c.rest, i64 1, i64 3]) (wa60 _ 1 3) rfl rfl ?_
 cases h3 : inB c.rest 1 3 with
 | false =>
  conv=>whnf
  exact RetA_view 0 rfl ⟨⟨rfl, rfl⟩, rfl⟩
 | true =>
 simp only [Bool.and_self, if_true]
 conv=>whnf
 refine LoopA_i (T := tys) tysOk (by exact drawsB_spec mixed tysOk (by decide +kernel)) c.slots (fun i (_ : Unit) => ⟨[(1, .ptr 1 0), (5, .d (i64 i))], [(1, .box (.dd c.cells))], st⟩) (fun i r _ => firstE slotF [] c.slots 0 = firstE slotF (c.slots.take i) r i) () (Wk.sub (by repeat' first|exact trivial|refine⟨?_,?_⟩|rfl|(simp only[List.length_map];rfl)|simp[PX.get]) ⟨(by first | rfl | (simp only [List.length_map]; rfl) | simp [PX.get]), trivial⟩) rfl ?_ ?_
 ·intro i x r _ hx hi hr he
  rw [firstE] at he
  have htk : c.slots.take (i + 1) = c.slots.take i ++ [x] := by rw [List.take_succ, hx]; rfl
  conv=>whnf
  refine brk_i (fun _ => ?_) (fun h => absurd hi (by have := of_decide_eq_false h; simp at this; omega))
  conv=>whnf
  refine elemK_nat hx ?_
  conv=>whnf
  refine CallA_v (ds := [i64 x.men, i64 1, i64 2]) (wa60 _ 1 2) rfl rfl ?_
  cases h4 : inB x.men 1 2 with
  | false =>
   conv=>whnf
   rw [he]
   simp only [slotF, h4]
   exact RetA_view 0 rfl ⟨⟨rfl, rfl⟩, rfl⟩
  | true =>
  conv=>whnf
  refine elemK_nat hx ?_
  conv=>whnf
  refine CallA_v (ds := [i64 x.least, i64 0, i64 3]) (wa60 _ 0 3) rfl rfl ?_
  cases h5 : inB x.least 0 3 with
  | false =>
   conv=>whnf
   rw [he]
   simp only [slotF, h4, h5]
   exact RetA_view 0 rfl ⟨⟨rfl, rfl⟩, rfl⟩
  | true =>
  have hs : slotF (c.slots.take i) x = 0 := by simp [slotF, h4, h5]
  rw [if_pos hs, ← htk] at he
  conv=>whnf
  refine arith_in (wrap_i64 (by (try dsimp only); omega)) ?_
  conv=>whnf
  exact ⟨(), he, (Wk.sub (by repeat' first|exact trivial|refine⟨?_,?_⟩|rfl|(simp only[List.length_map];rfl)|simp[PX.get]) ⟨(by first | rfl | (simp only [List.length_map]; rfl) | simp [PX.get]), trivial⟩)⟩
 intro _ he
 rw [List.take_length, firstE] at he
 rw [he]
 simp only [if_true]
 conv=>whnf
 refine brk_i (fun h => absurd h (by simp)) (fun _ => ?_)
 conv=>whnf
 unfold checkM
 refine LoopA_i (T := tys) tysOk (by exact drawsB_spec mixed tysOk (by decide +kernel)) c.men (fun i (_ : Unit) => ⟨[(1, .ptr 1 0), (6, .sl 80 1 0 i), (7, .d (i64 i))], [(1, .box (.dd c.cells)), (80, .arr 1 (.dd ((namesW (c.men.take i)).map fun s => [.str s])))], st⟩) (fun i r _ => firstE (manF c.slots.length) [] c.men 0 = firstE (manF c.slots.length) (c.men.take i) r i) ()
  ((Wk.born 6 80 1 rfl rfl rfl).trans (Wk.sub (by repeat' first|exact trivial|refine⟨?_,?_⟩|rfl|(simp only[List.length_map];rfl)|simp[PX.get]) (by repeat' first|exact trivial|refine⟨?_,?_⟩|rfl|(simp only[List.length_map];rfl)|simp[PX.get]))) rfl ?_ ?_
 ·intro i x r _ hx hi hr he
  rw [firstE] at he
  have htk : c.men.take (i + 1) = c.men.take i ++ [x] := by rw [List.take_succ, hx]; rfl
  have hE := manF_eq c.slots.length (c.men.take i) x
  have hnl : (namesW (c.men.take i)).length = i := by unfold namesW; simp; omega
  conv=>whnf
  refine brk_i (fun _ => ?_) (fun h => absurd hi (by have := of_decide_eq_false h; simp at this; omega))
  conv=>whnf
  refine elemK_nat hx ?_
  conv=>whnf
  refine CallA_view (ds := [.str x.name, strsD (namesW (c.men.take i))]) (fn91 x.name (namesW (c.men.take i)) (by omega)) rfl 1 (viewL_cons rfl (viewL_cons (viewV_sl rfl (by simp [hnl])) rfl)) ?_
  conv=>whnf
  refine elemK_nat hx ?_
  conv=>whnf
  refine ownK_whole rfl ?_
  conv=>whnf
  refine ownK_whole (by simp [Els.len, hnl]) ?_
  conv=>whnf
  refine chk_i (decide_eq_true (by
   show (((namesW (c.men.take i)).map fun s => [D.str s]).length + 1) * 16 ≤ 140737488355328
   rw [List.length_map]; omega)) ?_
  conv=>whnf
  generalize freshF x.name (namesW (c.men.take i)) = F at hE ⊢
  have hnext : (namesW (c.men.take i)).map (fun s => [D.str s]) ++ [[.str x.name]] = (namesW (c.men.take (i + 1))).map fun s => [.str s] := by
   rw [htk]; simp [namesW]
  have hnl1 : ((namesW (c.men.take i)).map fun s => [D.str s]).length + 1 = i + 1 := by rw [List.length_map, hnl]
  refine brk_i (fun h2 => ?_) (fun h2 => ?_)
  ·have h2 : F = 0 := of_decide_eq_true h2
   subst h2
   simp only [if_true] at hE
   conv=>whnf
   refine elemK_nat hx ?_
   conv=>whnf
   refine CallA_v (ds := [i64 x.kind, i64 0, i64 3]) (wa60 _ 0 3) rfl rfl ?_
   cases h3 : inB x.kind 0 3 with
   | false =>
    rw [h3] at hE
    simp only [Bool.false_eq_true, if_false] at hE
    rw [hE] at he
    conv=>whnf
    rw [he]
    exact RetA_view 0 rfl ⟨⟨rfl, rfl⟩, rfl⟩
   | true =>
    rw [h3] at hE
    simp only [if_true] at hE
    conv=>whnf
    refine elemK_nat hx ?_
    conv=>whnf
    rw [List.length_map]
    refine DrawCall_v (ds := [intsD x.no, i64 c.slots.length]) (wa62 x.no c.slots.length (by omega)) rfl rfl ?_
    generalize ascF c.slots.length (-1) x.no = E at hE ⊢
    conv=>whnf
    refine brk_i (fun h4 => ?_) (fun h4 => ?_)
    ·have h4 : ¬ E = 0 := by simpa using h4
     rw [hE, if_neg h4] at he
     conv=>whnf
     rw [he]
     dsimp only
     rw [if_neg h4]
     exact RetA_view 0 rfl ⟨⟨rfl, rfl⟩, rfl⟩
    ·have h4 : E = 0 := by simpa using h4
     rw [hE, if_pos h4, ← htk] at he
     conv=>whnf
     refine arith_in (wrap_i64 (by (try dsimp only); omega)) ?_
     conv=>whnf
     refine ⟨(), he, Wk.sub ⟨rfl, ?_, rfl, trivial⟩ ⟨rfl, ?_, trivial⟩⟩
     ·show some (V.sl 80 1 0 (((namesW (c.men.take i)).map fun s => [D.str s]).length + 1)) = _
      rw [hnl1]
     ·show some (Obj.arr 1 (Els.dd ((namesW (c.men.take i)).map (fun s => [D.str s]) ++ [[.str x.name]]))) = _
      rw [hnext]
  ·have h2 : ¬ F = 0 := of_decide_eq_false h2
   rw [if_neg h2] at hE
   rw [hE, if_neg h2] at he
   conv=>whnf
   refine brk_i (fun h3 => absurd (of_decide_eq_true h3) h2) (fun _ => ?_)
   conv=>whnf
   refine brk_i (fun _ => ?_) (fun h3 => absurd h3 (by simp [h2]))
   conv=>whnf
   rw [he]
   dsimp only
   rw [if_neg h2]
   exact RetA_view 0 rfl ⟨⟨rfl, rfl⟩, rfl⟩
 ·intro _ he
  rw [List.take_length, firstE] at he
  rw [he]
  conv=>whnf
  refine brk_i (fun h => absurd h (by simp)) (fun _ => ?_)
  conv=>whnf
  exact RetA_view 0 rfl ⟨⟨rfl, rfl⟩, rfl⟩
end Go.PX
namespace Go.PX
open Go.Proofs
end Go.PX
namespace Go.PX
open Go.Proofs
end Go.PX
namespace Go.PX
open Go.Proofs
theorem inSet_all {c : WCase} (hR : WR c) {m : Int} (h : 0 ≤ m ∧ m < c.men.length) : inSet (allMen c) m = true := by
 have hm := hR.men
 obtain ⟨j, rfl⟩ : ∃ j : Nat, m = j := ⟨m.toNat, by omega⟩
 unfold allMen
 generalize hn : c.men.length = n at *
 have h1 : n = 1 ∨ n = 2 ∨ n = 3 ∨ n = 4 ∨ n = 5 := by omega
 have h2 : j = 0 ∨ j = 1 ∨ j = 2 ∨ j = 3 ∨ j = 4 := by omega
 rcases h1 with rfl | rfl | rfl | rfl | rfl <;> rcases h2 with rfl | rfl | rfl | rfl | rfl <;> first | (exact absurd h.2 (by decide)) | decide
end Go.PX
namespace Go.PX
open Go.Proofs
end Go.PX
namespace Go.PX
open Go.Proofs
def startF (p : List Int) : Nat := match p.getLast? with
 | none => 0
 | some x => (x + 1).toNat
def listsF (below : Nat) : Nat → List Int → List (List Int)
 | 0, p => [p]
 | many + 1, p => (List.range' (startF p) (below - startF p)).flatMap fun (i : Nat) => listsF below many (p ++ [(i : Int)])
theorem listsF_many {below : Nat} (hb : below ≤ 5) : ∀ {many : Nat} {p : List Int}, (listsF below many p).length ≤ 5 ^ many
 | 0, p => by simp [listsF]
 | many + 1, p => by
  rw [listsF]
  refine Nat.le_trans (flatMap_len (k := 5 ^ many) fun i _ => listsF_many hb) ?_
  rw [List.length_range', Nat.pow_succ, Nat.mul_comm]
  exact Nat.mul_le_mul_left _ (by omega)
theorem startF_le {below : Nat} {p : List Int} (hp : ∀ x ∈ p, 0 ≤ x ∧ x < below) : startF p ≤ below := by
 unfold startF
 cases h : p.getLast? with
 | none => simp
 | some x =>
  have := hp x (List.mem_of_getLast? h)
  simp only; omega
theorem wa70 (below : Nat) (hb : below ≤ 5) : ∀ (many : Nat), many ≤ 5 → ∀ (p : List Int), (∀ x ∈ p, 0 ≤ x ∧ x < below) → p.length + many ≤ 10 → FnV Try.prog 70 [intsD p, i64 many, i64 below] (rotaD (listsF below many p))
 | 0, _, p, hp, hl => by
  refine fnV_of mixed tysOk Try.func70 rfl (ft := ft70) 3 (by decide +kernel) (by rfl) fun {σ} Y st => ?_
  conv=>whnf
  exact RetA_view 1 rfl ⟨⟨rfl, rfl⟩, rfl⟩
 | many + 1, hm, p, hp, hl => by
  have ih := wa70 below hb many (by omega)
  have hst := startF_le hp
  have h5 : (5 : Nat) ^ many ≤ 625 := Nat.le_trans (Nat.pow_le_pow_right (by omega) (show many ≤ 4 by omega)) (by decide)
  have hall : (listsF below (many + 1) p).length ≤ 5 ^ (many + 1) := listsF_many hb
  have h6 : (5 : Nat) ^ (many + 1) ≤ 3125 := by rw [Nat.pow_succ]; omega
  refine fnV_of mixed tysOk Try.func70 rfl (ft := ft70) 3 (by decide +kernel) (by rfl) fun {σ} Y st => ?_
  conv=>whnf
  have hlm : ((p.map fun n => [i64 n]).length : Int) = p.length := by simp
  generalize hM : listsF below (many + 1) p = M at hall ⊢
  rw [listsF] at hM
  cases hlast : p.getLast? with
  | none =>
   have hpe : p = [] := by simpa using hlast
   have hs0 : startF p = 0 := by unfold startF; rw [hlast]
   rw [hs0] at hM
   refine brk_i (fun h => absurd h (by rw [hpe]; simp)) (fun _ => ?_)
   conv=>whnf
   refine LoopA_p (T := tys) tysOk (by exact drawsB_spec mixed tysOk (by decide +kernel)) (α := Nat × List (List Int)) (fun y => ⟨[(0, .d (intsD p)), (1, .d (i64 (many + 1 : Nat))), (2, .d (i64 below)), (8, .sl 41 1 0 y.2.length), (9, .d (i64 y.1))], [(41, .arr 1 (.dd (y.2.map fun r => [intsD r])))], st⟩)
    (fun y => y.1 ≤ below ∧ M = y.2 ++ (List.range' y.1 (below - y.1)).flatMap fun (i : Nat) => listsF below many (p ++ [(i : Int)])) (fun y => below - y.1) (0, [])
    ((Wk.born 8 41 1 rfl rfl rfl).trans (Wk.sub (by repeat' first|exact trivial|refine⟨?_,?_⟩|rfl|(simp only[List.length_map];rfl)|simp[PX.get]) ⟨(by first | rfl | (simp only [List.length_map]; rfl) | simp [PX.get]), trivial⟩)) ⟨by simp only; omega, hM.symm⟩ ?_
   rintro ⟨i, acc⟩ ⟨hi, he⟩
   simp only at hi he
   conv=>whnf
   refine brk_i (fun h1 => ?_) (fun h1 => ?_)
   ·have h1 : i < below := by have := of_decide_eq_true h1; simp at this; omega
    obtain ⟨k, hk⟩ : ∃ k, below - i = k + 1 := ⟨below - i - 1, by omega⟩
    have hk2 : below - (i + 1) = k := by omega
    rw [hk, List.range'_succ, List.flatMap_cons, ← List.append_assoc] at he
    conv=>whnf
    refine ownK_whole rfl ?_
    conv=>whnf
    refine chk_i (by rw [Bool.and_eq_true]; exact ⟨lenAllD_map (fun _ => ⟨rfl, rfl⟩) p, rfl⟩) ?_
    conv=>whnf
    refine chk_i (decide_eq_true (by
     show (0 + (p.map fun n => [i64 n]).length) * 8 ≤ 140737488355328
     rw [List.length_map]; omega)) ?_
    conv=>whnf
    refine ownK_whole rfl ?_
    conv=>whnf
    refine ownK_whole (by simp [Els.len]) ?_
    conv=>whnf
    refine chk_i (decide_eq_true (by
     show (([] ++ p.map fun n => [i64 n]).length + 1) * 8 ≤ 140737488355328
     simp; omega)) ?_
    conv=>whnf
    refine arith_to ((many : Int)) (by (try dsimp only); omega) (wrap_i64 (by (try dsimp only); omega)) ?_
    conv=>whnf
    have hin : ∀ x ∈ p ++ [(i : Int)], 0 ≤ x ∧ x < below := by
     intro x hx
     rcases List.mem_append.1 hx with hx | hx
     ·exact hp x hx
     ·rw [List.mem_singleton] at hx; subst hx; omega
    refine CallA_fz (ds := [intsD (p ++ [(i : Int)]), i64 many, i64 below]) (ih (p ++ [(i : Int)]) hin (by simp; omega)) 1 [36] ?_ rfl ?_
    ·have hap : ([] ++ (p.map fun n => [i64 n])) ++ [[i64 (i : Int)]] = (p ++ [(i : Int)]).map fun n => [i64 n] := by simp
     refine viewL_cons (viewV_sl' rfl hap ?_) rfl
     show (([] ++ p.map fun n => [i64 n]).length + 1) = _
     simp
    conv=>whnf
    refine ownK_whole (by simp [Els.len]) ?_
    conv=>whnf
    refine chk_i (by rw [Bool.and_eq_true]; exact ⟨lenAllD_map (fun _ => ⟨rfl, rfl⟩) _, rfl⟩) ?_
    conv=>whnf
    have hal : acc.length ≤ 3125 := by
     rw [he] at hall
     simp only [List.length_append] at hall
     omega
    have hll : (listsF below many (p ++ [(i : Int)])).length ≤ 5 ^ many := listsF_many hb
    refine chk_i (decide_eq_true (by
     show ((acc.map fun r => [intsD r]).length + ((listsF below many (p ++ [(i : Int)])).map fun r => [intsD r]).length) * 24 ≤ 140737488355328
     rw [List.length_map, List.length_map]; omega)) ?_
    conv=>whnf
    refine arith_to (((i + 1 : Nat) : Int)) (by (try dsimp only); omega) (wrap_i64 (by (try dsimp only); omega)) ?_
    conv=>whnf
    refine ⟨(i + 1, acc ++ listsF below many (p ++ [(i : Int)])), by simp only; omega, ⟨by simp only; omega, by simp only; rw [hk2]; exact he⟩, Wk.sub ⟨rfl, rfl, rfl, ?_, rfl, trivial⟩ ⟨?_, trivial⟩⟩
    ·show some (V.sl 41 1 0 ((acc.map fun r => [intsD r]).length + ((listsF below many (p ++ [(i : Int)])).map fun r => [intsD r]).length)) = _
     simp
    ·show some (Obj.arr 1 (Els.dd ((acc.map fun r => [intsD r]) ++ (listsF below many (p ++ [(i : Int)])).map fun r => [intsD r]))) = _
     simp
   ·have h1 : ¬ i < below := by have := of_decide_eq_false h1; simp at this; omega
    rw [show below - i = 0 by omega] at he
    have he : M = acc := by simpa using he
    rw [he]
    conv=>whnf
    refine RetA_view 1 (ds := [rotaD acc]) ?_ ⟨⟨rfl, rfl⟩, rfl⟩
    exact viewL_cons (viewV_sl (es := acc.map fun r => [intsD r]) rfl (by simp)) rfl
  | some x =>
   have hx := hp x (List.mem_of_getLast? hlast)
   have hs0 : startF p = (x + 1).toNat := by unfold startF; rw [hlast]
   have hpl : 0 < p.length := by
    cases p with
    | nil => simp at hlast
    | cons _ _ => simp
   have hpx : p[p.length - 1]? = some x := by rw [← List.getLast?_eq_getElem?]; exact hlast
   rw [hs0] at hM hst
   refine brk_i (fun _ => ?_) (fun h => absurd hpl (by have := of_decide_eq_false h; rw [hlm] at this; omega))
   conv=>whnf
   refine arith_to ((p.length - 1 : Nat) : Int) (by simp; omega) (wrap_i64 (by omega)) ?_
   conv=>whnf
   refine elemK_nat hpx ?_
   conv=>whnf
   refine arith_to ((((x + 1).toNat : Nat) : Int)) (by (try dsimp only); omega) (wrap_i64 (by (try dsimp only); omega)) ?_
   conv=>whnf
   refine LoopA_p (T := tys) tysOk (by exact drawsB_spec mixed tysOk (by decide +kernel)) (α := Nat × List (List Int)) (fun y => ⟨[(0, .d (intsD p)), (1, .d (i64 (many + 1 : Nat))), (2, .d (i64 below)), (8, .sl 41 1 0 y.2.length), (9, .d (i64 y.1))], [(41, .arr 1 (.dd (y.2.map fun r => [intsD r])))], st⟩)
    (fun y => y.1 ≤ below ∧ M = y.2 ++ (List.range' y.1 (below - y.1)).flatMap fun (i : Nat) => listsF below many (p ++ [(i : Int)])) (fun y => below - y.1) ((x + 1).toNat, [])
    ((Wk.born 8 41 1 rfl rfl rfl).trans (Wk.sub (by repeat' first|exact trivial|refine⟨?_,?_⟩|rfl|(simp only[List.length_map];rfl)|simp[PX.get]) ⟨(by first | rfl | (simp only [List.length_map]; rfl) | simp [PX.get]), trivial⟩)) ⟨by simp only; omega, hM.symm⟩ ?_
   rintro ⟨i, acc⟩ ⟨hi, he⟩
   simp only at hi he
   conv=>whnf
   refine brk_i (fun h1 => ?_) (fun h1 => ?_)
   ·have h1 : i < below := by have := of_decide_eq_true h1; simp at this; omega
    obtain ⟨k, hk⟩ : ∃ k, below - i = k + 1 := ⟨below - i - 1, by omega⟩
    have hk2 : below - (i + 1) = k := by omega
    rw [hk, List.range'_succ, List.flatMap_cons, ← List.append_assoc] at he
    conv=>whnf
    refine ownK_whole rfl ?_
    conv=>whnf
    refine chk_i (by rw [Bool.and_eq_true]; exact ⟨lenAllD_map (fun _ => ⟨rfl, rfl⟩) p, rfl⟩) ?_
    conv=>whnf
    refine chk_i (decide_eq_true (by
     show (0 + (p.map fun n => [i64 n]).length) * 8 ≤ 140737488355328
     rw [List.length_map]; omega)) ?_
    conv=>whnf
    refine ownK_whole rfl ?_
    conv=>whnf
    refine ownK_whole (by simp [Els.len]) ?_
    conv=>whnf
    refine chk_i (decide_eq_true (by
     show (([] ++ p.map fun n => [i64 n]).length + 1) * 8 ≤ 140737488355328
     simp; omega)) ?_
    conv=>whnf
    refine arith_to ((many : Int)) (by (try dsimp only); omega) (wrap_i64 (by (try dsimp only); omega)) ?_
    conv=>whnf
    have hin : ∀ x ∈ p ++ [(i : Int)], 0 ≤ x ∧ x < below := by
     intro x hx
     rcases List.mem_append.1 hx with hx | hx
     ·exact hp x hx
     ·rw [List.mem_singleton] at hx; subst hx; omega
    refine CallA_fz (ds := [intsD (p ++ [(i : Int)]), i64 many, i64 below]) (ih (p ++ [(i : Int)]) hin (by simp; omega)) 1 [36] ?_ rfl ?_
    ·have hap : ([] ++ (p.map fun n => [i64 n])) ++ [[i64 (i : Int)]] = (p ++ [(i : Int)]).map fun n => [i64 n] := by simp
     refine viewL_cons (viewV_sl' rfl hap ?_) rfl
     show (([] ++ p.map fun n => [i64 n]).length + 1) = _
     simp
    conv=>whnf
    refine ownK_whole (by simp [Els.len]) ?_
    conv=>whnf
    refine chk_i (by rw [Bool.and_eq_true]; exact ⟨lenAllD_map (fun _ => ⟨rfl, rfl⟩) _, rfl⟩) ?_
    conv=>whnf
    have hal : acc.length ≤ 3125 := by
     rw [he] at hall
     simp only [List.length_append] at hall
     omega
    have hll : (listsF below many (p ++ [(i : Int)])).length ≤ 5 ^ many := listsF_many hb
    refine chk_i (decide_eq_true (by
     show ((acc.map fun r => [intsD r]).length + ((listsF below many (p ++ [(i : Int)])).map fun r => [intsD r]).length) * 24 ≤ 140737488355328
     rw [List.length_map, List.length_map]; omega)) ?_
    conv=>whnf
    refine arith_to (((i + 1 : Nat) : Int)) (by (try dsimp only); omega) (wrap_i64 (by (try dsimp only); omega)) ?_
    conv=>whnf
    refine ⟨(i + 1, acc ++ listsF below many (p ++ [(i : Int)])), by simp only; omega, ⟨by simp only; omega, by simp only; rw [hk2]; exact he⟩, Wk.sub ⟨rfl, rfl, rfl, ?_, rfl, trivial⟩ ⟨?_, trivial⟩⟩
    ·show some (V.sl 41 1 0 ((acc.map fun r => [intsD r]).length + ((listsF below many (p ++ [(i : Int)])).map fun r => [intsD r]).length)) = _
     simp
    ·show some (Obj.arr 1 (Els.dd ((acc.map fun r => [intsD r]) ++ (listsF below many (p ++ [(i : Int)])).map fun r => [intsD r]))) = _
     simp
   ·have h1 : ¬ i < below := by have := of_decide_eq_false h1; simp at this; omega
    rw [show below - i = 0 by omega] at he
    have he : M = acc := by simpa using he
    rw [he]
    conv=>whnf
    refine RetA_view 1 (ds := [rotaD acc]) ?_ ⟨⟨rfl, rfl⟩, rfl⟩
    exact viewL_cons (viewV_sl (es := acc.map fun r => [intsD r]) rfl (by simp)) rfl
theorem startF_snoc (p : List Int) (i : Nat) : startF (p ++ [(i : Int)]) = i + 1 := by
 unfold startF
 rw [List.getLast?_append]
 simp only [List.getLast?_singleton, Option.some_or]
 omega
theorem groups_lists {c : WCase} {set : Int} {t : Tired} {s : Slot} : ∀ {left : Nat} {p : List Int} {start : Nat}, startF p = start → groupsL c set t s left p start = ((listsF c.men.length left p).filter fun g => decide ((whyF c set t s g).1 = 0)).map fun g => (g, behindF c t g)
 | 0, p, start, _ => by
  rw [groupsL, listsF, List.filter_cons]
  by_cases h : (whyF c set t s p).1 = 0
  ·rw [if_pos h, if_pos (by simpa using h)]; rfl
  ·rw [if_neg h, if_neg (by simpa using h)]; rfl
 | left + 1, p, start, hs => by
  rw [groupsL, listsF, hs, List.filter_flatMap, List.map_flatMap]
  congr 1
  funext i
  exact groups_lists (startF_snoc p i)
theorem lists_ok {below : Nat} : ∀ {many : Nat} {p : List Int}, (∀ x ∈ p, 0 ≤ x ∧ x < below) → ∀ g ∈ listsF below many p, g.length = p.length + many ∧ ∀ x ∈ g, 0 ≤ x ∧ x < below
 | 0, p, hp, g, hg => by
  rw [listsF, List.mem_singleton] at hg
  subst hg
  exact ⟨rfl, hp⟩
 | many + 1, p, hp, g, hg => by
  rw [listsF, List.mem_flatMap] at hg
  obtain ⟨i, hi, hg⟩ := hg
  rw [List.mem_range'_1] at hi
  have h1 := startF_le hp
  obtain ⟨h2, h3⟩ := lists_ok (many := many) (p := p ++ [(i : Int)]) (fun x hx => by
   rcases List.mem_append.1 hx with hx | hx
   ·exact hp x hx
   ·rw [List.mem_singleton] at hx; subst hx; omega) g hg
  refine ⟨by rw [h2]; simp; omega, h3⟩
end Go.PX
namespace Go.PX
open Go.Proofs
end Go.PX
namespace Go.PX
open Go.Proofs
def aloneC : WCase := { caseC 2 false with men := [adaM, cidM] }
theorem aw1 : badF (caseC 2 false) (rowsL [0, 2, 0]) = (2, 5, 0, 0) := by decide +kernel
theorem aw2 : goodE (caseC 2 false) (rowsL [0, 2, 1, 0]) = 0 ∧ stoodL 3 (rowsL [0, 2, 1, 0]) = [2, 1, 1] := by decide +kernel
theorem aw3 : goodE (caseC 2 false) (rowsL [0]) = 0 ∧ canL (caseC 2 false) (rowsL [0]) = rowsL [1, 2] := by decide +kernel
theorem aw4 : nextL (caseC 2 false) (rowsL [0]) = rowsL [2] := by decide +kernel
theorem aw5 : entE aloneC [] = 0 ∧ lonW aloneC = 2 := by decide +kernel
theorem aw6 : entE (caseC 2 false) [] = 0 ∧ endB (caseC 2 false) (allMen (caseC 2 false)) .zero = true ∧ endlW (caseC 2 false) = (rowsL [0, 2, 1, 0, 2], 2) := by decide +kernel
theorem aw7 : entE (caseC 1 false) [] = 0 ∧ fewL (caseC 1 false) = [0, 1] := by decide +kernel
theorem aw8 : needL (caseC 2 false) = [0, 1, 2] := by decide +kernel
theorem aw9 : fillE (caseC 2 false) [[], [2], []] = 0 ∧ fillL (caseC 2 false) [[], [2], []] = rowsL [0, 2, 1] := by decide +kernel
theorem aw10 : missE (caseC 2 false) (rowsL [0, 2, 1, 0]) 3 = 0 ∧ missL (caseC 2 false) (rowsL [0, 2, 1, 0]) 3 = [1, 2] := by decide +kernel
theorem aw11 : goodE (caseC 2 false) (rowsL [0, 0]) = 9 := by decide +kernel
theorem kr (l : List Int) (x : Int) (r : List Int) (h : l = x :: r) (hl : l.length ≤ 1000) : FnV Try.prog 42 [intsD l] (rotaD (rowsL l)) := by
 subst h
 exact wa42 _ hl
theorem k17 : FnV Try.prog 17 [(caseC 2 false).d, rotaD (rowsL [0, 2, 0])] (.tup [i64 2, i64 5, i64 0, i64 0]) :=
 FnV.cast (wa17 _ _) (by rw [aw1])
theorem k19 : FnV Try.prog 19 [(caseC 2 false).d, rotaD (rowsL [0, 2, 1, 0])] (.tup [intsD [2, 1, 1], i64 0]) :=
 FnV.cast (wa19 _ _) (by rw [aw2.1, if_pos rfl, show (caseC 2 false).men.length = 3 from rfl, aw2.2])
theorem k22 : FnV Try.prog 22 [(caseC 2 false).d, rotaD (rowsL [0])] (.tup [rotaD (rowsL [1, 2]), i64 0]) :=
 FnV.cast (wa22 _ _) (by rw [aw3.1, if_pos rfl, aw3.2]; rfl)
theorem k25 : FnV Try.prog 25 [(caseC 2 false).d, rotaD (rowsL [0])] (.tup [rotaD (rowsL [2]), i64 0]) :=
 FnV.cast (wa25 _ _) (by rw [aw3.1, if_pos rfl, aw4]; rfl)
theorem k28 : FnV Try.prog 28 [aloneC.d] (.tup [i64 2, i64 0]) :=
 FnV.cast (wa28 _) (by rw [aw5.1, if_pos rfl, aw5.2])
theorem k30 : FnV Try.prog 30 [(caseC 2 false).d] (.tup [rotaD (rowsL [0, 2, 1, 0, 2]), i64 2, i64 0]) :=
 FnV.cast (wa30 _) (by rw [aw6.1, aw6.2.1, aw6.2.2]; rfl)
theorem k32 : FnV Try.prog 32 [(caseC 1 false).d] (.tup [intsD [0, 1], i64 0]) :=
 FnV.cast (wa32 _) (by rw [aw7.1, aw7.2]; rfl)
theorem k34 : FnV Try.prog 34 [(caseC 2 false).d] (.tup [intsD [0, 1, 2], i64 0]) :=
 FnV.cast (wa34 _) (by rw [aw6.1, aw6.2.1, aw8]; rfl)
theorem k36 : FnV Try.prog 36 [(caseC 2 false).d, rotaD [[], [2], []]] (.tup [rotaD (rowsL [0, 2, 1]), i64 0]) :=
 FnV.cast (wa36 _ _) (by rw [aw9.1, aw9.2]; rfl)
theorem k38 : FnV Try.prog 38 [(caseC 2 false).d, rotaD (rowsL [0, 2, 1, 0]), i64 3] (.tup [intsD [1, 2], i64 0]) :=
 FnV.cast (wa38 _ _ _) (by rw [aw10.1, aw10.2]; rfl)
theorem k22b : FnV Try.prog 22 [(caseC 2 false).d, rotaD (rowsL [0, 0])] (.tup [.nils, i64 9]) :=
 FnV.cast (wa22 _ _) (by rw [aw11]; rfl)
theorem wa27 : FnV Try.prog 27 [] (.bool true) := by
 refine fnV_of mixed tysOk Try.func27 rfl (ft := ft27) 0 (by decide +kernel) (by rfl) fun {σ} Y st => ?_
 conv=>whnf
 refine CallA_v (ds := [i64 2, .bool false]) (wa40 2 false) rfl rfl ?_
 conv=>whnf
 refine CallA_v (ds := [i64 2, .bool false]) (wa40 2 false) rfl rfl ?_
 conv=>whnf
 refine DrawCall_fz (ds := [intsD [0, 2, 0]]) (kr [0, 2, 0] _ _ rfl (by simp)) 1 rfl rfl ?_
 conv=>whnf
 refine DrawCall_v (ds := [(caseC 2 false).d, rotaD (rowsL [0, 2, 0])]) k17 rfl rfl ?_
 conv=>whnf
 refine DrawCall_fz (ds := [intsD [0, 2, 1, 0]]) (kr [0, 2, 1, 0] _ _ rfl (by simp)) 1 rfl rfl ?_
 conv=>whnf
 refine DrawCall_v (ds := [(caseC 2 false).d, rotaD (rowsL [0, 2, 1, 0])]) k19 rfl rfl ?_
 conv=>whnf
 refine DrawCall_fz (ds := [intsD [0]]) (kr [0] _ _ rfl (by simp)) 1 rfl rfl ?_
 conv=>whnf
 refine DrawCall_v (ds := [(caseC 2 false).d, rotaD (rowsL [0])]) k22 rfl rfl ?_
 conv=>whnf
 refine DrawCall_fz (ds := [intsD [0]]) (kr [0] _ _ rfl (by simp)) 1 rfl rfl ?_
 conv=>whnf
 refine DrawCall_v (ds := [(caseC 2 false).d, rotaD (rowsL [0])]) k25 rfl rfl ?_
 conv=>whnf
 refine CallA_view (ds := [aloneC.d]) k28 rfl 2 rfl ?_
 conv=>whnf
 refine CallA_v (ds := [(caseC 2 false).d]) k30 rfl rfl ?_
 conv=>whnf
 refine CallA_v (ds := [i64 1, .bool false]) (wa40 1 false) rfl rfl ?_
 conv=>whnf
 refine CallA_v (ds := [(caseC 1 false).d]) k32 rfl rfl ?_
 conv=>whnf
 refine CallA_v (ds := [(caseC 2 false).d]) k34 rfl rfl ?_
 conv=>whnf
 refine CallA_frz 2 [93, 94] ?_
 refine CallA_rep (args' := [.d (caseC 2 false).d, .d (rotaD [[], [2], []])]) (fun yv L F w l h => by
  obtain ⟨x1, l1, rfl, h1, x2, l2, rfl, h2, h3⟩ := h
  exact ⟨x1, _, rfl, h1, x2, _, rfl, RepD.relax (.vs [[.nils], [intsD [2]], [.nils]]) x2 h2, h3⟩) ?_
 refine CallA_v (ds := [(caseC 2 false).d, rotaD [[], [2], []]]) k36 rfl rfl ?_
 conv=>whnf
 refine DrawCall_fz (ds := [intsD [0, 2, 1, 0]]) (kr [0, 2, 1, 0] _ _ rfl (by simp)) 1 rfl rfl ?_
 conv=>whnf
 refine DrawCall_v (ds := [(caseC 2 false).d, rotaD (rowsL [0, 2, 1, 0]), i64 3]) k38 rfl rfl ?_
 conv=>whnf
 refine DrawCall_fz (ds := [intsD [0, 0]]) (kr [0, 0] _ _ rfl (by simp)) 1 rfl rfl ?_
 conv=>whnf
 refine DrawCall_v (ds := [(caseC 2 false).d, rotaD (rowsL [0, 0])]) k22b rfl rfl ?_
 conv=>whnf
 refine CallA_view (ds := [intsD [2, 1, 1], intsD [2, 1, 1]]) (fn19 [2, 1, 1] [2, 1, 1] (by simp)) rfl 1 rfl ?_
 conv=>whnf
 refine CallA_fz (ds := [intsD [1, 2]]) (kr [1, 2] _ _ rfl (by simp)) 1 [173] rfl rfl ?_
 conv=>whnf
 refine CallA_v (ds := [rotaD (rowsL [1, 2]), rotaD (rowsL [1, 2])]) (wa24 (rowsL [1, 2]) (rowsL [1, 2]) (by decide) (by decide)) rfl rfl ?_
 conv=>whnf
 refine CallA_fz (ds := [intsD [2]]) (kr [2] _ _ rfl (by simp)) 1 [179] rfl rfl ?_
 conv=>whnf
 refine CallA_v (ds := [rotaD (rowsL [2]), rotaD (rowsL [2])]) (wa24 (rowsL [2]) (rowsL [2]) (by decide) (by decide)) rfl rfl ?_
 conv=>whnf
 refine CallA_fz (ds := [intsD [0, 2, 1, 0, 2]]) (kr [0, 2, 1, 0, 2] _ _ rfl (by simp)) 1 [189] rfl rfl ?_
 conv=>whnf
 refine CallA_v (ds := [rotaD (rowsL [0, 2, 1, 0, 2]), rotaD (rowsL [0, 2, 1, 0, 2])]) (wa24 (rowsL [0, 2, 1, 0, 2]) (rowsL [0, 2, 1, 0, 2]) (by decide) (by decide)) rfl rfl ?_
 conv=>whnf
 refine CallA_view (ds := [intsD [0, 1], intsD [0, 1]]) (fn19 [0, 1] [0, 1] (by simp)) rfl 1 rfl ?_
 conv=>whnf
 refine CallA_view (ds := [intsD [0, 1, 2], intsD [0, 1, 2]]) (fn19 [0, 1, 2] [0, 1, 2] (by simp)) rfl 1 rfl ?_
 conv=>whnf
 refine CallA_fz (ds := [intsD [0, 2, 1]]) (kr [0, 2, 1] _ _ rfl (by simp)) 1 [209] rfl rfl ?_
 conv=>whnf
 refine CallA_v (ds := [rotaD (rowsL [0, 2, 1]), rotaD (rowsL [0, 2, 1])]) (wa24 (rowsL [0, 2, 1]) (rowsL [0, 2, 1]) (by decide) (by decide)) rfl rfl ?_
 conv=>whnf
 refine CallA_view (ds := [intsD [1, 2], intsD [1, 2]]) (fn19 [1, 2] [1, 2] (by simp)) rfl 1 rfl ?_
 conv=>whnf
 exact RetA_view 0 rfl ⟨⟨rfl, rfl⟩, rfl⟩
end Go.PX
namespace Go.PX
open Go.Proofs
theorem ent_nil (c : WCase) : entE c [] = (checkW c).2.2 := by
 unfold entE
 split
 ·rename_i h; rw [h]; rfl
 ·rfl
def endT (c : WCase) (rota : List (List Int)) : Tired := (walkF c (allMen c) .zero rota 0).2
def goodW (c : WCase) (rota : List (List Int)) : Prop := (walkF c (allMen c) .zero rota 0).1.1 = -1
theorem walk_append {c : WCase} {set : Int} : ∀ {l1 l2 : List (List Int)} {t : Tired} {i : Int}, 0 ≤ i → (walkF c set t l1 i).1.1 = -1 → walkF c set t (l1 ++ l2) i = walkF c set (walkF c set t l1 i).2 l2 (i + l1.length)
 | [], l2, t, i, _, _ => by simp [walkF]
 | r :: l1, l2, t, i, hi, h => by
  rw [walkF] at h
  rw [List.cons_append, walkF, walkF]
  split
  ·rename_i h1
   rw [if_pos h1] at h
   rw [walk_append (by omega) h]
   congr 1
   simp; omega
  ·rename_i h1
   rw [if_neg h1] at h
   simp only at h
   omega
theorem walk_shift {c : WCase} {set : Int} : ∀ {l : List (List Int)} {t : Tired} {i j : Int}, 0 ≤ i → 0 ≤ j → ((walkF c set t l i).1.1 = -1 ↔ (walkF c set t l j).1.1 = -1) ∧ (walkF c set t l i).2 = (walkF c set t l j).2
 | [], t, i, j, _, _ => by simp [walkF]
 | r :: l, t, i, j, hi, hj => by
  rw [walkF, walkF]
  split
  ·exact walk_shift (by omega) (by omega)
  ·exact ⟨⟨fun h => by simp only at h; omega, fun h => by simp only at h; omega⟩, rfl⟩
theorem walk_app_iff {c : WCase} {set : Int} {l1 l2 : List (List Int)} {t : Tired} (h : (walkF c set t l1 0).1.1 = -1) : ((walkF c set t (l1 ++ l2) 0).1.1 = -1 ↔ (walkF c set (walkF c set t l1 0).2 l2 0).1.1 = -1) ∧ (walkF c set t (l1 ++ l2) 0).2 = (walkF c set (walkF c set t l1 0).2 l2 0).2 := by
 rw [walk_append (Int.le_refl 0) h]
 exact walk_shift (by omega) (Int.le_refl 0)
theorem group_why {c : WCase} {set : Int} {t : Tired} {x : List Int × Tired} (h : x ∈ groupsF c set t) : (whyT c set t x.1).1 = 0 ∧ x.2 = behindF c t x.1 := groupsL_ok h
theorem group_in {c : WCase} {set : Int} {t : Tired} {x : List Int × Tired} (h : x ∈ groupsF c set t) : RowIn c x.1 := by
 unfold groupsF at h
 rw [groups_lists (p := []) (start := 0) rfl, List.mem_map] at h
 obtain ⟨g, hg, rfl⟩ := h
 exact (lists_ok (p := []) (fun x hx => by cases hx) g (List.mem_filter.1 hg).1).2
structure EndlOk (c : WCase) (r : List (List Int) × Int) : Prop where
 good : goodW c r.1
 frm : 0 ≤ r.2 ∧ r.2 < r.1.length
 same : endT c (r.1.take r.2.toNat) = endT c r.1
 rows : ∀ x ∈ r.1, RowIn c x ∧ x.length ≤ 2
 len : r.1.length ≤ fuelW
theorem endl_ok {c : WCase} (hR : WR c) : ∀ (n : Nat) (seen : Kn) (rota : List (List Int)) (t : Tired), InU c t → endB c (allMen c) t = true → cntN c seen < n → goodW c rota → endT c rota = t →
  (∀ u i, getK seen u = some i → (0 ≤ i ∧ i < rota.length) ∧ endT c (rota.take i.toNat) = u) → (∀ x ∈ rota, RowIn c x ∧ x.length ≤ 2) → rota.length + cntN c seen ≤ fuelW → EndlOk c (endlF c n seen rota t)
 | 0, _, _, _, _, _, h, _, _, _, _, _ => by omega
 | n + 1, seen, rota, t, ht, ha, hn, hg, he, hs, hr, hl => by
  rw [endlF]
  cases hk : getK seen t with
  | some i =>
   obtain ⟨h1, h2⟩ := hs t i hk
   exact ⟨hg, h1, by rw [h2, he], hr, by simp only; omega⟩
  | none =>
   obtain ⟨⟨g, u⟩, hf⟩ := first_some hR ht ha
   rw [hf]
   simp only
   have hp0 : (g, u) ∈ groupsF c (allMen c) t := List.mem_of_find?_eq_some hf
   have ha0 : endB c (allMen c) u = true := by have := List.find?_some hf; exact this
   obtain ⟨hw, hu⟩ := group_why hp0
   have hc := cntN_put ht hk rota.length
   have hlen := groups_len hR hp0
   obtain ⟨a1, a2⟩ := walk_app_iff (l2 := [g]) hg
   have hst : (walkF c (allMen c) (walkF c (allMen c) .zero rota 0).2 [g] 0) = ((-1, 0, 0), u) := by
    have he' : (walkF c (allMen c) .zero rota 0).2 = t := he
    rw [he', walkF, if_pos hw, walkF, ← hu]
   rw [hst] at a1 a2
   refine endl_ok hR n _ _ u (groups_InU hR ht hp0) ha0 (by omega) (a1.2 rfl) a2 (fun v i hv => ?_) (fun x hx => ?_) (by simp; omega)
   ·rw [get_put_kn] at hv
    split at hv
    ·rename_i e
     cases hv
     subst e
     refine ⟨by simp; omega, ?_⟩
     simp only [Int.toNat_natCast, List.take_left']
     exact he
    ·obtain ⟨h1, h2⟩ := hs v i hv
     refine ⟨by simp; omega, ?_⟩
     rw [List.take_append_of_le_length (by omega)]
     exact h2
   ·rcases List.mem_append.1 hx with hx | hx
    ·exact hr x hx
    ·rw [List.mem_singleton] at hx
     subst hx
     exact ⟨group_in hp0, hlen⟩
theorem endlW_ok {c : WCase} (hR : WR c) (h : endB c (allMen c) .zero = true) : EndlOk c (endlW c) := by
 have h1 : cntN c [] ≤ (univ c).length := List.length_filter_le ..
 have := univ_fuel hR
 exact endl_ok hR (fuelW + 1) [] [] .zero (InU.zero hR) h (by omega) rfl rfl (fun u i h => by cases h) (fun x hx => by cases hx) (by simp; omega)
end Go.PX
namespace Go.PX
open Go.Proofs
theorem asc_snoc {many : Int} : ∀ {l : List Int} {last i : Int}, ascF many last l = 0 → (l.getLast?).getD last < i → 0 ≤ i → i < many → ascF many last (l ++ [i]) = 0
 | [], last, i, _, h, h0, h1 => by
  have h : last < i := by simpa using h
  have hb : inB i 0 (many - 1) = true := by rw [inB_iff]; omega
  simp only [List.nil_append, ascF, hb, if_true]
  rw [if_neg (by omega)]
 | x :: l, last, i, h, hi, h0, h1 => by
  rw [ascF] at h
  rw [List.cons_append, ascF]
  split at h
  case isFalse => cases h
  rename_i hb
  split at h
  ·cases h
  rename_i hx
  rw [if_pos hb, if_neg hx]
  refine asc_snoc h ?_ h0 h1
  rw [List.getLast?_cons] at hi
  simpa using hi
theorem lists_asc {below : Nat} : ∀ {many : Nat} {p : List Int}, (∀ x ∈ p, 0 ≤ x ∧ x < below) → ascF below (-1) p = 0 → ∀ g ∈ listsF below many p, ascF below (-1) g = 0
 | 0, p, _, ha, g, hg => by
  rw [listsF, List.mem_singleton] at hg
  subst hg; exact ha
 | many + 1, p, hp, ha, g, hg => by
  rw [listsF, List.mem_flatMap] at hg
  obtain ⟨i, hi, hg⟩ := hg
  rw [List.mem_range'_1] at hi
  have h1 := startF_le hp
  refine lists_asc (many := many) (p := p ++ [(i : Int)]) (fun x hx => ?_) (asc_snoc ha ?_ (by omega) (by omega)) g hg
  ·rcases List.mem_append.1 hx with hx | hx
   ·exact hp x hx
   ·rw [List.mem_singleton] at hx; subst hx; omega
  ·unfold startF at hi
   cases h : p.getLast? with
   | none => rw [h] at hi; simp only [Option.getD_none]; omega
   | some y => rw [h] at hi; simp only [Option.getD_some] at hi ⊢; omega
theorem lists_mem {below : Nat} : ∀ {r p : List Int}, ascF below ((startF p : Int) - 1) r = 0 → p ++ r ∈ listsF below r.length p
 | [], p, _ => by simp [listsF]
 | i :: r, p, h => by
  rw [ascF] at h
  split at h
  case isFalse => cases h
  rename_i hb
  split at h
  ·cases h
  rename_i hx
  rw [inB_iff] at hb
  rw [List.length_cons, listsF, List.mem_flatMap]
  obtain ⟨k, rfl⟩ : ∃ k : Nat, i = k := ⟨i.toNat, by omega⟩
  refine ⟨k, ?_, ?_⟩
  ·rw [List.mem_range'_1]; omega
  ·have h2 := lists_mem (r := r) (p := p ++ [(k : Int)]) (by
    rw [startF_snoc, show (((k + 1 : Nat) : Int) - 1) = (k : Int) by omega]; exact h)
   simpa using h2
theorem group_mem {c : WCase} {set : Int} {t : Tired} {g : List Int} (ha : ascF c.men.length (-1) g = 0) (hm : (slotAt c t).men.toNat = g.length) (hw : (whyT c set t g).1 = 0) : (g, behindF c t g) ∈ groupsF c set t := by
 unfold groupsF
 rw [groups_lists (p := []) (start := 0) rfl, List.mem_map]
 refine ⟨g, List.mem_filter.2 ⟨?_, by simpa [whyT] using hw⟩, rfl⟩
 rw [hm]
 have := lists_mem (below := c.men.length) (r := g) (p := []) (by simpa [startF] using ha)
 simpa using this
theorem why_men {c : WCase} {set : Int} {t : Tired} {g : List Int} (hw : (whyT c set t g).1 = 0) : (slotAt c t).men.toNat = g.length := by
 unfold whyT whyF at hw
 split at hw
 ·simp at hw
 ·rename_i h
  have h : (g.length : Int) = (slotAt c t).men := by simpa using h
  omega
theorem group_mem' {c : WCase} {set : Int} {t : Tired} {g : List Int} (ha : ascF c.men.length (-1) g = 0) (hw : (whyT c set t g).1 = 0) : (g, behindF c t g) ∈ groupsF c set t := group_mem ha (why_men hw) hw
theorem group_asc {c : WCase} {set : Int} {t : Tired} {x : List Int × Tired} (h : x ∈ groupsF c set t) : ascF c.men.length (-1) x.1 = 0 := by
 unfold groupsF at h
 rw [groups_lists (p := []) (start := 0) rfl, List.mem_map] at h
 obtain ⟨g, hg, rfl⟩ := h
 exact lists_asc (p := []) (fun x hx => by cases hx) rfl g (List.mem_filter.1 hg).1
theorem max_le {f : Tired → Int} : ∀ {l : List Tired} {y : Int} {u : Tired}, u ∈ l → 1 + f u ≤ l.foldl (fun x u => max x (1 + f u)) y := by
 have hmono : ∀ (l : List Tired) (y : Int), y ≤ l.foldl (fun x u => max x (1 + f u)) y := by
  intro l
  induction l with
  | nil => exact fun y => Int.le_refl y
  | cons a r ih => intro y; rw [List.foldl_cons]; have := ih (max y (1 + f a)); omega
 intro l
 induction l with
 | nil => intro y u h; cases h
 | cons a r ih =>
  intro y u h
  rw [List.foldl_cons]
  rcases List.mem_cons.1 h with rfl | h
  ·have := hmono r (max y (1 + f u)); omega
  ·exact ih h
theorem lon_dead {c : WCase} (hR : WR c) (h : endB c (allMen c) .zero = false) : lonW c = hgtN c (allMen c) fuelW .zero := by
 have hlv := (lonF_val (c := c) (set := allMen c) (n := fuelW) (fa := []) (t := .zero) (by decide) (dead_fuel hR (InU.zero hR) h) (fun t v h => by cases h)).1
 unfold lonW; rw [h]; exact hlv
theorem lon_bd {c : WCase} (hR : WR c) : -1 ≤ lonW c ∧ lonW c ≤ 46656 ∧ (lonW c = -1 ↔ endB c (allMen c) .zero = true) := by
 cases h : endB c (allMen c) .zero with
 | true => unfold lonW; rw [h]; simp
 | false =>
  rw [lon_dead hR h]
  have := hgt_bd (c := c) (set := allMen c) fuelW .zero
  have h2 : (fuelW : Int) = 46656 := rfl
  exact ⟨by omega, by omega, by constructor <;> intro h <;> first | omega | cases h⟩
end Go.PX
namespace Go.PX
open Go.Proofs
end Go.PX
namespace Go.PX
open Go.Proofs
theorem why_of {c : WCase} {set : Int} {t : Tired} {s : Slot} {p : List Int} (h1 : (p.length : Int) = s.men) (h2 : ∃ m ∈ p, (manAt c m).kind ≥ s.least) (h3 : ∀ m ∈ p, inSet set m = true ∧ t.slot ∉ (manAt c m).no) (h4 : ∀ m ∈ p, t.get m.toNat < c.run) (h5 : ∀ m ∈ p, 0 ≤ t.get m.toNat) : (whyF c set t s p).1 = 0 := by
 unfold whyF
 rw [if_neg (by simpa using h1)]
 have e2 : (p.any fun m => decide ((manAt c m).kind ≥ s.least)) = true := by
  obtain ⟨m, hm, hk⟩ := h2
  exact List.any_eq_true.2 ⟨m, hm, decide_eq_true hk⟩
 rw [e2, if_neg (by simp)]
 have e3 : p.find? (fun m => !inSet set m || decide (t.slot ∈ (manAt c m).no)) = none := List.find?_eq_none.2 fun m hm => by
  obtain ⟨a, b⟩ := h3 m hm
  simp [a, b]
 have e4 : p.find? (fun m => decide (t.get m.toNat ≥ c.run)) = none := List.find?_eq_none.2 fun m hm => by
  have := h4 m hm
  simp; omega
 have e5 : p.find? (fun m => decide (t.get m.toNat < 0)) = none := List.find?_eq_none.2 fun m hm => by
  have := h5 m hm
  simp; omega
 rw [e3, e4, e5]
theorem sim_dead {c c' : WCase} {set set' : Int} (R : Tired → Tired → Prop) (hs : ∀ t t', R t t' → ∀ u ∈ succF c set t, ∃ u' ∈ succF c' set' t', R u u') : ∀ (n : Nat) (t t' : Tired), R t t' → deadN c' set' n t' → deadN c set n t ∧ hgtN c set n t ≤ hgtN c' set' n t'
 | 0, t, t', _, h => h.elim
 | n + 1, t, t', hr, h => by
  refine ⟨fun u hu => ?_, ?_⟩
  ·obtain ⟨u', hu', hr'⟩ := hs t t' hr u hu
   exact (sim_dead R hs n u u' hr' (h u' hu')).1
  ·rw [hgtN]
   refine (foldl_max_bd (by omega) (hgt_bd (c := c') (set := set') (n + 1) t').1 fun u hu => ?_).2
   obtain ⟨u', hu', hr'⟩ := hs t t' hr u hu
   have h1 := (sim_dead R hs n u u' hr' (h u' hu')).2
   have h2 := max_le (f := fun u => hgtN c' set' n u) (y := 0) hu'
   rw [hgtN]
   omega
theorem sim_alive {c c' : WCase} {set set' : Int} (R : Tired → Tired → Prop) (hs : ∀ t t', R t t' → ∀ u ∈ succF c set t, ∃ u' ∈ succF c' set' t', R u u') {t t' : Tired} (hr : R t t') (h : alive c set t) : alive c' set' t' :=
 fun n hd => h n (sim_dead R hs n t t' hr hd).1
def SameRows (c c' : WCase) (set set' : Int) (R : Tired → Tired → Prop) : Prop :=
 ∀ t t' g, R t t' → ascF c.men.length (-1) g = 0 → (whyT c set t g).1 = 0 → ascF c'.men.length (-1) g = 0 ∧ (whyT c' set' t' g).1 = 0 ∧ R (behindF c t g) (behindF c' t' g)
theorem SameRows.group {c c' : WCase} {set set' : Int} {R : Tired → Tired → Prop} (h : SameRows c c' set set' R) {t t' : Tired} (hr : R t t') {x : List Int × Tired} (hx : x ∈ groupsF c set t) : (x.1, behindF c' t' x.1) ∈ groupsF c' set' t' ∧ R x.2 (behindF c' t' x.1) := by
 obtain ⟨hw, hu⟩ := group_why hx
 obtain ⟨h1, h2, h3⟩ := h t t' x.1 hr (group_asc hx) hw
 rw [hu]
 exact ⟨group_mem' h1 h2, h3⟩
theorem SameRows.succ {c c' : WCase} {set set' : Int} {R : Tired → Tired → Prop} (h : SameRows c c' set set' R) : ∀ t t', R t t' → ∀ u ∈ succF c set t, ∃ u' ∈ succF c' set' t', R u u' := by
 intro t t' hr u hu
 obtain ⟨x, hx, rfl⟩ := List.mem_map.1 hu
 obtain ⟨h1, h2⟩ := h.group hr hx
 exact ⟨_, List.mem_map.2 ⟨_, h1, rfl⟩, h2⟩
end Go.PX
namespace Go.PX
open Go.Proofs
theorem relax_ints (r : List Int) : relax (intsD r) = intsD r := by
 show D.vs (relaxE (r.map fun n => [i64 n])) = _
 congr 1
 induction r with
 | nil => rfl
 | cons x r ih =>
  show relaxL [i64 x] :: relaxE (r.map fun n => [i64 n]) = _
  rw [ih]; rfl
theorem relax_rota (l : List (List Int)) : relax (rotaD l) = rotaD l := by
 show D.vs (relaxE (l.map fun r => [intsD r])) = _
 congr 1
 induction l with
 | nil => rfl
 | cons x r ih =>
  show relaxL [intsD x] :: relaxE (r.map fun r => [intsD r]) = _
  rw [ih]
  show [relax (intsD x)] :: _ = _
  rw [relax_ints]; rfl
end Go.PX
namespace Go.PX
open Go.Proofs Go.RowKit Go.ChangeShapes
section
variable (W : World)
end
end Go.PX
namespace Go.PX
open Go.Proofs
theorem laid (W : World) : Laid Try.prog W := by
 have h1 : Try.prog.globalNamed "internal/strconv.uint64pow10" = none := by kernel_rfl
 have h2 : Try.prog.globalNamed "internal/bytealg.MaxLen" = none := by kernel_rfl
 have h3 : Try.prog.globalNamed "strconv.ErrSyntax" = none := by kernel_rfl
 have h4 : Try.prog.globalNamed "strconv.ErrRange" = none := by kernel_rfl
 exact ⟨fun g h => (by rw [h1] at h; cases h), fun g h => (by rw [h2] at h; cases h), fun g h => (by rw [h3] at h; cases h), fun g h => (by rw [h4] at h; cases h)⟩
end Go.PX
namespace Go.PX
open Go.Proofs
theorem inSet_but {c : WCase} (hR : WR c) {j : Nat} (hj : j < c.men.length) {m : Int} (h : 0 ≤ m ∧ m < c.men.length) : inSet (butSet c j) m = decide (m ≠ j) := by
 have hm := hR.men
 obtain ⟨k, rfl⟩ : ∃ k : Nat, m = k := ⟨m.toNat, by omega⟩
 unfold butSet allMen
 generalize hn : c.men.length = n at *
 have h1 : n = 1 ∨ n = 2 ∨ n = 3 ∨ n = 4 ∨ n = 5 := by omega
 have h2 : j = 0 ∨ j = 1 ∨ j = 2 ∨ j = 3 ∨ j = 4 := by omega
 have h3 : k = 0 ∨ k = 1 ∨ k = 2 ∨ k = 3 ∨ k = 4 := by omega
 rcases h1 with rfl | rfl | rfl | rfl | rfl <;> rcases h2 with rfl | rfl | rfl | rfl | rfl <;> first
  | (exact absurd hj (by decide))
  | (rcases h3 with rfl | rfl | rfl | rfl | rfl <;> first | (exact absurd h.2 (by decide)) | decide)
end Go.PX
namespace Go.PX.KN
def atL (B : List (List Nat)) (i : Nat) : List Nat := (B[i]?).getD []
def atI (l : List Int) (i : Nat) : Int := (l[i]?).getD 0
def addB (bf : List (List Nat)) (j i : Nat) : List (List Nat) := bf.set j (atL bf j ++ [i])
def addBs (i : Nat) : List Nat → List (List Nat) → List (List Nat)
 | [], bf => bf
 | j :: r, bf => addBs i r (addB bf j i)
def befF : Nat → List (List Nat) → List (List Nat) → List (List Nat)
 | _, [], bf => bf
 | i, l :: r, bf => befF (i + 1) r (addBs i l bf)
structure KS where
 left : List Int
 line : List Nat
def lessK (s : KS) (j : Nat) : KS := ⟨s.left.set j (atI s.left j - 1), if atI s.left j - 1 = 0 then s.line ++ [j] else s.line⟩
def highF (H : List Int) (l : List Nat) : Int := l.foldl (fun h j => max h (atI H j + 1)) 0
def loopK (B bf : List (List Nat)) : Nat → Nat → List Int → KS → List Int
 | 0, _, H, _ => H
 | f + 1, p, H, s => match s.line[p]? with
  | none => H
  | some i => loopK B bf f (p + 1) (H.set i (highF H (atL B i))) ((atL bf i).foldl lessK s)
theorem atI_set {l : List Int} {i j : Nat} {x : Int} (hi : i < l.length) : atI (l.set i x) j = if i = j then x else atI l j := by
 unfold atI
 rw [List.getElem?_set]
 split
 ·rename_i h
  subst h
  simp [hi]
 ·rfl
theorem atL_set {l : List (List Nat)} {i j : Nat} {x : List Nat} (hi : i < l.length) : atL (l.set i x) j = if i = j then x else atL l j := by
 unfold atL
 rw [List.getElem?_set]
 split
 ·rename_i h
  subst h
  simp [hi]
 ·rfl
theorem addBs_len (i : Nat) : ∀ (l : List Nat) (bf : List (List Nat)), (addBs i l bf).length = bf.length
 | [], bf => rfl
 | j :: r, bf => by rw [addBs, addBs_len i r]; simp [addB]
theorem addBs_count (i j u : Nat) : ∀ (l : List Nat) (bf : List (List Nat)), (∀ v ∈ l, v < bf.length) → (atL (addBs i l bf) j).count u = (atL bf j).count u + if u = i then l.count j else 0
 | [], bf, _ => by simp [addBs]
 | v :: r, bf, h => by
  have hv := h v (by simp)
  rw [addBs, addBs_count i j u r (addB bf v i) (fun w hw => by simp only [addB, List.length_set]; exact h w (by simp [hw]))]
  have e : atL (addB bf v i) j = if v = j then atL bf j ++ [i] else atL bf j := by
   unfold addB
   rw [atL_set hv]
   split
   ·rename_i e; subst e; rfl
   ·rfl
  rw [e, List.count_cons]
  by_cases h1 : v = j
  ·subst h1
   rw [if_pos rfl, List.count_append]
   by_cases h2 : u = i
   ·subst h2; simp; omega
   ·have h3 : List.count u [i] = 0 := List.count_eq_zero.2 (by simpa using h2)
    rw [h3]; simp [h2]
  ·rw [if_neg h1]
   simp [h1]
theorem befF_count (j u : Nat) : ∀ (r : List (List Nat)) (i : Nat) (bf : List (List Nat)), (∀ l ∈ r, ∀ v ∈ l, v < bf.length) → (atL (befF i r bf) j).count u = (atL bf j).count u + if i ≤ u then (atL r (u - i)).count j else 0
 | [], i, bf, _ => by simp [befF, atL]
 | l :: r, i, bf, h => by
  rw [befF, befF_count j u r (i + 1) (addBs i l bf) (fun m hm v hv => by rw [addBs_len]; exact h m (by simp [hm]) v hv), addBs_count i j u l bf (h l (by simp))]
  by_cases h1 : u = i
  ·subst h1
   rw [if_pos rfl, if_neg (by omega), if_pos (Nat.le_refl _), Nat.sub_self]
   simp [atL]
  ·by_cases h2 : i + 1 ≤ u
   ·rw [if_neg h1, if_pos h2, if_pos (by omega)]
    have e : atL (l :: r) (u - i) = atL r (u - (i + 1)) := by
     unfold atL
     rw [show u - i = (u - (i + 1)) + 1 by omega, List.getElem?_cons_succ]
    rw [e]; omega
   ·rw [if_neg h1, if_neg h2, if_neg (by omega)]
structure Inner (n : Nat) (s : KS) (rest : List Nat) : Prop where
 len : s.left.length = n
 nodup : s.line.Nodup
 low : ∀ j ∈ s.line, j < n
 zero : ∀ j, j < n → (j ∈ s.line ↔ atI s.left j = 0)
 more : ∀ j, j < n → (rest.count j : Int) ≤ atI s.left j
theorem inner_step {n : Nat} {s : KS} {j : Nat} {rest : List Nat} (hj : j < n) (h : Inner n s (j :: rest)) : Inner n (lessK s j) rest := by
 have h1 := h.more j hj
 rw [List.count_cons_self] at h1
 have hne : j ∉ s.line := fun hm => by
  have := (h.zero j hj).1 hm
  omega
 have hlt : j < s.left.length := by rw [h.len]; exact hj
 have hat : ∀ k, atI (lessK s j).left k = if j = k then atI s.left j - 1 else atI s.left k := fun k => atI_set hlt
 refine ⟨by simp [lessK, h.len], ?_, ?_, ?_, ?_⟩
 ·unfold lessK
  simp only
  split
  ·rw [List.nodup_append]
   exact ⟨h.nodup, by simp, fun a ha b hb => by
    simp at hb
    subst hb
    rintro rfl
    exact hne ha⟩
  ·exact h.nodup
 ·intro k hk
  unfold lessK at hk
  simp only at hk
  split at hk
  ·rcases List.mem_append.1 hk with hk | hk
   ·exact h.low k hk
   ·simp at hk; subst hk; exact hj
  ·exact h.low k hk
 ·intro k hk
  rw [hat k]
  unfold lessK
  simp only
  by_cases hjk : j = k
  ·subst hjk
   rw [if_pos rfl]
   split
   ·rename_i h2; simp [h2]
   ·rename_i h2
    exact ⟨fun h => absurd h hne, fun h => absurd h h2⟩
  ·rw [if_neg hjk]
   split
   ·rw [List.mem_append, ← h.zero k hk]
    simp [Ne.symm hjk]
   ·exact h.zero k hk
 ·intro k hk
  rw [hat k]
  have := h.more k hk
  rw [List.count_cons] at this
  by_cases hjk : j = k
  ·subst hjk
   rw [if_pos rfl]; omega
  ·rw [if_neg hjk]
   have e : (j == k) = false := by simpa using hjk
   rw [e] at this
   simpa using this
theorem inner_fold {n : Nat} : ∀ (l : List Nat) (s : KS) (rest : List Nat), (∀ j ∈ l, j < n) → Inner n s (l ++ rest) → Inner n (l.foldl lessK s) rest ∧ (∀ j, j < n → atI (l.foldl lessK s).left j = atI s.left j - l.count j) ∧ ∃ t, (l.foldl lessK s).line = s.line ++ t
 | [], s, rest, _, h => ⟨h, fun j hj => by simp, [], by simp⟩
 | d :: l, s, rest, hl, h => by
  have hd := hl d (by simp)
  obtain ⟨h1, h2, t, h3⟩ := inner_fold l (lessK s d) rest (fun j hj => hl j (by simp [hj])) (inner_step hd h)
  refine ⟨h1, fun j hj => ?_, ?_⟩
  ·rw [List.foldl_cons, h2 j hj]
   have hlt : d < s.left.length := by rw [h.len]; exact hd
   have e : atI (lessK s d).left j = if d = j then atI s.left d - 1 else atI s.left j := atI_set hlt
   rw [e, List.count_cons]
   by_cases hdj : d = j
   ·subst hdj
    rw [if_pos rfl]; simp; omega
   ·have e2 : (d == j) = false := by simpa using hdj
    rw [if_neg hdj, e2]; simp
  ·rw [List.foldl_cons, h3]
   unfold lessK
   simp only
   split
   ·exact ⟨d :: t, by simp⟩
   ·exact ⟨t, rfl⟩
end Go.PX.KN
namespace Go.PX.KN
def openC (l P : List Nat) : Nat := l.countP fun v => decide (v ∉ P)
theorem openC_snoc {l P : List Nat} {i : Nat} (hi : i ∉ P) : openC l (P ++ [i]) + l.count i = openC l P := by
 induction l with
 | nil => rfl
 | cons a r ih =>
  unfold openC at ih ⊢
  rw [List.countP_cons, List.countP_cons, List.count_cons]
  by_cases h : a = i
  ·subst h
   have h1 : decide (a ∉ P ++ [a]) = false := by simp
   have h2 : decide (a ∉ P) = true := by simp [hi]
   rw [h1, h2]
   simp only [if_true, Bool.false_eq_true, if_false, beq_self_eq_true]
   omega
  ·have h1 : decide (a ∉ P ++ [i]) = decide (a ∉ P) := by
    congr 1
    simp [h]
   have h3 : (a == i) = false := by simpa using h
   rw [h1, h3]
   simp only [Bool.false_eq_true, if_false]
   omega
theorem openC_zero {l P : List Nat} : openC l P = 0 ↔ ∀ v ∈ l, v ∈ P := by
 unfold openC
 rw [List.countP_eq_zero]
 simp
structure KInv (n : Nat) (B bf : List (List Nat)) (p : Nat) (H : List Int) (s : KS) : Prop where
 inn : Inner n s []
 hp : p ≤ s.line.length
 hH : H.length = n
 left : ∀ j, j < n → atI s.left j = openC (atL B j) (s.line.take p)
 fore : ∀ (q i : Nat), q < p → s.line[q]? = some i → ∀ v ∈ atL B i, ∃ r, r < q ∧ s.line[r]? = some v
 val : ∀ i ∈ s.line.take p, atI H i = highF H (atL B i)
 no : ∀ i, i < n → i ∉ s.line.take p → atI H i = -1
 bd : ∀ i, i < n → -1 ≤ atI H i ∧ atI H i < p
theorem nodup_sub : ∀ {l m : List Nat}, l.Nodup → (∀ x ∈ l, x ∈ m) → l.length ≤ m.length
 | [], m, _, _ => Nat.zero_le _
 | a :: r, m, h, hs => by
  obtain ⟨h1, h2⟩ := List.nodup_cons.1 h
  have ha := hs a (by simp)
  have := nodup_sub (l := r) (m := m.erase a) h2 fun x hx => (List.mem_erase_of_ne (fun e => h1 (by rw [← e]; exact hx))).2 (hs x (by simp [hx]))
  rw [List.length_erase_of_mem ha] at this
  have := List.length_pos_of_mem ha
  simp only [List.length_cons]
  omega
theorem nodup_len {n : Nat} {l : List Nat} (h : l.Nodup) (hl : ∀ j ∈ l, j < n) : l.length ≤ n := by
 have := nodup_sub (m := List.range n) h fun x hx => List.mem_range.2 (hl x hx)
 simpa using this
theorem nodup_ne {l : List Nat} (h : l.Nodup) {r p : Nat} {i : Nat} (hrp : r < p) (hr : l[r]? = some i) (hp : l[p]? = some i) : False := by
 obtain ⟨h1, h2⟩ := List.getElem?_eq_some_iff.1 hr
 obtain ⟨h3, h4⟩ := List.getElem?_eq_some_iff.1 hp
 exact List.pairwise_iff_getElem.1 h r p h1 h3 hrp (by rw [h2, h4])
theorem highF_congr {H K : List Int} : ∀ {l : List Nat} {h : Int}, (∀ v ∈ l, atI H v = atI K v) → l.foldl (fun h j => max h (atI H j + 1)) h = l.foldl (fun h j => max h (atI K j + 1)) h
 | [], h, _ => rfl
 | a :: r, h, hh => by
  rw [List.foldl_cons, List.foldl_cons, hh a (by simp)]
  exact highF_congr fun v hv => hh v (by simp [hv])
theorem highF_bd {H : List Int} {b : Int} : ∀ {l : List Nat} {h : Int}, 0 ≤ h → h ≤ b → (∀ v ∈ l, atI H v < b) → 0 ≤ l.foldl (fun h j => max h (atI H j + 1)) h ∧ l.foldl (fun h j => max h (atI H j + 1)) h ≤ b
 | [], h, h0, h1, _ => ⟨h0, h1⟩
 | a :: r, h, h0, h1, hh => by
  rw [List.foldl_cons]
  have := hh a (by simp)
  exact highF_bd (by omega) (by omega) fun v hv => hh v (by simp [hv])
theorem take_snoc {α : Type} {l : List α} {p : Nat} {i : α} (h : l[p]? = some i) : l.take (p + 1) = l.take p ++ [i] := by
 rw [List.take_add_one, h]; rfl
theorem mem_take {α : Type} {l : List α} {p : Nat} {v : α} : v ∈ l.take p ↔ ∃ r, r < p ∧ l[r]? = some v := by
 rw [List.mem_iff_getElem?]
 constructor
 ·rintro ⟨r, hr⟩
  rw [List.getElem?_take] at hr
  split at hr
  ·exact ⟨r, by assumption, hr⟩
  ·cases hr
 ·rintro ⟨r, h1, h2⟩
  exact ⟨r, by rw [List.getElem?_take, if_pos h1]; exact h2⟩
theorem kstep {n : Nat} {B bf : List (List Nat)} (hbf : ∀ i j, i < n → j < n → (atL bf i).count j = (atL B j).count i) (hbl : ∀ i, i < n → ∀ j ∈ atL bf i, j < n) {p : Nat} {H : List Int} {s : KS} {i : Nat} (h : KInv n B bf p H s) (hi : s.line[p]? = some i) :
  KInv n B bf (p + 1) (H.set i (highF H (atL B i))) ((atL bf i).foldl lessK s) ∧ Inner n s (atL bf i ++ []) := by
 have hm : i ∈ s.line := List.mem_of_getElem? hi
 have hin := h.inn.low i hm
 have hz : openC (atL B i) (s.line.take p) = 0 := by
  have h1 := (h.inn.zero i hin).1 hm
  have h2 := h.left i hin
  omega
 have hall := openC_zero.1 hz
 have hplt : p < s.line.length := (List.getElem?_eq_some_iff.1 hi).1
 have hnp : i ∉ s.line.take p := by
  intro hm2
  obtain ⟨r, hr1, hr2⟩ := mem_take.1 hm2
  exact nodup_ne h.inn.nodup hr1 hr2 hi
 have hmore : Inner n s (atL bf i ++ []) := by
  refine ⟨h.inn.len, h.inn.nodup, h.inn.low, h.inn.zero, fun j hj => ?_⟩
  rw [List.append_nil, hbf i j hin hj, h.left j hj]
  have := openC_snoc (l := atL B j) hnp
  omega
 obtain ⟨h1, h2, t, h3⟩ := inner_fold (atL bf i) s [] (hbl i hin) hmore
 have htk : ((atL bf i).foldl lessK s).line.take (p + 1) = s.line.take p ++ [i] := by
  rw [h3, List.take_append_of_le_length (by omega), take_snoc hi]
 have hget : ∀ q, q < p + 1 → ((atL bf i).foldl lessK s).line[q]? = s.line[q]? := fun q hq => by
  rw [h3, List.getElem?_append_left (by omega)]
 have hset : ∀ j, atI (H.set i (highF H (atL B i))) j = if i = j then highF H (atL B i) else atI H j := fun j => atI_set (by rw [h.hH]; exact hin)
 have hhigh : 0 ≤ highF H (atL B i) ∧ highF H (atL B i) ≤ p := highF_bd (Int.le_refl 0) (by omega) fun v hv => by
  obtain ⟨r, hr1, hr2⟩ := mem_take.1 (hall v hv)
  exact (h.bd v (h.inn.low v (List.mem_of_getElem? hr2))).2
 have hcong : ∀ l : List Nat, (∀ v ∈ l, v ∈ s.line.take p) → highF (H.set i (highF H (atL B i))) l = highF H l := fun l hl => highF_congr fun v hv => by
  rw [hset v, if_neg (fun e => hnp (by rw [e]; exact hl v hv))]
 refine ⟨⟨h1, ?_, by rw [List.length_set]; exact h.hH, ?_, ?_, ?_, ?_, ?_⟩, hmore⟩
 ·rw [h3, List.length_append]; omega
 ·intro j hj
  rw [h2 j hj, htk, h.left j hj, hbf i j hin hj]
  have := openC_snoc (l := atL B j) hnp
  omega
 ·intro q k hq hk v hv
  rw [hget q hq] at hk
  by_cases hqp : q < p
  ·obtain ⟨r, hr1, hr2⟩ := h.fore q k hqp hk v hv
   exact ⟨r, hr1, by rw [hget r (by omega)]; exact hr2⟩
  ·have : q = p := by omega
   subst this
   rw [hi] at hk
   cases hk
   obtain ⟨r, hr1, hr2⟩ := mem_take.1 (hall v hv)
   exact ⟨r, hr1, by rw [hget r (by omega)]; exact hr2⟩
 ·intro k hk
  rw [htk] at hk
  rcases List.mem_append.1 hk with hk | hk
  ·have hke : i ≠ k := fun e => hnp (by rw [e]; exact hk)
   obtain ⟨q, hq1, hq2⟩ := mem_take.1 hk
   rw [hset k, if_neg hke, h.val k hk, hcong]
   intro v hv
   obtain ⟨r, hr1, hr2⟩ := h.fore q k hq1 hq2 v hv
   exact mem_take.2 ⟨r, by omega, hr2⟩
  ·rw [List.mem_singleton] at hk
   subst hk
   rw [hset k, if_pos rfl, hcong _ hall]
 ·intro k hk1 hk2
  rw [htk] at hk2
  rw [hset k, if_neg (fun e => hk2 (by simp [e]))]
  exact h.no k hk1 (fun hm => hk2 (by simp [hm]))
 ·intro k hk
  rw [hset k]
  split
  ·omega
  ·have := h.bd k hk
   omega
structure Kahn (n : Nat) (B : List (List Nat)) (H : List Int) (line : List Nat) : Prop where
 nodup : line.Nodup
 low : ∀ j ∈ line, j < n
 hH : H.length = n
 fore : ∀ (q i : Nat), line[q]? = some i → ∀ v ∈ atL B i, ∃ r, r < q ∧ line[r]? = some v
 val : ∀ i ∈ line, atI H i = highF H (atL B i)
 no : ∀ i, i < n → i ∉ line → atI H i = -1 ∧ ∃ v ∈ atL B i, v ∉ line
theorem KInv.done {n : Nat} {B bf : List (List Nat)} {p : Nat} {H : List Int} {s : KS} (h : KInv n B bf p H s) (hp : p = s.line.length) : Kahn n B H s.line := by
 have ht : s.line.take p = s.line := by rw [hp, List.take_length]
 refine ⟨h.inn.nodup, h.inn.low, h.hH, fun q i hq => h.fore q i ?_ hq, fun i hi => h.val i (by rw [ht]; exact hi), fun i hi hn => ⟨h.no i hi (by rw [ht]; exact hn), ?_⟩⟩
 ·rw [hp]; exact (List.getElem?_eq_some_iff.1 hq).1
 ·have h1 : atI s.left i ≠ 0 := fun e => hn ((h.inn.zero i hi).2 e)
  have h2 := h.left i hi
  rw [ht] at h2
  have h3 : ¬ openC (atL B i) s.line = 0 := by omega
  rw [openC_zero] at h3
  simpa using h3
def line0 (B : List (List Nat)) (n : Nat) : List Nat := (List.range n).filter fun i => decide ((atL B i).length = 0)
def left0 (B : List (List Nat)) : List Int := B.map fun l => (l.length : Int)
theorem kfirst {n : Nat} {B bf : List (List Nat)} (hn : B.length = n) : KInv n B bf 0 (List.replicate n (-1)) ⟨left0 B, line0 B n⟩ := by
 have ha : ∀ j, j < n → atI (left0 B) j = (atL B j).length := fun j hj => by
  unfold atI left0 atL
  rw [List.getElem?_map, List.getElem?_eq_getElem (by omega)]
  rfl
 have hr : ∀ j, j < n → atI (List.replicate n (-1)) j = -1 := fun j hj => by
  unfold atI
  rw [List.getElem?_replicate, if_pos hj]
  rfl
 refine ⟨⟨by simp [left0, hn], List.Pairwise.filter _ List.nodup_range, fun j hj => List.mem_range.1 (List.mem_filter.1 hj).1, fun j hj => ?_, fun j hj => ?_⟩, Nat.zero_le _, by simp, fun j hj => ?_, fun q i hq => by omega, fun i hi => by simp at hi, fun i hi _ => hr i hi, fun i hi => by rw [hr i hi]; omega⟩
 ·rw [ha j hj]
  unfold line0
  rw [List.mem_filter, List.mem_range]
  simp [hj]
 ·rw [ha j hj]; simp
 ·rw [ha j hj]
  unfold openC
  rw [List.take_zero]
  congr 1
  symm
  rw [List.countP_eq_length]
  simp
def deadM (B : List (List Nat)) : Nat → Nat → Prop
 | 0, _ => False
 | m + 1, i => ∀ v ∈ atL B i, deadM B m v
def hgtM (B : List (List Nat)) : Nat → Nat → Int
 | 0, _ => 0
 | m + 1, i => (atL B i).foldl (fun h v => max h (hgtM B m v + 1)) 0
theorem deadM_le {B : List (List Nat)} : ∀ {m i : Nat}, deadM B m i → ∀ {k : Nat}, m ≤ k → deadM B k i
 | 0, i, h, _, _ => h.elim
 | m + 1, i, h, 0, hk => by omega
 | m + 1, i, h, k + 1, hk => fun v hv => deadM_le (h v hv) (by omega)
theorem foldl_eq {f g : Nat → Int} : ∀ {l : List Nat} {h : Int}, (∀ v ∈ l, f v = g v) → l.foldl (fun h v => max h (f v + 1)) h = l.foldl (fun h v => max h (g v + 1)) h
 | [], h, _ => rfl
 | a :: r, h, hh => by
  rw [List.foldl_cons, List.foldl_cons, hh a (by simp)]
  exact foldl_eq fun v hv => hh v (by simp [hv])
theorem hgtM_le {B : List (List Nat)} : ∀ {m i : Nat}, deadM B m i → ∀ {k : Nat}, m ≤ k → hgtM B k i = hgtM B m i
 | 0, i, h, _, _ => h.elim
 | m + 1, i, h, 0, hk => by omega
 | m + 1, i, h, k + 1, hk => by
  rw [hgtM, hgtM]
  exact foldl_eq fun v hv => hgtM_le (h v hv) (by omega)
theorem Kahn.law {n : Nat} {B : List (List Nat)} {H : List Int} {line : List Nat} (h : Kahn n B H line) (hB : ∀ i, i < n → ∀ v ∈ atL B i, v < n) :
  (∀ i ∈ line, deadM B line.length i ∧ atI H i = hgtM B line.length i) ∧ ∀ i, i < n → i ∉ line → atI H i = -1 ∧ ∀ m, ¬ deadM B m i := by
 refine ⟨?_, fun i hi hn => ⟨(h.no i hi hn).1, fun m => ?_⟩⟩
 ·have key : ∀ q, q < line.length → ∀ i, line[q]? = some i → deadM B (q + 1) i ∧ atI H i = hgtM B (q + 1) i := by
   intro q
   induction q using Nat.strongRecOn with
   | _ q ih =>
    intro hq i hi
    have hd : ∀ v ∈ atL B i, deadM B q v ∧ atI H v = hgtM B q v := by
     intro v hv
     obtain ⟨r, hr1, hr2⟩ := h.fore q i hi v hv
     obtain ⟨h1, h2⟩ := ih r hr1 (by omega) v hr2
     exact ⟨deadM_le h1 (by omega), h2.trans (hgtM_le h1 (by omega)).symm⟩
    refine ⟨fun v hv => (hd v hv).1, ?_⟩
    rw [h.val i (List.mem_of_getElem? hi), hgtM]
    exact foldl_eq fun v hv => (hd v hv).2
  intro i hi
  obtain ⟨q, hq, he⟩ := List.mem_iff_getElem.1 hi
  obtain ⟨h1, h2⟩ := key q hq i (by rw [List.getElem?_eq_getElem hq, he])
  exact ⟨deadM_le h1 (by omega), h2.trans (hgtM_le h1 (by omega)).symm⟩
 ·induction m generalizing i with
  | zero => exact fun h => h
  | succ m ih =>
   intro hd
   obtain ⟨v, hv, hvn⟩ := (h.no i hi hn).2
   exact ih v (hB i hi v hv) hvn (hd v hv)
end Go.PX.KN
namespace Go.PX.KN
structure WS (S : Type) where
 ix : List Int
 sts : List S
variable {S : Type}
def entW (code : S → Nat) (w : WS S) (u : S) : WS S := if atI w.ix (code u) = 0 then ⟨w.ix.set (code u) ((w.sts.length + 1 : Nat) : Int), w.sts ++ [u]⟩ else w
def rowW (code : S → Nat) : List S → WS S → List Nat → WS S × List Nat
 | [], w, l => (w, l)
 | u :: r, w, l => rowW code r (entW code w u) (l ++ [(atI (entW code w u).ix (code u) - 1).toNat])
def webW (succ : S → List S) (code : S → Nat) : Nat → WS S → List (List Nat) → WS S × List (List Nat)
 | 0, w, b => (w, b)
 | f + 1, w, b => match w.sts[b.length]? with
  | none => (w, b)
  | some s => webW succ code f (rowW code (succ s) w []).1 (b ++ [(rowW code (succ s) w []).2])
structure WOk (code : S → Nat) (N : Nat) (U : S → Prop) (w : WS S) : Prop where
 len : w.ix.length = N
 nodup : w.sts.Nodup
 inU : ∀ s ∈ w.sts, U s
 at' : ∀ (q : Nat) s, w.sts[q]? = some s → atI w.ix (code s) = (q : Int) + 1
 of : ∀ u, U u → atI w.ix (code u) ≠ 0 → ∃ q : Nat, atI w.ix (code u) = (q : Int) + 1 ∧ w.sts[q]? = some u
theorem ent_ok {code : S → Nat} {N : Nat} {U : S → Prop} (hc : ∀ s, U s → code s < N) (hinj : ∀ s t, U s → U t → code s = code t → s = t) {w : WS S} (h : WOk code N U w) {u : S} (hu : U u) :
  WOk code N U (entW code w u) ∧ (∃ t, (entW code w u).sts = w.sts ++ t) ∧ ∃ q : Nat, atI (entW code w u).ix (code u) = (q : Int) + 1 ∧ (entW code w u).sts[q]? = some u := by
 unfold entW
 by_cases h0 : atI w.ix (code u) = 0
 ·rw [if_pos h0]
  have hlt : code u < w.ix.length := by rw [h.len]; exact hc u hu
  have hset : ∀ c, atI (w.ix.set (code u) ((w.sts.length + 1 : Nat) : Int)) c = if code u = c then ((w.sts.length + 1 : Nat) : Int) else atI w.ix c := fun c => atI_set hlt
  have hnm : u ∉ w.sts := fun hm => by
   obtain ⟨q, hq⟩ := List.mem_iff_getElem?.1 hm
   have := h.at' q u hq
   omega
  have hne : ∀ s ∈ w.sts, code u ≠ code s := fun s hs e => hnm (by rw [hinj u s hu (h.inU s hs) e]; exact hs)
  refine ⟨⟨by simp [h.len], ?_, ?_, ?_, ?_⟩, ⟨[u], rfl⟩, w.sts.length, ?_, ?_⟩
  ·rw [List.nodup_append]
   exact ⟨h.nodup, by simp, fun a ha b hb => by
    rw [List.mem_singleton] at hb
    subst hb
    rintro rfl
    exact hnm ha⟩
  ·intro s hs
   rcases List.mem_append.1 hs with hs | hs
   ·exact h.inU s hs
   ·rw [List.mem_singleton] at hs; subst hs; exact hu
  ·intro q s hq
   simp only at hq ⊢
   rw [hset]
   by_cases hql : q < w.sts.length
   ·rw [List.getElem?_append_left hql] at hq
    rw [if_neg (hne s (List.mem_of_getElem? hq))]
    exact h.at' q s hq
   ·have hqe : q = w.sts.length := by
     have := (List.getElem?_eq_some_iff.1 hq).1
     simp at this; omega
    subst hqe
    rw [List.getElem?_append_right (Nat.le_refl _), Nat.sub_self] at hq
    cases hq
    rw [if_pos rfl]; omega
  ·intro v hv hv0
   simp only at hv0 ⊢
   rw [hset] at hv0 ⊢
   by_cases he : code u = code v
   ·have : u = v := hinj u v hu hv he
    subst this
    rw [if_pos rfl]
    exact ⟨w.sts.length, by omega, by rw [List.getElem?_append_right (Nat.le_refl _), Nat.sub_self]; rfl⟩
   ·rw [if_neg he] at hv0 ⊢
    obtain ⟨q, h1, h2⟩ := h.of v hv hv0
    exact ⟨q, h1, by rw [List.getElem?_append_left (List.getElem?_eq_some_iff.1 h2).1]; exact h2⟩
  ·simp only
   rw [hset, if_pos rfl]; omega
  ·simp only
   rw [List.getElem?_append_right (Nat.le_refl _), Nat.sub_self]; rfl
 ·rw [if_neg h0]
  exact ⟨h, ⟨[], by simp⟩, h.of u hu h0⟩
theorem get_pre {α : Type} {a t : List α} {q : Nat} {x : α} (h : a[q]? = some x) : (a ++ t)[q]? = some x := by
 rw [List.getElem?_append_left (List.getElem?_eq_some_iff.1 h).1]; exact h
theorem row_ok {code : S → Nat} {N : Nat} {U : S → Prop} (hc : ∀ s, U s → code s < N) (hinj : ∀ s t, U s → U t → code s = code t → s = t) : ∀ {us : List S} {w : WS S} {l : List Nat} {vs : List S}, (∀ u ∈ us, U u) → WOk code N U w → l.map (fun q => w.sts[q]?) = vs.map some →
  WOk code N U (rowW code us w l).1 ∧ (∃ t, (rowW code us w l).1.sts = w.sts ++ t) ∧ (rowW code us w l).2.map (fun q => (rowW code us w l).1.sts[q]?) = (vs ++ us).map some
 | [], w, l, vs, _, h, hl => ⟨h, ⟨[], by simp [rowW]⟩, by simpa [rowW] using hl⟩
 | u :: r, w, l, vs, hu, h, hl => by
  obtain ⟨h1, ⟨t, ht⟩, q, hq1, hq2⟩ := ent_ok hc hinj h (hu u (by simp))
  have hl2 : (l ++ [(atI (entW code w u).ix (code u) - 1).toNat]).map (fun q => (entW code w u).sts[q]?) = (vs ++ [u]).map some := by
   rw [List.map_append, List.map_append, ← hl]
   congr 1
   ·refine List.map_congr_left fun k hk => ?_
    have : w.sts[k]? ∈ vs.map some := by rw [← hl]; exact List.mem_map_of_mem hk
    obtain ⟨v, _, hv⟩ := List.mem_map.1 this
    rw [ht, ← hv, get_pre hv.symm]
   ·rw [hq1, show ((q : Int) + 1 - 1).toNat = q by omega]
    simp [hq2]
  obtain ⟨h2, ⟨t2, ht2⟩, h3⟩ := row_ok hc hinj (us := r) (fun v hv => hu v (by simp [hv])) h1 hl2
  rw [rowW]
  exact ⟨h2, ⟨t ++ t2, by rw [ht2, ht, List.append_assoc]⟩, by rw [h3]; simp⟩
structure WDone (succ : S → List S) (code : S → Nat) (N : Nat) (U : S → Prop) (w : WS S) (b : List (List Nat)) : Prop where
 ok : WOk code N U w
 le : b.length ≤ w.sts.length
 row : ∀ (k : Nat) l, b[k]? = some l → ∃ s, w.sts[k]? = some s ∧ l.map (fun q => w.sts[q]?) = (succ s).map some
theorem wstep {succ : S → List S} {code : S → Nat} {N : Nat} {U : S → Prop} (hc : ∀ s, U s → code s < N) (hinj : ∀ s t, U s → U t → code s = code t → s = t) (hs : ∀ s, U s → ∀ u ∈ succ s, U u) {w : WS S} {b : List (List Nat)} {s : S} (h : WDone succ code N U w b) (hb : w.sts[b.length]? = some s) :
  WDone succ code N U (rowW code (succ s) w []).1 (b ++ [(rowW code (succ s) w []).2]) ∧ ∃ t, (rowW code (succ s) w []).1.sts = w.sts ++ t := by
 have hU := h.ok.inU s (List.mem_of_getElem? hb)
 obtain ⟨h1, ⟨t, ht⟩, h3⟩ := row_ok hc hinj (us := succ s) (w := w) (l := []) (vs := []) (hs s hU) h.ok rfl
 have hlt := (List.getElem?_eq_some_iff.1 hb).1
 refine ⟨⟨h1, by rw [ht]; simp; omega, ?_⟩, t, ht⟩
 intro k l hk
 by_cases hkl : k < b.length
 ·rw [List.getElem?_append_left hkl] at hk
  obtain ⟨s', hs1, hs2⟩ := h.row k l hk
  refine ⟨s', by rw [ht]; exact get_pre hs1, ?_⟩
  rw [← hs2]
  refine List.map_congr_left fun q hq => ?_
  have : w.sts[q]? ∈ (succ s').map some := by rw [← hs2]; exact List.mem_map_of_mem hq
  obtain ⟨v, _, hv⟩ := List.mem_map.1 this
  rw [ht, ← hv, get_pre hv.symm]
 ·have hke : k = b.length := by
   have := (List.getElem?_eq_some_iff.1 hk).1
   simp at this; omega
  subst hke
  rw [List.getElem?_append_right (Nat.le_refl _), Nat.sub_self] at hk
  cases hk
  exact ⟨s, by rw [ht]; exact get_pre hb, by simpa using h3⟩
def deadS (succ : S → List S) : Nat → S → Prop
 | 0, _ => False
 | m + 1, s => ∀ u ∈ succ s, deadS succ m u
def hgtS (succ : S → List S) : Nat → S → Int
 | 0, _ => 0
 | m + 1, s => (succ s).foldl (fun h v => max h (hgtS succ m v + 1)) 0
theorem WDone.rowAt {succ : S → List S} {code : S → Nat} {N : Nat} {U : S → Prop} {w : WS S} {b : List (List Nat)} (h : WDone succ code N U w b) (hb : b.length = w.sts.length) {i : Nat} {s : S} (hi : w.sts[i]? = some s) : (atL b i).map (fun q => w.sts[q]?) = (succ s).map some := by
 have hlt := (List.getElem?_eq_some_iff.1 hi).1
 have he : b[i]? = some (b[i]'(by omega)) := List.getElem?_eq_getElem _
 obtain ⟨s', h1, h2⟩ := h.row i _ he
 rw [hi] at h1
 cases h1
 unfold atL
 rw [he]
 exact h2
theorem WDone.low {succ : S → List S} {code : S → Nat} {N : Nat} {U : S → Prop} {w : WS S} {b : List (List Nat)} (h : WDone succ code N U w b) : ∀ i, ∀ v ∈ atL b i, v < w.sts.length := by
 intro i v hv
 unfold atL at hv
 cases he : b[i]? with
 | none => rw [he] at hv; cases hv
 | some l =>
  rw [he] at hv
  obtain ⟨s, h1, h2⟩ := h.row i l he
  have : w.sts[v]? ∈ (succ s).map some := by rw [← h2]; exact List.mem_map_of_mem hv
  obtain ⟨u, _, hu⟩ := List.mem_map.1 this
  exact (List.getElem?_eq_some_iff.1 hu.symm).1
theorem WDone.dead {succ : S → List S} {code : S → Nat} {N : Nat} {U : S → Prop} {w : WS S} {b : List (List Nat)} (h : WDone succ code N U w b) (hb : b.length = w.sts.length) : ∀ (m i : Nat) (s : S), w.sts[i]? = some s → (deadM b m i ↔ deadS succ m s)
 | 0, _, _, _ => Iff.rfl
 | m + 1, i, s, hi => by
  have hr := h.rowAt hb hi
  rw [deadM, deadS]
  constructor
  ·intro hd u hu
   have : some u ∈ (atL b i).map (fun q => w.sts[q]?) := by rw [hr]; exact List.mem_map_of_mem hu
   obtain ⟨v, hv, he⟩ := List.mem_map.1 this
   exact (h.dead hb m v u he).1 (hd v hv)
  ·intro hd v hv
   have : w.sts[v]? ∈ (succ s).map some := by rw [← hr]; exact List.mem_map_of_mem hv
   obtain ⟨u, hu, he⟩ := List.mem_map.1 this
   exact (h.dead hb m v u he.symm).2 (hd u hu)
theorem fold_two {sts : List S} {f : Nat → Int} {g : S → Int} (hfg : ∀ i s, sts[i]? = some s → f i = g s) : ∀ {l : List Nat} {us : List S} {h : Int}, l.map (fun q => sts[q]?) = us.map some → l.foldl (fun h v => max h (f v + 1)) h = us.foldl (fun h v => max h (g v + 1)) h
 | [], [], _, _ => rfl
 | [], _ :: _, _, h => by cases h
 | _ :: _, [], _, h => by cases h
 | a :: l, u :: us, h, hl => by
  rw [List.map_cons, List.map_cons] at hl
  injection hl with h1 h2
  rw [List.foldl_cons, List.foldl_cons, hfg a u h1]
  exact fold_two hfg h2
theorem WDone.hgt {succ : S → List S} {code : S → Nat} {N : Nat} {U : S → Prop} {w : WS S} {b : List (List Nat)} (h : WDone succ code N U w b) (hb : b.length = w.sts.length) : ∀ (m i : Nat) (s : S), w.sts[i]? = some s → hgtM b m i = hgtS succ m s
 | 0, _, _, _ => rfl
 | m + 1, i, s, hi => by
  rw [hgtM, hgtS]
  exact fold_two (fun i s hi => h.hgt hb m i s hi) (h.rowAt hb hi)
theorem WDone.law {succ : S → List S} {code : S → Nat} {N : Nat} {U : S → Prop} {w : WS S} {b : List (List Nat)} (h : WDone succ code N U w b) (hb : b.length = w.sts.length) {H : List Int} {line : List Nat} (hk : Kahn w.sts.length b H line) {i : Nat} {s : S} (hi : w.sts[i]? = some s) :
  (∃ m, m ≤ w.sts.length ∧ deadS succ m s ∧ atI H i = hgtS succ m s) ∨ (atI H i = -1 ∧ ∀ m, ¬ deadS succ m s) := by
 obtain ⟨h1, h2⟩ := hk.law (fun i _ => h.low i)
 have hlt := (List.getElem?_eq_some_iff.1 hi).1
 by_cases hm : i ∈ line
 ·obtain ⟨h3, h4⟩ := h1 i hm
  exact .inl ⟨line.length, nodup_len hk.nodup hk.low, (h.dead hb _ i s hi).1 h3, by rw [h4, h.hgt hb _ i s hi]⟩
 ·obtain ⟨h3, h4⟩ := h2 i hlt hm
  exact .inr ⟨h3, fun m hd => h4 m ((h.dead hb _ i s hi).2 hd)⟩
theorem WDone.find {succ : S → List S} {code : S → Nat} {N : Nat} {U : S → Prop} {w : WS S} {b : List (List Nat)} (h : WDone succ code N U w b) (hb : b.length = w.sts.length) {s u : S} (hs : s ∈ w.sts) (hu : u ∈ succ s) : u ∈ w.sts ∧ ∃ q : Nat, atI w.ix (code u) = (q : Int) + 1 ∧ w.sts[q]? = some u := by
 obtain ⟨i, hi⟩ := List.mem_iff_getElem?.1 hs
 have : some u ∈ (atL b i).map (fun q => w.sts[q]?) := by rw [h.rowAt hb hi]; exact List.mem_map_of_mem hu
 obtain ⟨v, hv, he⟩ := List.mem_map.1 this
 exact ⟨List.mem_of_getElem? he, v, h.ok.at' v u he, he⟩
end Go.PX.KN
