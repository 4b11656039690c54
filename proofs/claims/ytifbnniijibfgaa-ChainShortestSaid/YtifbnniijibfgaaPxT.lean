import Derived.Test.YtifbnniijibfgaaPxS
import Derived.Test.YtifbnniijibfgaaPxL
set_option linter.all false
set_option maxRecDepth 10000
namespace Go.PX
open Go.Proofs

/-- The first ascending list that goes on so and is wanted. -/
def fillF {τ : Type} (wf : List Int → τ × Bool) (many : Nat) : Nat → List Int → Nat → Option (List Int × τ)
  | 0, p, _ => if (wf p).2 then some (p, (wf p).1) else none
  | left + 1, p, start => (List.range' start (many - left - start)).findSome? fun (i : Nat) => fillF wf many left (p ++ [(i : Int)]) (i + 1)

def intsC (l : List Int) : List (List D) := l.map fun n => [i64 n]

def fillArgs (start left : Nat) : List V := [.d (i64 start), .d (i64 left), .ptr 1000000 0, .ptr 1000001 0, .ptr 1000002 0, .ptr 1000003 0, .ptr 1000004 0, .ptr 1000005 0]

def fillCaps : List V := [.ptr 1000000 0, .ptr 1000001 0, .ptr 1000002 0, .ptr 1000003 0, .ptr 1000004 0, .ptr 1000005 0]

/-- The boxes of a search, and its buffer. -/
def fillH (f g : FuncId) (caps : List D) (many : Nat) (k : Nat) (n : Nat) (p : List Int) (x is : D) : Heap :=
  [(1000000, .box (.dd [.clo g caps])), (1000001, .box (.vv [.sl k 1 0 n])), (1000002, .box (.dd [x])), (1000003, .box (.dd [is])), (1000004, .box (.dd [i64 many])), (1000005, .box (.vv [.clo f fillCaps])), (k, .arr 1 (.dd (intsC p)))]

/-- What a search does, from a place, with so many numbers to come. -/
def Fill96 (g : FuncId) (caps : List D) (wf : List Int → Int × Bool) (many left : Nat) : Prop :=
  ∀ (start : Nat) (p : List Int) (x : Int) (b : Bool), left ≤ many → start ≤ many + 1 → p.length + left ≤ many → (∀ i ∈ p, 0 ≤ i ∧ i < many) → ∀ {σ : Type} (Y : Hd σ) (s : σ),
      FnC Try.prog Y 96 (fillArgs start left) (fillH 96 g caps many 1000006 p.length p (i64 x) (.bool b)) s fun v h' s' => s' = s ∧ ∃ (q : List Int) (y : Int) (b' : Bool), h' = fillH 96 g caps many 2000000 q.length q (i64 y) (.bool b') ∧
        (match fillF wf many left p start with
        | some (q', y') => v = .d (.bool true) ∧ q = q' ∧ y = y' ∧ b' = true
        | none => v = .d (.bool false) ∧ q = p)

/-- What is searched for. -/
def Want96 (g : FuncId) (caps : List D) (wf : List Int → Int × Bool) (many : Nat) : Prop :=
  ∀ q : List Int, (∀ i ∈ q, 0 ≤ i ∧ i < many) → q.length ≤ many → FnV Try.prog g (intsD q :: caps) (.tup [i64 (wf q).1, .bool (wf q).2])

theorem fill96_zero {g : FuncId} {caps : List D} {wf : List Int → Int × Bool} {many : Nat} (hm : many ≤ 1000) (hw : Want96 g caps wf many) : Fill96 g caps wf many 0 := by
  intro start p x b hl hf hp hin σ Y s
  refine fnC_of mixed tysOk Try.func96 rfl (ft := ft96) (args := fillArgs start 0) (show fnB ft96 Try.f96 8 = true from by decide +kernel) ?_
  conv => whnf
  have hcl : (intsC p).length = p.length := by simp [intsC]
  refine CallA_view (ds := intsD p :: caps) (hw p hin (by omega)) rfl 1 (viewL_cons (viewV_sl rfl (by simp [intsC])) (viewL_inj caps)) ?_
  conv => whnf
  refine RetA_hand [1000006] [.d (.bool (wf p).2)] (fillH 96 g caps many 2000000 p.length p (i64 (wf p).1) (.bool (wf p).2)) rfl ⟨rfl, rfl, rfl, rfl, rfl, rfl, rfl, trivial⟩ rfl ?_
  refine ⟨rfl, p, (wf p).1, (wf p).2, rfl, ?_⟩
  simp only [fillF]
  cases hb : (wf p).2 <;> simp [packVv]

theorem fill96_succ {g : FuncId} {caps : List D} {wf : List Int → Int × Bool} {many left : Nat} (hm : many ≤ 1000) (ihl : Fill96 g caps wf many left) : Fill96 g caps wf many (left + 1) := by
  intro start p x b hl hf hp hin σ Y s
  refine fnC_of mixed tysOk Try.func96 rfl (ft := ft96) (args := fillArgs start (left + 1)) (show fnB ft96 Try.f96 8 = true from by decide +kernel) ?_
  conv => whnf
  refine LoopA_p (T := tys) tysOk (by exact drawsB_spec mixed tysOk (by decide +kernel)) (α := Nat × Int × Bool)
    (fun x => ⟨[(1, .d (i64 (left + 1 : Nat))), (2, .ptr 1000000 0), (3, .ptr 1000001 0), (4, .ptr 1000002 0), (5, .ptr 1000003 0), (6, .ptr 1000004 0), (7, .ptr 1000005 0), (11, .d (i64 x.1))], fillH 96 g caps many 900000 p.length p (i64 x.2.1) (.bool x.2.2), s⟩)
    (fun x => x.1 ≤ many + 1 ∧ fillF wf many (left + 1) p start = (List.range' x.1 (many - left - x.1)).findSome? fun (i : Nat) => fillF wf many left (p ++ [(i : Int)]) (i + 1)) (fun x => many + 1 - x.1) (start, x, b)
    ((Wk.move 1000006 900000 rfl rfl).trans (Wk.sub ⟨rfl, rfl, rfl, rfl, rfl, rfl, rfl, rfl, trivial⟩ ⟨rfl, rfl, rfl, rfl, rfl, rfl, rfl, trivial⟩)) ⟨hf, rfl⟩ ?_
  clear hf x b
  rintro ⟨i, x, b⟩ ⟨hi, he⟩
  simp only at hi he
  conv => whnf
  refine arith_in (wrap_i64 (by (try dsimp only); omega)) ?_
  conv => whnf
  refine brk_i (fun h1 => ?_) (fun h1 => ?_)
  · have h1 : i ≤ many - (left + 1) := by have := of_decide_eq_true h1; omega
    obtain ⟨m, hm1⟩ : ∃ m, many - left - i = m + 1 := ⟨many - left - i - 1, by omega⟩
    rw [hm1, List.range'_succ, List.findSome?_cons] at he
    have hpl : (intsC p).length = p.length := by simp [intsC]
    conv => whnf
    refine chk_i (by simp [Els.len, hpl]) ?_
    conv => whnf
    refine chk_i (by simp [Els.len, Els.part, Els.cons, V.cells, hpl]; omega) ?_
    conv => whnf
    refine arith_to (((i + 1 : Nat) : Int)) (by (try dsimp only); omega) (wrap_i64 (by (try dsimp only); omega)) ?_
    conv => whnf
    refine arith_to ((left : Int)) (by (try dsimp only); omega) (wrap_i64 (by (try dsimp only); omega)) ?_
    conv => whnf
    have hin' : ∀ j ∈ p ++ [(i : Int)], 0 ≤ j ∧ j < many := by
      intro j hj
      rcases List.mem_append.1 hj with hj | hj
      · exact hin j hj
      · rw [List.mem_singleton] at hj; subst hj; omega
    have ih := ihl (i + 1) (p ++ [(i : Int)]) x b (by omega) (by omega) (by simp; omega) hin' Y s
    refine CallA_y ih [1000000, 1000001, 1000002, 1000003, 1000004, 1000005, 32] rfl ⟨_, _, rfl, rfl, _, _, rfl, (by
        show some (Obj.box (Cells.vv [V.sl 32 1 0 ((((intsC p).drop 0).take p.length).length + 1)])) = some (Obj.box (Cells.vv [V.sl 32 1 0 (p ++ [(i : Int)]).length]))
        simp [intsC]), _, _, rfl, rfl, _, _, rfl, rfl, _, _, rfl, rfl, _, _, rfl, rfl, _, _, rfl, (by
        show some (Obj.arr 1 (Els.dd ((((intsC p).drop 0).take p.length) ++ [[i64 (i : Int)]]))) = some (Obj.arr 1 (Els.dd (intsC (p ++ [(i : Int)]))))
        simp [intsC, List.take_of_length_le]), rfl⟩ rfl rfl ?_
    rintro v h1 s' ⟨rfl, q, y, b', rfl, hpost⟩
    cases hF : fillF wf many left (p ++ [(i : Int)]) (i + 1) with
    | some r =>
      obtain ⟨q', y'⟩ := r
      rw [hF] at hpost he
      obtain ⟨rfl, rfl, rfl, rfl⟩ := hpost
      refine ⟨rfl, ?_⟩
      conv => whnf
      refine RetA_hand [102432] [.d (.bool true)] (fillH 96 g caps many 2000000 q.length q (i64 y) (.bool true)) rfl ⟨rfl, box_same rfl ⟨⟨rfl, rfl, rfl, rfl⟩, trivial⟩, rfl, rfl, rfl, box_same rfl ⟨⟨rfl, ⟨rfl, rfl⟩, ⟨rfl, rfl⟩, ⟨rfl, rfl⟩, ⟨rfl, rfl⟩, ⟨rfl, rfl⟩, ⟨rfl, rfl⟩, trivial⟩, trivial⟩, rfl, trivial⟩ rfl ?_
      refine ⟨rfl, q, y, true, rfl, ?_⟩
      rw [he]
      exact ⟨rfl, rfl, rfl, rfl⟩
    | none =>
      rw [hF] at hpost he
      obtain ⟨rfl, rfl⟩ := hpost
      refine ⟨rfl, ?_⟩
      conv => whnf
      refine arith_to (p.length : Int) (by simp) (wrap_i64 (by omega)) ?_
      conv => whnf
      refine chk_i (by simp; omega) ?_
      conv => whnf
      refine arith_to (((i + 1 : Nat) : Int)) (by (try dsimp only); omega) (wrap_i64 (by (try dsimp only); omega)) ?_
      conv => whnf
      have hm2 : many - left - (i + 1) = m := by omega
      refine ⟨(i + 1, y, b'), by simp only; omega, ⟨by simp only; omega, by simp only; rw [hm2]; exact he⟩, (Wk.move 102432 900000 rfl rfl).trans ((Wk.shrink 900000 p.length rfl).trans ?_)⟩
      have hsh : (intsC (p ++ [(i : Int)])).take p.length = intsC p := by simp [intsC, List.take_left']
      refine Wk.sub ⟨rfl, rfl, rfl, rfl, rfl, rfl, rfl, rfl, trivial⟩ ⟨rfl, ?_, rfl, rfl, rfl, rfl, ?_, trivial⟩
      · rfl
      · show some (Obj.arr 1 (Els.dd ((intsC (p ++ [(i : Int)])).take p.length))) = _
        rw [hsh]
  · have h1 : ¬ (i : Int) ≤ (many : Int) - ((left + 1 : Nat) : Int) := of_decide_eq_false h1
    rw [show many - left - i = 0 by omega] at he
    conv => whnf
    refine RetA_hand [900000] [.d (.bool false)] (fillH 96 g caps many 2000000 p.length p (i64 x) (.bool b)) rfl ⟨rfl, rfl, rfl, rfl, rfl, rfl, rfl, trivial⟩ rfl ?_
    refine ⟨rfl, p, x, b, rfl, ?_⟩
    rw [he]
    exact ⟨rfl, rfl⟩

theorem fill96 {g : FuncId} {caps : List D} {wf : List Int → Int × Bool} {many : Nat} (hm : many ≤ 1000) (hw : Want96 g caps wf many) (left : Nat) : Fill96 g caps wf many left := by
  induction left with
  | zero => exact fill96_zero hm hw
  | succ n ih => exact fill96_succ hm ih
end Go.PX

namespace Go.PX
open Go.Proofs

theorem fn97 (p : List Int) (hp : p.length < 1000000) : FnV Try.prog 97 [intsD p] (intsD p) := by
  refine fnV_of mixed tysOk Try.func97 rfl (ft := ft97) 1 (by decide +kernel) (by rfl) fun {σ} Y st => ?_
  conv => whnf
  refine ⟨fun b hb => ?_⟩
  cases b with
  | true =>
    have hp0 : p = [] := by
      cases p with
      | nil => rfl
      | cons a r => exact absurd (hb (by simp)) (by simp)
    subst hp0
    conv => whnf
    refine RetA_nil0 ?_
    exact RetA_view 0 rfl ⟨⟨rfl, rfl⟩, rfl⟩
  | false =>
    conv => whnf
    refine chk_i (by
      show (lenAllD 1 (p.map fun n => [i64 n]) && true) = true
      rw [lenAllD_map (fun x => ⟨rfl, rfl⟩)]; rfl) ?_
    conv => whnf
    refine chk_i (by simp [Els.len, Els.part]; omega) ?_
    conv => whnf
    exact RetA_sl (es := p.map fun n => [i64 n]) rfl (by simp [Els.len, Els.part]) ⟨⟨rfl, rfl⟩, rfl⟩

/-- The first one of the shortest lists that are wanted. -/
def chooseF {τ : Type} (wf : List Int → τ × Bool) (many : Nat) : Option (List Int × τ) := (List.range' 0 (many + 1)).findSome? fun (n : Nat) => fillF wf many n [] 0

theorem fillF_len {τ : Type} {wf : List Int → τ × Bool} {many : Nat} : ∀ {left : Nat} {p : List Int} {start : Nat} {q : List Int} {y : τ}, fillF wf many left p start = some (q, y) → q.length = p.length + left
  | 0, p, start, q, y, h => by
    simp only [fillF] at h
    split at h
    · cases h; rfl
    · cases h
  | left + 1, p, start, q, y, h => by
    simp only [fillF] at h
    obtain ⟨i, hi, h1⟩ := List.exists_of_findSome?_eq_some h
    have := fillF_len h1
    simp at this; omega

theorem fn61 (g : FuncId) (caps : List D) (wf : List Int → Int × Bool) (many : Nat) (hm : many ≤ 1000) (hw : Want96 g caps wf many) {σ : Type} (Y : Hd σ) (s : σ) :
    FnC Try.prog Y 61 [.d (i64 many), .d (.clo g caps)] [] s fun v h' s' => s' = s ∧ h' = [] ∧ (match chooseF wf many with
      | some (q, y) => v = .d (.tup [intsD q, i64 y, .bool true])
      | none => ∃ y, v = .d (.tup [intsD [], i64 y, .bool false])) := by
  refine fnC_of mixed tysOk Try.func61 rfl (ft := ft61) (args := [.d (i64 many), .d (.clo g caps)]) (show fnB ft61 Try.f61 2 = true from by decide +kernel) ?_
  conv => whnf
  refine arith_in (wrap_i64 (by (try dsimp only); omega)) ?_
  conv => whnf
  refine LoopA_p (T := tys) tysOk (by exact drawsB_spec mixed tysOk (by decide +kernel)) (α := Nat × Int × Bool)
    (fun x => ⟨[(2, .ptr 2 0), (3, .ptr 3 0), (4, .ptr 4 0), (5, .ptr 5 0), (6, .ptr 6 0), (7, .ptr 7 0), (11, .d (i64 (many + 1 : Nat))), (12, .d (i64 x.1))],
      [(2, .box (.dd [i64 many])), (3, .box (.dd [.clo g caps])), (4, .box (.vv [.sl 900000 1 0 0])), (5, .box (.dd [i64 x.2.1])), (6, .box (.dd [.bool x.2.2])), (7, .box (.vv [.clo 96 [.ptr 3 0, .ptr 4 0, .ptr 5 0, .ptr 6 0, .ptr 2 0, .ptr 7 0]])), (900000, .arr 1 (.dd []))], s⟩)
    (fun x => x.1 ≤ many + 1 ∧ chooseF wf many = (List.range' x.1 (many + 1 - x.1)).findSome? fun (n : Nat) => fillF wf many n [] 0) (fun x => many + 1 - x.1) (0, 0, false)
    ((Wk.bornBox 4 900000 1 rfl rfl rfl rfl).trans (Wk.sub ⟨rfl, rfl, rfl, rfl, rfl, rfl, rfl, rfl, trivial⟩ ⟨rfl, rfl, rfl, rfl, rfl, rfl, rfl, trivial⟩)) ⟨by simp, rfl⟩ ?_
  rintro ⟨n, x, b⟩ ⟨hn, he⟩
  simp only at hn he
  conv => whnf
  refine brk_i (fun h1 => ?_) (fun h1 => ?_)
  · have h1 : n < many + 1 := by have := of_decide_eq_true h1; omega
    obtain ⟨m, hm1⟩ : ∃ m, many + 1 - n = m + 1 := ⟨many - n, by omega⟩
    have hm2 : many + 1 - (n + 1) = m := by omega
    rw [hm1, List.range'_succ, List.findSome?_cons] at he
    conv => whnf
    refine CallA_w (fill96 hm hw n 0 [] x b (by omega) (by omega) (by simp; omega) (by simp) Y s) [3, 4, 5, 6, 2, 7, 900000] rfl ⟨_, _, rfl, rfl, _, _, rfl, rfl, _, _, rfl, rfl, _, _, rfl, rfl, _, _, rfl, rfl, _, _, rfl, rfl, _, _, rfl, rfl, rfl⟩ rfl rfl ?_
    rintro v h1 s' ⟨rfl, q, y, b', rfl, hpost⟩
    cases hF : fillF wf many n [] 0 with
    | some r =>
      obtain ⟨q', y'⟩ := r
      rw [hF] at hpost he
      obtain ⟨rfl, rfl, rfl, rfl⟩ := hpost
      refine ⟨rfl, ?_⟩
      conv => whnf
      refine ⟨⟨[(4, .ptr 4 0), (5, .ptr 5 0), (6, .ptr 6 0), (17, .d (.bool true))], [(4, .box (.dd [intsD q])), (5, .box (.dd [i64 y])), (6, .box (.dd [.bool true]))], s'⟩, (Wk.frz 1 [101088]).trans (Wk.sub ⟨rfl, rfl, rfl, rfl, trivial⟩ ⟨?_, rfl, rfl, trivial⟩), ?_⟩
      · exact get_frz (id := 101088) (sz := 1) (n := q.length) rfl (viewV_sl (es := intsC q) rfl (by simp [intsC]))
      conv => whnf
      refine DrawCall_v (fn97 q (by have := fillF_len hF; simp at this; omega)) rfl rfl ?_
      conv => whnf
      refine RetA_view 0 rfl ⟨rfl, rfl, ?_⟩
      rw [he]
      rfl
    | none =>
      rw [hF] at hpost he
      obtain ⟨rfl, rfl⟩ := hpost
      refine ⟨rfl, ?_⟩
      conv => whnf
      refine ⟨⟨[(2, .ptr 2 0), (3, .ptr 3 0), (4, .ptr 4 0), (5, .ptr 5 0), (6, .ptr 6 0), (7, .ptr 7 0), (11, .d (i64 (many + 1 : Nat))), (12, .d (i64 n)), (17, .d (.bool false))],
        [(2, .box (.dd [i64 many])), (3, .box (.dd [.clo g caps])), (4, .box (.vv [.sl 900000 1 0 0])), (5, .box (.dd [i64 y])), (6, .box (.dd [.bool b'])), (7, .box (.vv [.clo 96 [.ptr 3 0, .ptr 4 0, .ptr 5 0, .ptr 6 0, .ptr 2 0, .ptr 7 0]])), (900000, .arr 1 (.dd []))], s'⟩,
        (Wk.move 101088 900000 rfl rfl).trans (Wk.sub ⟨rfl, rfl, rfl, rfl, rfl, rfl, rfl, rfl, rfl, trivial⟩ ⟨rfl, rfl, rfl, rfl, rfl, rfl, rfl, trivial⟩), ?_⟩
      conv => whnf
      refine arith_in (wrap_i64 (by (try dsimp only); omega)) ?_
      conv => whnf
      exact ⟨(n + 1, y, b'), by simp only; omega, ⟨by simp only; omega, by simp only; rw [hm2]; exact he⟩, (Wk.sub ⟨rfl, rfl, rfl, rfl, rfl, rfl, rfl, rfl, trivial⟩ ⟨rfl, rfl, rfl, rfl, rfl, rfl, rfl, trivial⟩)⟩
  · have h1 : ¬ n < many + 1 := by have := of_decide_eq_false h1; omega
    rw [show many + 1 - n = 0 by omega] at he
    conv => whnf
    refine RetA_nil0 ?_
    refine RetA_view 0 rfl ⟨rfl, rfl, ?_⟩
    rw [he]
    exact ⟨x, rfl⟩

theorem fn98 (l : List Int) (v : Int) (hl : l.length < 4000000000000000000) : FnV Try.prog 98 [intsD l, i64 v] (i64 (indexOf (fun x => decide (v = x)) l 0)) := by
  refine fnV_of mixed tysOk Try.func98 rfl (ft := ft98) 2 (by decide +kernel) (by rfl) fun {σ} Y st => ?_
  conv => whnf
  refine LoopA_i (T := tys) tysOk (by exact drawsB_spec mixed tysOk (by decide +kernel)) l (fun i (_ : Unit) => ⟨[(0, .d (intsD l)), (1, .d (i64 v)), (7, .d (i64 l.length)), (8, .d (i64 i))], [], st⟩) (fun i r _ => indexOf (fun x => decide (v = x)) l 0 = indexOf (fun x => decide (v = x)) r i) ()
    (Wk.sub ⟨(by first | rfl | (simp only [List.length_map]; rfl) | simp [PX.get]), (by first | rfl | (simp only [List.length_map]; rfl) | simp [PX.get]), (by first | rfl | (simp only [List.length_map]; rfl) | simp [PX.get]), (by first | rfl | (simp only [List.length_map]; rfl) | simp [PX.get]), trivial⟩ trivial) rfl ?_ ?_
  · intro i x r _ hx hi hr he
    rw [indexOf] at he
    conv => whnf
    refine brk_i (fun _ => ?_) (fun h => absurd hi (by simpa using h))
    conv => whnf
    refine elemK_nat hx ?_
    conv => whnf
    refine brk_i (fun h1 => ?_) (fun h1 => ?_)
    · conv => whnf
      rw [if_pos h1] at he
      rw [he]
      exact RetA_view 0 rfl ⟨⟨rfl, rfl⟩, rfl⟩
    · conv => whnf
      rw [if_neg (by simp [h1])] at he
      refine arith_in (wrap_i64 (by (try dsimp only); omega)) ?_
      conv => whnf
      exact ⟨(), he, (Wk.sub ⟨(by first | rfl | (simp only [List.length_map]; rfl) | simp [PX.get]), (by first | rfl | (simp only [List.length_map]; rfl) | simp [PX.get]), (by first | rfl | (simp only [List.length_map]; rfl) | simp [PX.get]), (by first | rfl | (simp only [List.length_map]; rfl) | simp [PX.get]), trivial⟩ trivial)⟩
  · intro _ he
    conv => whnf
    refine brk_i (fun h => absurd h (by simp)) (fun _ => ?_)
    conv => whnf
    rw [he]
    exact RetA_view 0 rfl ⟨⟨rfl, rfl⟩, rfl⟩

theorem fn63 (l : List Int) (v : Int) (hl : l.length < 4000000000000000000) : FnV Try.prog 63 [intsD l, i64 v] (.bool (decide (v ∈ l))) := by
  refine fnV_of mixed tysOk Try.func63 rfl (ft := ft63) 2 (by decide +kernel) (by rfl) fun {σ} Y st => ?_
  conv => whnf
  refine CallA_v (fn98 l v hl) rfl rfl ?_
  conv => whnf
  refine RetA_view 0 rfl ⟨⟨?_, rfl⟩, rfl⟩
  have h1 := indexOf_any (fun x => decide (v = x)) l 0 (by omega)
  have h2 : (l.any fun x => decide (v = x)) = decide (v ∈ l) := by
    rw [Bool.eq_iff_iff]; simp
  rw [← h2, ← h1]; rfl

/-- What is wanted of doubts: the others do not contradict each other. -/
def doubtW (s : Shot) (off : Int) (q : List Int) : Int × Bool := ((withoutF q s.gauges 0).length, !(truthsS s off (withoutF q s.gauges 0)).isEmpty)

theorem withoutF_mem {α : Type} {q : List Int} : ∀ {l : List α} {i : Int}, ∀ x ∈ withoutF q l i, x ∈ l
  | [], i, x, h => by cases h
  | a :: r, i, x, h => by
    simp only [withoutF] at h
    split at h
    · exact List.mem_cons_of_mem _ (withoutF_mem x h)
    · rcases List.mem_cons.1 h with rfl | h
      · simp
      · exact List.mem_cons_of_mem _ (withoutF_mem x h)

theorem withoutF_len {α : Type} {q : List Int} : ∀ {l : List α} {i : Int}, (withoutF q l i).length ≤ l.length
  | [], i => by simp [withoutF]
  | a :: r, i => by
    simp only [withoutF]
    split
    · have := withoutF_len (q := q) (l := r) (i := i + 1); simp; omega
    · have := withoutF_len (q := q) (l := r) (i := i + 1); simp; omega

theorem LookOk.sub {s : Shot} {off : Int} {gs gs' : List Gauge} (h : LookOk s off gs) (hm : ∀ g ∈ gs', g ∈ gs) (hl : gs'.length ≤ gs.length) : LookOk s off gs' := ⟨h.off, h.shot, fun g hg => h.gok g (hm g hg), by have := h.len; omega⟩

theorem fn62 (s : Shot) (off : Int) (q : List Int) (h : LookOk s off s.gauges) (hq : q.length < 1000000) : FnV Try.prog 62 [intsD q, .ref (sCells s off)] (.tup [i64 (doubtW s off q).1, .bool (doubtW s off q).2]) := by
  refine fnV_of mixed tysOk Try.func62 rfl (ft := ft62) 2 (by decide +kernel) (by rfl) fun {σ} Y st => ?_
  conv => whnf
  have hlen := h.len
  refine LoopA_i (T := tys) tysOk (by exact drawsB_spec mixed tysOk (by decide +kernel)) s.gauges (fun i (acc : List Gauge) => ⟨[(0, .d (intsD q)), (1, .d (.ref (sCells s off))), (5, .sl 24 2 0 acc.length), (10, .d (gaugesD s.gauges)), (11, .d (i64 s.gauges.length)), (12, .d (i64 i))], [(24, .arr 2 (.dd (acc.map Gauge.cells)))], st⟩)
    (fun i r acc => acc.length ≤ i ∧ withoutF q s.gauges 0 = acc ++ withoutF q r i) []
    ((Wk.born 5 24 2 rfl rfl rfl).trans (Wk.sub ⟨(by first | rfl | (simp only [List.length_map]; rfl) | simp [PX.get]), (by first | rfl | (simp only [List.length_map]; rfl) | simp [PX.get]), (by first | rfl | (simp only [List.length_map]; rfl) | simp [PX.get]), (by first | rfl | (simp only [List.length_map]; rfl) | simp [PX.get]), (by first | rfl | (simp only [List.length_map]; rfl) | simp [PX.get]), (by first | rfl | (simp only [List.length_map]; rfl) | simp [PX.get]), trivial⟩ ⟨(by first | rfl | (simp only [List.length_map]; rfl) | simp [PX.get]), trivial⟩)) ⟨by simp, rfl⟩ ?_ ?_
  · intro i x r acc hx hi hr ⟨ha, he⟩
    rw [withoutF] at he
    conv => whnf
    refine brk_i (fun _ => ?_) (fun h => absurd hi (by simpa using h))
    conv => whnf
    refine elemK_nat hx ?_
    conv => whnf
    refine CallA_v (fn63 q i (by omega)) rfl rfl ?_
    conv => whnf
    refine brk_i (fun h1 => ?_) (fun h1 => ?_)
    · have h1 : (i : Int) ∉ q := by simpa using h1
      rw [if_neg h1] at he
      conv => whnf
      refine chk_i (by simp [Els.len]) ?_
      conv => whnf
      refine chk_i (by simp [Els.len, Els.part, Els.cons, V.cells]; omega) ?_
      conv => whnf
      refine arith_in (wrap_i64 (by (try dsimp only); omega)) ?_
      conv => whnf
      refine ⟨acc ++ [x], ⟨by simp; omega, by rw [he, List.append_assoc]; rfl⟩, Wk.sub ⟨rfl, rfl, ?_, rfl, rfl, rfl, trivial⟩ ⟨?_, trivial⟩⟩
      · simp [PX.get, Els.len, Els.part, Els.cons, V.cells]
      · simp [PX.get, Els.app, Els.part, Els.cons, V.cells, Gauge.cells, take_map]
    · have h1 : (i : Int) ∈ q := by simpa using h1
      rw [if_pos h1] at he
      conv => whnf
      refine arith_in (wrap_i64 (by (try dsimp only); omega)) ?_
      conv => whnf
      exact ⟨acc, ⟨by omega, he⟩, (Wk.sub ⟨(by first | rfl | (simp only [List.length_map]; rfl) | simp [PX.get]), (by first | rfl | (simp only [List.length_map]; rfl) | simp [PX.get]), (by first | rfl | (simp only [List.length_map]; rfl) | simp [PX.get]), (by first | rfl | (simp only [List.length_map]; rfl) | simp [PX.get]), (by first | rfl | (simp only [List.length_map]; rfl) | simp [PX.get]), (by first | rfl | (simp only [List.length_map]; rfl) | simp [PX.get]), trivial⟩ ⟨(by first | rfl | (simp only [List.length_map]; rfl) | simp [PX.get]), trivial⟩)⟩
  · intro acc ⟨ha, he⟩
    rw [withoutF, List.append_nil] at he
    conv => whnf
    refine brk_i (fun h => absurd h (by simp)) (fun _ => ?_)
    conv => whnf
    rw [← he] at ha ⊢
    refine CallA_view (ds := [.agg (sCells s off), gaugesD (withoutF q s.gauges 0)]) (fn64 s off (withoutF q s.gauges 0) (h.sub (fun g hg => withoutF_mem g hg) withoutF_len)) rfl 1 (viewL_cons rfl (viewL_cons (viewV_sl rfl (by simp)) rfl)) ?_
    conv => whnf
    exact RetA_view 0 rfl ⟨⟨rfl, rfl⟩, rfl⟩

def doubtsQ (s : Shot) (off : Int) : List Int :=
  match chooseF (doubtW s off) s.gauges.length with
  | some (q, _) => q
  | none => []

def doubtsE (c : Case) (i : Int) : List Int :=
  if openE c i = 0 then (match c.chain.shots[i.toNat]? with
    | some s => doubtsQ s c.chain.err
    | none => []) else []

theorem fn17 (c : Case) (i : Int) : FnV Try.prog 17 [c.d, i64 i] (.tup [intsD (doubtsE c i), i64 (openE c i)]) := by
  refine fnV_of mixed tysOk Try.func17 rfl (ft := ft17) 2 (by decide +kernel) (by rfl) fun {σ} Y st => ?_
  conv => whnf
  refine CallA_v (ds := [c.d, i64 i]) (fn57 c i) rfl rfl ?_
  by_cases h0 : openE c i = 0
  · obtain ⟨hc, s, hi, hs⟩ := openE_ok h0
    have hR := case_ok hc
    have hm := List.mem_of_getElem? hs
    have hL := hR.look hm
    have hr := (hR.shots s hm).1
    have hlen := hr.len
    have hD : openD c i = .agg (sCells s c.chain.err) := by simp [openD, h0, hs]
    rw [hD, h0]
    conv => whnf
    have hwant : Want96 62 [.ref (sCells s c.chain.err)] (doubtW s c.chain.err) s.gauges.length := fun q _ hq => fn62 s c.chain.err q hL (by omega)
    refine CallA_frz 1 [6] ?_
    refine CallA_sub (e' := [(2, .ptr 2 0), (4, .d .nils), (7, .d (i64 0))]) (h' := []) (args' := [.d (i64 s.gauges.length), .d (.clo 62 [.ref (sCells s c.chain.err)])]) ⟨rfl, rfl, rfl, trivial⟩ trivial (by simp only [List.length_map]; rfl) ?_
    refine CallA_y (fn61 62 [.ref (sCells s c.chain.err)] (doubtW s c.chain.err) s.gauges.length (by omega) hwant Y st) [] rfl rfl rfl rfl ?_
    rintro v h1 s' ⟨rfl, rfl, hv⟩
    cases hF : chooseF (doubtW s c.chain.err) s.gauges.length with
    | some r =>
      obtain ⟨q, y⟩ := r
      rw [hF] at hv
      simp only at hv
      subst hv
      refine ⟨rfl, ?_⟩
      conv => whnf
      refine RetA_view 0 rfl ⟨⟨?_, rfl⟩, rfl⟩
      simp [doubtsE, doubtsQ, h0, hs, hF, packD]
    | none =>
      rw [hF] at hv
      obtain ⟨y, rfl⟩ := hv
      refine ⟨rfl, ?_⟩
      conv => whnf
      refine RetA_view 0 rfl ⟨⟨?_, rfl⟩, rfl⟩
      simp [doubtsE, doubtsQ, h0, hs, hF, packD]
  · have hD : openD c i = .agg [.str ⟨#[]⟩, i64 0, i64 0, i64 0, i64 0, i64 0, i64 0, .nils, i64 0] := by simp [openD, h0]
    rw [hD]
    conv => whnf
    refine brk_i (fun h1 => ?_) (fun h1 => absurd h0 (by simpa using h1))
    conv => whnf
    refine RetA_nil0 ?_
    refine RetA_view 0 rfl ⟨⟨?_, rfl⟩, rfl⟩
    simp [doubtsE, h0, packD, intsD]
end Go.PX
