import Derived.Test.YtiflhdanniajdaaPxO
import Derived.Test.YtiflhdanniajdaaPxI
set_option linter.all false
set_option maxRecDepth 10000
namespace Go.PX
open Go.Proofs

/- Lamp: the reference: Stretches, Lit, Shows. -/

def strG : List Bool → Int → Bool → List Span → Span → List Span
  | [], _, _, A, y => A ++ [y]
  | b :: r, s, p, A, y => if b = p then strG r (s + 1) b A ⟨y.lo, s⟩ else strG r (s + 1) b (A ++ [y]) ⟨s, s⟩

def strF : List Bool → List Span
  | [] => []
  | b :: r => strG r 1 b [] ⟨0, 0⟩

abbrev StrS := Option (Bool × List Span × Span)
def strL : StrS → List Span
  | none => []
  | some (_, A, y) => A ++ [y]
def strN : StrS → Nat
  | none => 0
  | some (_, A, _) => A.length + 1
theorem strL_len (o : StrS) : (strL o).length = strN o := by
  cases o with
  | none => rfl
  | some p => obtain ⟨p, A, y⟩ := p; simp [strL, strN]

/-- What is known after so many seconds. -/
def StrJ (L : List Bool) (i : Nat) (r : List Bool) : StrS → Prop
  | none => i = 0 ∧ strF L = strF r
  | some (p, A, y) => 0 < i ∧ L[i - 1]? = some p ∧ strF L = strG r i p A y ∧ A.length + 1 ≤ i

set_option maxHeartbeats 1000000 in
theorem la99 (L : List Bool) (hL : L.length ≤ 100000) : FnV Try.prog 99 [boolsD L] (spansD (strF L)) := by
  refine fnV_of mixed tysOk Try.func99 rfl (ft := ft99) 1 (by decide +kernel) (by rfl) fun {σ} Y st => ?_
  conv => whnf
  refine LoopA_i (T := tys) tysOk (by exact drawsB_spec mixed tysOk (by decide +kernel)) L (fun i (o : StrS) => ⟨[(0, .d (boolsD L)), (3, .sl 900000 2 0 (strN o)), (4, .d (i64 i))], [(900000, .arr 2 (.dd ((strL o).map Span.cells)))], st⟩) (fun i r o => StrJ L i r o) none ((Wk.born 3 900000 2 rfl rfl rfl).trans (Wk.sub ⟨(by first | rfl | (simp only [List.length_map]; rfl) | simp [PX.get]), (by first | rfl | (simp only [List.length_map]; rfl) | simp [PX.get]), (by first | rfl | (simp only [List.length_map]; rfl) | simp [PX.get]), trivial⟩ ⟨(by first | rfl | (simp only [List.length_map]; rfl) | simp [PX.get]), trivial⟩)) ⟨rfl, rfl⟩ ?_ ?_
  · intro i b r o hx hi hr hJ
    have hb : L.length = i + 1 + r.length := by omega
    conv => whnf
    refine brk_i (fun _ => ?_) (fun h => absurd hi (by simpa using h))
    conv => whnf
    cases o with
    | none =>
      obtain ⟨h0, he⟩ := hJ
      subst h0
      rw [show decide ((0 : Int) < ((0 : Nat) : Int)) = false from rfl]
      conv => whnf
      refine ownK_whole rfl ?_
      conv => whnf
      refine ownK_whole rfl ?_
      conv => whnf
      refine arith_in (wrap_i64 (by (try dsimp only); omega)) ?_
      conv => whnf
      exact ⟨some (b, [], ⟨0, 0⟩), ⟨by omega, hx, he, by simp⟩, (Wk.move 46 900000 rfl rfl).trans (Wk.sub ⟨(by first | rfl | (simp only [List.length_map]; rfl) | simp [PX.get]), (by first | rfl | (simp only [List.length_map]; rfl) | simp [PX.get]), (by first | rfl | (simp only [List.length_map]; rfl) | simp [PX.get]), trivial⟩ ⟨(by first | rfl | (simp only [List.length_map]; rfl) | simp [PX.get]), trivial⟩)⟩
    | some q =>
      obtain ⟨p, A, y⟩ := q
      obtain ⟨h0, hp, he, hA⟩ := hJ
      rw [strG] at he
      have hlen : ((strL (some (p, A, y))).map Span.cells).length = A.length + 1 := by simp [strL]
      rw [show decide ((0 : Int) < (i : Int)) = true from decide_eq_true (by omega)]
      conv => whnf
      refine elemK_nat hx ?_
      conv => whnf
      refine arith_to ((i - 1 : Nat) : Int) (by omega) (wrap_i64 (by omega)) ?_
      conv => whnf
      refine elemK_nat hp ?_
      conv => whnf
      by_cases h1 : b = p
      · rw [if_pos h1] at he
        subst h1
        rw [show (b == b) = true by simp]
        conv => whnf
        refine arith_to ((A.length : Nat) : Int) (by simp [strN]) (wrap_i64 (by omega)) ?_
        conv => whnf
        rw [show (decide ((0 : Int) ≤ (A.length : Int)) && decide ((A.length : Int) ≤ (strN (some (b, A, y)) : Int))) = true from by rw [Bool.and_eq_true, decide_eq_true_eq, decide_eq_true_eq]; simp only [strN]; omega]
        conv => whnf
        refine arith_to ((A.length : Nat) : Int) (by simp [strN]) (wrap_i64 (by omega)) ?_
        conv => whnf
        rw [show (decide ((0 : Int) ≤ (A.length : Int)) && decide ((A.length : Int) < (strN (some (b, A, y)) : Int))) = true from by rw [Bool.and_eq_true, decide_eq_true_eq, decide_eq_true_eq]; simp only [strN]; omega]
        conv => whnf
        rw [show (List.map Span.cells (strL (some (b, A, y))))[0 + ((A.length : Int)).toNat]? = some y.cells from by simp [strL]]
        conv => whnf
        refine ownK_whole rfl ?_
        conv => whnf
        refine ⟨by show Nat.ble (0 + ((A.length : Int).toNat - 0)) ((strL (some (b, A, y))).map Span.cells).length = true; rw [hlen]; exact Nat.ble_eq_true_of_le (by omega), ?_⟩
        conv => whnf
        have hpart : (Els.dd ((strL (some (b, A, y))).map Span.cells)).part 0 ((A.length : Int).toNat - 0) = Els.dd (A.map Span.cells) := by simp [Els.part, strL]
        rw [hpart]
        refine chk_i (decide_eq_true (by
          show ((A.map Span.cells).length + 1) * 16 ≤ 140737488355328
          rw [List.length_map]; omega)) ?_
        conv => whnf
        refine arith_in (wrap_i64 (by (try dsimp only); omega)) ?_
        conv => whnf
        refine ⟨some (b, A, ⟨y.lo, i⟩), ⟨by omega, by rw [Nat.add_sub_cancel]; exact hx, he, by omega⟩, (Wk.move 40 900000 rfl rfl).trans (Wk.sub ⟨rfl, ?_, rfl, trivial⟩ ⟨?_, trivial⟩)⟩
        · show some (V.sl 900000 2 0 ((A.map Span.cells).length + 1)) = some (V.sl 900000 2 0 (A.length + 1))
          rw [List.length_map]
        · show some (Obj.arr 2 (.dd (A.map Span.cells ++ [[i64 y.lo, i64 i]]))) = some (Obj.arr 2 (.dd ((A ++ [(⟨y.lo, i⟩ : Span)]).map Span.cells)))
          rw [List.map_append]; rfl
      · rw [if_neg h1] at he
        rw [show (b == p) = false by simpa using h1]
        conv => whnf
        refine ownK_whole rfl ?_
        conv => whnf
        refine ownK_whole (by simp [Els.len, strL, strN]) ?_
        conv => whnf
        refine chk_i (decide_eq_true (by
          show (((strL (some (p, A, y))).map Span.cells).length + 1) * 16 ≤ 140737488355328
          rw [hlen]; omega)) ?_
        conv => whnf
        refine arith_in (wrap_i64 (by (try dsimp only); omega)) ?_
        conv => whnf
        refine ⟨some (b, A ++ [y], ⟨i, i⟩), ⟨by omega, by rw [Nat.add_sub_cancel]; exact hx, he, by simp; omega⟩, (Wk.move 46 900000 rfl rfl).trans (Wk.sub ⟨rfl, ?_, rfl, trivial⟩ ⟨?_, trivial⟩)⟩
        · show some (V.sl 900000 2 0 (((A ++ [y]).map Span.cells).length + 1)) = some (V.sl 900000 2 0 ((A ++ [y]).length + 1))
          rw [List.length_map]
        · show some (Obj.arr 2 (.dd ((A ++ [y]).map Span.cells ++ [[i64 i, i64 i]]))) = some (Obj.arr 2 (.dd ((A ++ [y] ++ [(⟨i, i⟩ : Span)]).map Span.cells)))
          rw [List.map_append (l₁ := A ++ [y])]; rfl
  · intro o hJ
    have : strF L = strL o := by
      cases o with
      | none => exact hJ.2
      | some q => obtain ⟨p, A, y⟩ := q; exact hJ.2.2.1
    rw [this]
    conv => whnf
    refine brk_i (fun h => absurd h (by simp)) (fun _ => ?_)
    conv => whnf
    exact RetA_sl rfl (by rw [List.length_map, strL_len]) ⟨⟨rfl, rfl⟩, rfl⟩
end Go.PX

namespace Go.PX
open Go.Proofs

/- Lamp: the reference: Lit, Shows. -/

def litAt (L : List Bool) (s : Int) : Bool := L.getD s.toNat false
def litL (L : List Bool) : List Span := (strF L).filter fun s => litAt L s.lo

theorem strG_in {L : List Bool} : ∀ {r : List Bool} {s : Int} {p : Bool} {A : List Span} {y : Span}, (∀ z ∈ A, 0 ≤ z.lo ∧ z.lo ≤ z.hi ∧ z.hi < L.length) → (0 ≤ y.lo ∧ y.lo ≤ y.hi ∧ y.hi < s) → s + r.length = L.length →
    ∀ z ∈ strG r s p A y, 0 ≤ z.lo ∧ z.lo ≤ z.hi ∧ z.hi < L.length
  | [], s, p, A, y, hA, hy, hs, z, hz => by
    rw [strG] at hz
    simp only [List.length_nil] at hs
    rcases List.mem_append.1 hz with hz | hz
    · exact hA z hz
    · rw [List.mem_singleton.1 hz]; omega
  | b :: r, s, p, A, y, hA, hy, hs, z, hz => by
    rw [strG] at hz
    simp only [List.length_cons] at hs
    split at hz
    · exact strG_in hA (by simp only; omega) (by omega) z hz
    · refine strG_in (fun u hu => ?_) (by simp only; omega) (by omega) z hz
      rcases List.mem_append.1 hu with hu | hu
      · exact hA u hu
      · rw [List.mem_singleton.1 hu]; omega

theorem strF_in {L : List Bool} : ∀ z ∈ strF L, 0 ≤ z.lo ∧ z.lo ≤ z.hi ∧ z.hi < L.length := by
  intro z hz
  cases L with
  | nil => cases hz
  | cons b r => exact strG_in (L := b :: r) (by simp) (by simp) (by simp; omega) z hz

theorem strG_len : ∀ {r : List Bool} {s : Int} {p : Bool} {A : List Span} {y : Span}, (strG r s p A y).length ≤ A.length + 1 + r.length
  | [], _, _, A, y => by simp [strG]
  | b :: r, s, p, A, y => by
    rw [strG]
    split
    · have := strG_len (r := r) (s := s + 1) (p := b) (A := A) (y := ⟨y.lo, s⟩); simp only [List.length_cons]; omega
    · have := strG_len (r := r) (s := s + 1) (p := b) (A := A ++ [y]) (y := ⟨s, s⟩)
      simp only [List.length_cons, List.length_append, List.length_nil] at this ⊢; omega

theorem strF_len (L : List Bool) : (strF L).length ≤ L.length := by
  cases L with
  | nil => exact Nat.le_refl _
  | cons b r =>
    have := strG_len (r := r) (s := 1) (p := b) (A := []) (y := ⟨0, 0⟩)
    simp only [strF, List.length_cons, List.length_nil] at *
    omega

/-- The program's list of the lit stretches is the reference's. -/
theorem showF_str {f : Int → Bool} : ∀ {r : List Bool} {s : Int} {p : Bool} {A : List Span} {y : Span}, (∀ k b, r[k]? = some b → f (s + (k : Nat)) = b) → f y.lo = p →
    showF r s p ((A ++ [y]).filter fun z => f z.lo) = (strG r s p A y).filter fun z => f z.lo
  | [], _, _, _, _, _, _ => rfl
  | b :: r, s, p, A, y, hf, hy => by
    have hb : f s = b := by have := hf 0 b rfl; simpa using this
    have hr : ∀ k c, r[k]? = some c → f (s + 1 + (k : Nat)) = c := fun k c hk => by
      have := hf (k + 1) c (by simpa using hk)
      rw [← this]; congr 1; omega
    rw [showF, strG]
    by_cases h1 : b = p
    · rw [if_pos h1]
      rw [← showF_str (A := A) (y := ⟨y.lo, s⟩) hr (by rw [h1]; exact hy)]
      congr 1
      cases b with
      | false =>
        rw [← h1] at hy
        rw [if_neg (by simp), List.filter_append, List.filter_append]
        simp [List.filter, hy]
      | true =>
        rw [← h1] at hy ⊢
        rw [if_pos rfl, if_pos rfl, List.filter_append, List.filter_append]
        have e1 : ([y].filter fun z => f z.lo) = [y] := by simp [List.filter, hy]
        have e2 : ([(⟨y.lo, s⟩ : Span)].filter fun z => f z.lo) = [⟨y.lo, s⟩] := by simp [List.filter, hy]
        rw [e1, e2]
        unfold setHi
        have : (A.filter (fun z => f z.lo) ++ [y]).length - 1 = (A.filter (fun z => f z.lo)).length := by simp
        rw [this]
        apply List.ext_getElem?
        intro i
        rw [List.getElem?_modify]
        by_cases hi : (A.filter (fun z => f z.lo)).length = i
        · subst hi; simp
        · simp only [if_neg hi]
          by_cases hlt : i < (A.filter (fun z => f z.lo)).length
          · rw [List.getElem?_append_left hlt, List.getElem?_append_left hlt]; simp
          · rw [List.getElem?_eq_none (by simp; omega), List.getElem?_eq_none (by simp; omega)]; rfl
    · rw [if_neg h1]
      rw [← showF_str (A := A ++ [y]) (y := ⟨s, s⟩) hr hb]
      congr 1
      rw [List.filter_append (l₁ := A ++ [y])]
      cases b with
      | false =>
        rw [if_neg (by simp)]
        simp [List.filter, hb]
      | true =>
        have hp : p = false := by cases p <;> simp_all
        rw [if_pos rfl, hp, if_neg (by simp)]
        simp [List.filter, hb]

theorem show_lit (L : List Bool) : showF L 0 false [] = litL L := by
  unfold litL
  cases L with
  | nil => rfl
  | cons b r =>
    rw [showF, strF]
    have hg : ∀ k c, r[k]? = some c → litAt (b :: r) (1 + (k : Nat)) = c := fun k c hk => by
      unfold litAt
      rw [show (1 + ((k : Nat) : Int)).toNat = k + 1 by omega]
      simp [List.getD_eq_getElem?_getD, hk]
    have h0 : litAt (b :: r) 0 = b := by unfold litAt; simp
    rw [← showF_str (A := []) (y := ⟨0, 0⟩) hg h0]
    congr 1
    cases b with
    | false => simp [List.filter, h0]
    | true => simp [List.filter, h0]

set_option maxHeartbeats 1000000 in
theorem la75 (L : List Bool) (hL : L.length ≤ 100000) : FnV Try.prog 75 [boolsD L] (spansD (litL L)) := by
  refine fnV_of mixed tysOk Try.func75 rfl (ft := ft75) 1 (by decide +kernel) (by rfl) fun {σ} Y st => ?_
  conv => whnf
  refine CallA_v (la99 L hL) rfl rfl ?_
  conv => whnf
  unfold litL
  have hin := strF_in (L := L)
  have hsl := strF_len L
  generalize strF L = S at hin hsl
  refine LoopA_i (T := tys) tysOk (by exact drawsB_spec mixed tysOk (by decide +kernel)) S (fun i (acc : List Span) => ⟨[(0, .d (boolsD L)), (3, .d (spansD S)), (4, .sl 28 2 0 acc.length), (5, .d (i64 i))], [(28, .arr 2 (.dd (acc.map Span.cells)))], st⟩)
    (fun i r acc => (S.filter fun s => litAt L s.lo) = acc ++ (r.filter fun s => litAt L s.lo) ∧ acc.length ≤ i) [] ((Wk.born 4 28 2 rfl rfl rfl).trans (Wk.sub ⟨(by first | rfl | (simp only [List.length_map]; rfl) | simp [PX.get]), (by first | rfl | (simp only [List.length_map]; rfl) | simp [PX.get]), (by first | rfl | (simp only [List.length_map]; rfl) | simp [PX.get]), (by first | rfl | (simp only [List.length_map]; rfl) | simp [PX.get]), trivial⟩ ⟨(by first | rfl | (simp only [List.length_map]; rfl) | simp [PX.get]), trivial⟩)) ⟨rfl, by simp⟩ ?_ ?_
  · intro i z r acc hx hi hr ⟨he, hal⟩
    rw [List.filter_cons] at he
    have hz := hin z (List.mem_of_getElem? hx)
    have hlt : z.lo.toNat < L.length := by omega
    obtain ⟨b, hb⟩ : ∃ b, L[z.lo.toNat]? = some b := ⟨_, List.getElem?_eq_getElem hlt⟩
    have hlb : litAt L z.lo = b := by unfold litAt; simp [List.getD_eq_getElem?_getD, hb]
    rw [hlb] at he
    conv => whnf
    refine brk_i (fun _ => ?_) (fun h => absurd hi (by simpa using h))
    conv => whnf
    refine elemK_nat hx ?_
    conv => whnf
    refine elemK_i [.bool b] ⟨hz.1, by simp [hb]⟩ ?_
    conv => whnf
    cases b with
    | true =>
      conv => whnf
      refine elemK_nat hx ?_
      conv => whnf
      refine ownK_whole rfl ?_
      conv => whnf
      refine ownK_whole (by simp [Els.len]) ?_
      conv => whnf
      refine chk_i (decide_eq_true (by
        show ((acc.map Span.cells).length + 1) * 16 ≤ 140737488355328
        rw [List.length_map]; omega)) ?_
      conv => whnf
      refine arith_in (wrap_i64 (by (try dsimp only); omega)) ?_
      conv => whnf
      refine ⟨acc ++ [z], ⟨by rw [he]; simp, by simp; omega⟩, Wk.sub ⟨rfl, rfl, ?_, rfl, trivial⟩ ⟨?_, trivial⟩⟩
      · simp [PX.get, Els.len]
      · simp [PX.get]; rfl
    | false =>
      conv => whnf
      refine arith_in (wrap_i64 (by (try dsimp only); omega)) ?_
      conv => whnf
      exact ⟨acc, ⟨by simpa using he, by omega⟩, (Wk.sub ⟨(by first | rfl | (simp only [List.length_map]; rfl) | simp [PX.get]), (by first | rfl | (simp only [List.length_map]; rfl) | simp [PX.get]), (by first | rfl | (simp only [List.length_map]; rfl) | simp [PX.get]), (by first | rfl | (simp only [List.length_map]; rfl) | simp [PX.get]), trivial⟩ ⟨(by first | rfl | (simp only [List.length_map]; rfl) | simp [PX.get]), trivial⟩)⟩
  · intro acc ⟨he, hal⟩
    rw [List.filter_nil, List.append_nil] at he
    rw [he]
    conv => whnf
    refine brk_i (fun h => absurd h (by simp)) (fun _ => ?_)
    conv => whnf
    exact RetA_sl rfl (by simp) ⟨⟨rfl, rfl⟩, rfl⟩

/-- The reference's Shows returns what the program's does. -/
theorem la20 (c : LCase) (t : LTruth) : FnV Try.prog 20 [c.d, t.d] (.tup [spansD (showL c t), i64 (showE c t)]) := by
  refine fnV_of mixed tysOk Try.func20 rfl (ft := ft20) 2 (by decide +kernel) (by rfl) fun {σ} Y st => ?_
  conv => whnf
  refine CallA_v (la16 c) rfl rfl ?_
  conv => whnf
  have hw : (checkL c).2.2 = 0 → c.windings.length ≤ 1000 := fun h => by have := (checkL_ok h).winds; omega
  refine CallA_v (la74 c t (checkL c).2.2 hw) rfl rfl ?_
  conv => whnf
  have he : askE c t (checkL c).2.2 = showE c t := rfl
  rw [he]
  by_cases h1 : showE c t = 0
  case neg =>
    have hl : showL c t = [] := by unfold showL; rw [if_neg h1]
    rw [hl]
    refine brk_i (fun _ => ?_) (fun h2 => absurd h2 (by simp [h1]))
    conv => whnf
    exact RetA_viewR 0 rfl rfl ⟨⟨rfl, rfl⟩, rfl⟩
  have h0 : (checkL c).2.2 = 0 := by
    by_cases h : (checkL c).2.2 = 0
    · exact h
    · unfold showE at h1; rw [if_neg h] at h1; exact absurd h1 h
  have hT : TruthR c t := truth_ok (by unfold showE at h1; rwa [if_pos h0] at h1)
  have hl : showL c t = litL (courseL c.lamp c.windings t) := by unfold showL; rw [if_pos h1, show_lit]
  rw [hl]
  have hR := checkL_ok h0
  refine brk_i (fun h2 => absurd h2 (by simp [h1])) (fun _ => ?_)
  conv => whnf
  refine CallA_v (la50 c.lamp c.windings t (CrsR.of hR hT)) rfl rfl ?_
  conv => whnf
  refine CallA_v (la75 (courseL c.lamp c.windings t) (by have := (courseL_len (w := c.windings) (t := t) hR.lamp).2.1; omega)) rfl rfl ?_
  conv => whnf
  rw [h1]
  exact RetA_view 0 rfl ⟨⟨rfl, rfl⟩, rfl⟩
end Go.PX

namespace Go.PX
open Go.Proofs

/- Lamp: the reference's failing seconds are the program's (plain). -/

def stageS (l : List LPhase) (n : Nat) : Span := match l[(n / 2) % l.length]? with
  | some p => if n % 2 = 0 then p.flash else p.dark
  | none => ⟨0, 0⟩

/-- The second at which stretches fail that begin with a stage. -/
def fromF (l : List LPhase) : List Span → Bool → Nat → Int
  | [], _, _ => -1
  | x :: r, first, n => if x.hi - x.lo + 1 > (stageS l n).hi then x.lo + (stageS l n).hi
    else if !first && (!r.isEmpty && decide (x.hi - x.lo + 1 < (stageS l n).lo)) then x.hi + 1 else fromF l r false (n + 1)

/-- The second at which one state dies. -/
def dieF (l : List LPhase) : List Bool → Bool → LState → Int → Int
  | [], _, _, _ => -1
  | b :: r, p, x, s => match stepS l (b != p) x with
    | none => s
    | some y => dieF l r b y (s + 1)

theorem dieF_rng {l : List LPhase} : ∀ {r : List Bool} {p : Bool} {x : LState} {s : Int}, dieF l r p x s = -1 ∨ s ≤ dieF l r p x s
  | [], _, _, _ => .inl rfl
  | b :: r, p, x, s => by
    rw [dieF]
    split
    · exact .inr (Int.le_refl _)
    · rename_i y _
      rcases dieF_rng (l := l) (r := r) (p := b) (x := y) (s := s + 1) with h | h
      · exact .inl h
      · right; omega

/-- All states die at the last of their seconds. -/
theorem failsF_die {l : List LPhase} : ∀ {r : List Bool} {p : Bool} {A : List LState} {s : Int}, A ≠ [] → 0 ≤ s →
    (∃ x ∈ A, dieF l r p x s = -1) ∧ failsF l r p A s = -1 ∨ (∀ x ∈ A, dieF l r p x s ≠ -1 ∧ dieF l r p x s ≤ failsF l r p A s) ∧ ∃ x ∈ A, dieF l r p x s = failsF l r p A s
  | [], p, A, s, hA, _ => by
    left
    cases A with
    | nil => exact absurd rfl hA
    | cons x r => exact ⟨⟨x, by simp, rfl⟩, rfl⟩
  | b :: r, p, A, s, hA, hs => by
    rw [failsF]
    by_cases hB : A.filterMap (stepS l (b != p)) = []
    · rw [if_pos hB]
      right
      have hd : ∀ x ∈ A, dieF l (b :: r) p x s = s := fun x hx => by
        rw [dieF]
        cases hst : stepS l (b != p) x with
        | none => rfl
        | some y =>
          have : y ∈ A.filterMap (stepS l (b != p)) := List.mem_filterMap.2 ⟨x, hx, hst⟩
          rw [hB] at this
          cases this
      refine ⟨fun x hx => by rw [hd x hx]; omega, ?_⟩
      cases A with
      | nil => exact absurd rfl hA
      | cons x q => exact ⟨x, by simp, hd x (by simp)⟩
    · rw [if_neg hB]
      rcases failsF_die (l := l) (r := r) (p := b) (A := A.filterMap (stepS l (b != p))) (s := s + 1) hB (by omega) with ⟨⟨y, hy, h1⟩, h2⟩ | ⟨h1, y, hy, h2⟩
      · left
        obtain ⟨x, hx, hxy⟩ := List.mem_filterMap.1 hy
        refine ⟨⟨x, hx, ?_⟩, h2⟩
        rw [dieF, hxy]
        exact h1
      · right
        constructor
        · intro x hx
          rw [dieF]
          cases hst : stepS l (b != p) x with
          | none =>
            have h3 := h1 y hy
            have h4 := dieF_rng (l := l) (r := r) (p := b) (x := y) (s := s + 1)
            simp only
            omega
          | some z => exact h1 z (List.mem_filterMap.2 ⟨x, hx, hst⟩)
        · obtain ⟨x, hx, hxy⟩ := List.mem_filterMap.1 hy
          refine ⟨x, hx, ?_⟩
          rw [dieF, hxy]
          exact h2

theorem strG_acc : ∀ {r : List Bool} {s : Int} {p : Bool} {A : List Span} {y : Span}, strG r s p A y = A ++ strG r s p [] y
  | [], _, _, _, _ => rfl
  | b :: r, s, p, A, y => by
    rw [strG, strG]
    split
    · exact strG_acc
    · rw [strG_acc, strG_acc (A := [] ++ [y])]
      simp

theorem strG_head : ∀ {r : List Bool} {s : Int} {p : Bool} {y : Span}, y.hi < s → ∃ z R, strG r s p [] y = z :: R ∧ z.lo = y.lo ∧ y.hi ≤ z.hi
  | [], _, _, y, _ => ⟨y, [], rfl, rfl, Int.le_refl _⟩
  | b :: r, s, p, y, hy => by
    rw [strG]
    split
    · obtain ⟨z, R, h1, h2, h3⟩ := strG_head (r := r) (s := s + 1) (p := b) (y := ⟨y.lo, s⟩) (by simp only; omega)
      simp only at h2 h3
      exact ⟨z, R, h1, h2, by omega⟩
    · rw [strG_acc]
      exact ⟨y, strG r (s + 1) b [] ⟨s, s⟩, rfl, rfl, Int.le_refl _⟩

/-- A state is at a stage. -/
structure AtS (l : List LPhase) (n : Nat) (x : LState) : Prop where
  k : x.k = ((n / 2 % l.length : Nat) : Int)
  fl : x.fl = decide (n % 2 = 0)

theorem AtS.span {l : List LPhase} {n : Nat} {x : LState} (h : AtS l n x) : spanOf l x = stageS l n := by
  unfold spanOf stageS
  rw [h.k, h.fl, Int.toNat_natCast]
  cases l[n / 2 % l.length]? with
  | none => rfl
  | some p => simp

theorem AtS.next {l : List LPhase} {n : Nat} {x : LState} (h : AtS l n x) : AtS l (n + 1) (behindS l.length x) := by
  unfold behindS
  rcases Nat.mod_two_eq_zero_or_one n with h2 | h2
  · have hf : x.fl = true := by rw [h.fl]; exact decide_eq_true h2
    rw [hf]
    refine ⟨?_, ?_⟩
    · simp only [if_true]
      rw [h.k, show (n + 1) / 2 = n / 2 by omega]
    · simp only [Bool.not_true]
      exact (decide_eq_false (by omega)).symm
  · have hf : x.fl = false := by rw [h.fl]; exact decide_eq_false (by omega)
    rw [hf]
    refine ⟨?_, ?_⟩
    · simp only [Bool.false_eq_true, if_false]
      rw [h.k, show (n + 1) / 2 = n / 2 + 1 by omega]
      rw [Int.natCast_emod, Int.emod_add_emod, Int.natCast_emod]
      congr 1
    · simp only [Bool.not_false]
      exact (decide_eq_true (by omega)).symm

theorem AtS.alike {l : List LPhase} {n : Nat} {x y : LState} (h : AtS l n x) (hk : y.k = x.k) (hf : y.fl = x.fl) : AtS l n y := ⟨by rw [hk]; exact h.k, by rw [hf]; exact h.fl⟩

theorem die_from {l : List LPhase} (hl : ∀ n, 1 ≤ (stageS l n).hi) : ∀ {r : List Bool} {s : Int} {p : Bool} {y : Span} {x : LState} {n : Nat}, AtS l n x → x.long = s - y.lo → y.hi = s - 1 → x.long ≤ (stageS l n).hi → y.lo < s →
    dieF l r p x s = fromF l (strG r s p [] y) x.first n
  | [], s, p, y, x, n, ha, h1, h2, h3, _ => by
    rw [dieF, strG, List.nil_append, fromF, if_neg (by omega)]
    simp [fromF]
  | b :: r, s, p, y, x, n, ha, h1, h2, h3, h4 => by
    rw [dieF, strG]
    by_cases hb : b = p
    · rw [if_pos hb]
      have hch : (b != p) = false := by rw [hb]; simp
      rw [hch]
      have ha2 : AtS l n ⟨x.fl, x.k, x.long + 1, x.first⟩ := ha.alike rfl rfl
      unfold stepS
      simp only [Bool.false_and, Bool.false_eq_true, if_false]
      rw [ha2.span]
      by_cases h5 : x.long + 1 ≤ (stageS l n).hi
      · rw [if_pos h5]
        exact die_from hl (x := ⟨x.fl, x.k, x.long + 1, x.first⟩) (y := ⟨y.lo, s⟩) ha2 (by simp only; omega) (by simp only; omega) h5 (by simp only; omega)
      · rw [if_neg h5]
        obtain ⟨z, R, e1, e2, e3⟩ := strG_head (r := r) (s := s + 1) (p := b) (y := ⟨y.lo, s⟩) (by simp only; omega)
        simp only at e2 e3
        rw [e1, fromF, if_pos (by omega)]
        simp only
        omega
    · rw [if_neg hb]
      have hch : (b != p) = true := by simpa using hb
      rw [hch, strG_acc]
      obtain ⟨z, R, e1, e2, e3⟩ := strG_head (r := r) (s := s + 1) (p := b) (y := ⟨s, s⟩) (by simp only; omega)
      have hne : (strG r (s + 1) b [] ⟨s, s⟩).isEmpty = false := by rw [e1]; rfl
      show _ = fromF l (y :: strG r (s + 1) b [] ⟨s, s⟩) x.first n
      rw [fromF, if_neg (by omega), hne]
      unfold stepS
      rw [ha.span]
      have hlen : y.hi - y.lo + 1 = x.long := by omega
      rw [hlen]
      simp only [Bool.true_and, Bool.not_false]
      by_cases h5 : (!x.first && decide (x.long < (stageS l n).lo)) = true
      · rw [if_pos h5, if_pos h5]
        simp only
        omega
      · rw [if_neg h5, if_neg h5]
        simp only [if_true]
        have ha2 := ha.next
        rw [ha2.span]
        have h6 : (behindS l.length x).long = 1 := rfl
        rw [h6, if_pos (hl (n + 1))]
        exact die_from hl (x := behindS l.length x) (y := ⟨s, s⟩) ha2 (by rw [h6]; simp only; omega) (by simp only; omega) (by rw [h6]; exact hl (n + 1)) (by simp only; omega)

/-- What the reference makes of the stages that a light can begin with. -/
def failR : List Int → Int → Int
  | [], acc => acc
  | d :: r, acc => if d < 0 then -1 else failR r (max acc d)

theorem failR_neg : ∀ {l : List Int} {acc : Int}, (∃ d ∈ l, d < 0) → failR l acc = -1
  | [], _, ⟨d, h, _⟩ => by cases h
  | e :: r, acc, ⟨d, h, hd⟩ => by
    rw [failR]
    by_cases he : e < 0
    · rw [if_pos he]
    · rw [if_neg he]
      rcases List.mem_cons.1 h with rfl | h
      · exact absurd hd he
      · exact failR_neg ⟨d, h, hd⟩

theorem failR_max {m : Int} : ∀ {l : List Int} {acc : Int}, (∀ d ∈ l, 0 ≤ d ∧ d ≤ m) → acc ≤ m → (acc = m ∨ m ∈ l) → failR l acc = m
  | [], acc, _, _, h => by
    rcases h with h | h
    · exact h
    · cases h
  | e :: r, acc, h1, h2, h3 => by
    obtain ⟨k1, k2⟩ := h1 e (by simp)
    rw [failR, if_neg (by omega)]
    refine failR_max (fun d hd => h1 d (by simp [hd])) (by omega) ?_
    rcases h3 with h3 | h3
    · left; omega
    · rcases List.mem_cons.1 h3 with h3 | h3
      · left; omega
      · exact .inr h3

def firstOf (b : Bool) (k : Nat) : Nat := if b then 2 * k else 2 * k + 1

theorem stage_hi {l : List LPhase} (h0 : 1 ≤ l.length) (hp : ∀ p ∈ l, phaseIn p = true) (n : Nat) : 1 ≤ (stageS l n).hi ∧ (stageS l n).hi ≤ 200 ∧ 1 ≤ (stageS l n).lo ∧ (stageS l n).lo ≤ 200 := by
  unfold stageS
  have hlt : n / 2 % l.length < l.length := Nat.mod_lt _ (by omega)
  rw [List.getElem?_eq_getElem hlt]
  have := hp _ (List.getElem_mem hlt)
  unfold phaseIn at this
  simp only [Bool.and_eq_true, inB_iff] at this
  simp only
  split <;> omega

theorem fails_ref {l : List LPhase} (h0 : 1 ≤ l.length) (hp : ∀ p ∈ l, phaseIn p = true) (b : Bool) (r : List Bool) :
    failsL (b :: r) l = failR ((List.range l.length).map fun k => fromF l (strF (b :: r)) true (firstOf b k)) 0 := by
  have hhi : ∀ n, 1 ≤ (stageS l n).hi := fun n => (stage_hi h0 hp n).1
  have hst : strF (b :: r) = strG r 1 b [] ⟨0, 0⟩ := rfl
  have hd : ∀ k : Nat, k < l.length → dieF l r b ⟨b, k, 1, true⟩ 1 = fromF l (strF (b :: r)) true (firstOf b k) := fun k hk => by
    rw [hst]
    refine die_from hhi (x := ⟨b, k, 1, true⟩) ⟨?_, ?_⟩ rfl rfl (hhi _) (by decide)
    · show (k : Int) = _
      have : firstOf b k / 2 = k := by unfold firstOf; split <;> omega
      rw [this, Nat.mod_eq_of_lt hk]
    · show b = _
      unfold firstOf
      cases b with
      | true => simp
      | false => simp
  have hmap : ((List.range l.length).map fun k => fromF l (strF (b :: r)) true (firstOf b k)) = (initA b l.length).map fun x => dieF l r b x 1 := by
    unfold initA
    rw [List.map_map]
    refine List.map_congr_left fun k hk => ?_
    exact (hd k (List.mem_range.1 hk)).symm
  rw [hmap]
  have hne : initA b l.length ≠ [] := by
    unfold initA
    intro h
    have := congrArg List.length h
    rw [List.length_map, List.length_range, List.length_nil] at this
    omega
  show failsF l r b (initA b l.length) 1 = _
  rcases failsF_die (l := l) (r := r) (p := b) (A := initA b l.length) (s := 1) hne (by decide) with ⟨⟨x, hx, h1⟩, h2⟩ | ⟨h1, x, hx, h2⟩
  · rw [h2, failR_neg ⟨dieF l r b x 1, List.mem_map.2 ⟨x, hx, rfl⟩, by omega⟩]
  · refine (failR_max (fun d hd2 => ?_) ?_ (.inr (List.mem_map.2 ⟨x, hx, h2⟩))).symm
    · obtain ⟨z, hz, rfl⟩ := List.mem_map.1 hd2
      have h3 := h1 z hz
      have h4 := dieF_rng (l := l) (r := r) (p := b) (x := z) (s := 1)
      omega
    · have h3 := h1 x hx
      have h4 := dieF_rng (l := l) (r := r) (p := b) (x := x) (s := 1)
      omega
end Go.PX

namespace Go.PX
open Go.Proofs

/- Lamp: the reference: stage, from, Failing, Fails. -/

theorem la120 (l : List LPhase) (n : Nat) (h0 : 1 ≤ l.length) (hl : l.length ≤ 1000) (hn : n ≤ 100000) : FnV Try.prog 120 [phasesD l, i64 n] (stageS l n).d := by
  refine fnV_of mixed tysOk Try.func120 rfl (ft := ft120) 2 (by decide +kernel) (by rfl) fun {σ} Y st => ?_
  conv => whnf
  have e1 : ((n : Int)).tdiv 2 = ((n / 2 : Nat) : Int) := by rw [Int.tdiv_eq_ediv_of_nonneg (by omega)]; omega
  have e2 : (((n / 2 : Nat) : Int)).tmod (l.length : Int) = ((n / 2 % l.length : Nat) : Int) := by
    rw [Int.tmod_eq_emod_of_nonneg (by omega)]; exact (Int.natCast_emod _ _).symm
  have e3 : ((n : Int)).tmod 2 = ((n % 2 : Nat) : Int) := (Int.tmod_eq_emod_of_nonneg (a := (n : Int)) (b := 2) (by omega)).trans (by omega)
  have hlt : n / 2 % l.length < l.length := Nat.mod_lt _ (by omega)
  obtain ⟨p, hp⟩ : ∃ p, l[n / 2 % l.length]? = some p := ⟨_, List.getElem?_eq_getElem hlt⟩
  have hs : stageS l n = if n % 2 = 0 then p.flash else p.dark := by unfold stageS; rw [hp]
  rw [hs]
  refine arith_to ((n / 2 : Nat) : Int) e1 (wrap_i64 (by omega)) ?_
  conv => whnf
  refine chk_i (decide_eq_true (by simp only [List.length_map]; omega)) ?_
  conv => whnf
  rw [List.length_map, e2]
  refine elemK_nat hp ?_
  conv => whnf
  rw [e3]
  by_cases h2 : n % 2 = 0
  · rw [if_pos h2, show decide (((n % 2 : Nat) : Int) = 0) = true from decide_eq_true (by omega)]
    conv => whnf
    exact RetA_view 0 rfl ⟨⟨rfl, rfl⟩, rfl⟩
  · rw [if_neg h2, show decide (((n % 2 : Nat) : Int) = 0) = false from decide_eq_false (by omega)]
    conv => whnf
    exact RetA_view 0 rfl ⟨⟨rfl, rfl⟩, rfl⟩

theorem la100 (S : List Span) (l : List LPhase) (n : Nat) (h0 : 1 ≤ l.length) (hl : l.length ≤ 1000) (hp : ∀ p ∈ l, phaseIn p = true) (hn : n ≤ 1000) (hS : S.length ≤ 1000) (hs : ∀ s ∈ S, 0 ≤ s.lo ∧ s.lo ≤ s.hi ∧ s.hi ≤ 1000) : FnV Try.prog 100 [spansD S, phasesD l, i64 n] (i64 (fromF l S true n)) := by
  refine fnV_of mixed tysOk Try.func100 rfl (ft := ft100) 3 (by decide +kernel) (by rfl) fun {σ} Y st => ?_
  conv => whnf
  refine LoopA_i (T := tys) tysOk (by exact drawsB_spec mixed tysOk (by decide +kernel)) S (fun i (_ : Unit) => ⟨[(0, .d (spansD S)), (1, .d (phasesD l)), (2, .d (i64 n)), (7, .d (i64 i))], [], st⟩) (fun i r _ => fromF l S true n = fromF l r (decide (i = 0)) (n + i)) () (Wk.sub ⟨(by first | rfl | (simp only [List.length_map]; rfl) | simp [PX.get]), (by first | rfl | (simp only [List.length_map]; rfl) | simp [PX.get]), (by first | rfl | (simp only [List.length_map]; rfl) | simp [PX.get]), (by first | rfl | (simp only [List.length_map]; rfl) | simp [PX.get]), trivial⟩ trivial) rfl ?_ ?_
  · intro i x r _ hx hi hr he
    rw [fromF] at he
    have hx1 := hs x (List.mem_of_getElem? hx)
    have hst := stage_hi h0 hp (n + i)
    conv => whnf
    refine brk_i (fun _ => ?_) (fun h => absurd hi (by simpa using h))
    conv => whnf
    refine arith_to ((n + i : Nat) : Int) (by omega) (wrap_i64 (by omega)) ?_
    conv => whnf
    refine CallA_v (la120 l (n + i) h0 hl (by omega)) rfl rfl ?_
    conv => whnf
    generalize stageS l (n + i) = z at he hst
    refine elemK_nat hx ?_
    conv => whnf
    refine arith_in (wrap_i64 (by (try dsimp only); omega)) ?_
    conv => whnf
    refine arith_in (wrap_i64 (by (try dsimp only); omega)) ?_
    conv => whnf
    refine brk_i (fun h1 => ?_) (fun h1 => ?_)
    · have h1 : x.hi - x.lo + 1 > z.hi := by simpa using h1
      rw [if_pos h1] at he
      conv => whnf
      refine arith_in (wrap_i64 (by (try dsimp only); omega)) ?_
      conv => whnf
      rw [he]
      exact RetA_view 0 rfl ⟨⟨rfl, rfl⟩, rfl⟩
    have h1 : ¬ x.hi - x.lo + 1 > z.hi := by simpa using h1
    rw [if_neg h1] at he
    conv => whnf
    by_cases h2 : i = 0
    · subst h2
      rw [show (!decide ((0 : Nat) = 0) && (!r.isEmpty && decide (x.hi - x.lo + 1 < z.lo))) = false from rfl, if_neg (by simp)] at he
      rw [show decide ((0 : Int) < ((0 : Nat) : Int)) = false from rfl]
      conv => whnf
      refine arith_in (wrap_i64 (by (try dsimp only); omega)) ?_
      conv => whnf
      exact ⟨(), by simpa using he, (Wk.sub ⟨(by first | rfl | (simp only [List.length_map]; rfl) | simp [PX.get]), (by first | rfl | (simp only [List.length_map]; rfl) | simp [PX.get]), (by first | rfl | (simp only [List.length_map]; rfl) | simp [PX.get]), (by first | rfl | (simp only [List.length_map]; rfl) | simp [PX.get]), trivial⟩ trivial)⟩
    rw [show decide (i = 0) = false from decide_eq_false h2] at he
    rw [show decide ((0 : Int) < (i : Int)) = true from decide_eq_true (by omega)]
    conv => whnf
    rw [Bool.not_false, Bool.true_and] at he
    refine arith_to ((r.length : Nat) + (i : Int)) (by simp only [List.length_map]; omega) (wrap_i64 (by omega)) ?_
    conv => whnf
    have hnext : fromF l r (decide (i + 1 = 0)) (n + (i + 1)) = fromF l r false (n + i + 1) := by
      rw [decide_eq_false (by omega)]; rfl
    by_cases h3 : r = []
    · subst h3
      rw [show (!([] : List Span).isEmpty && decide (x.hi - x.lo + 1 < z.lo)) = false from rfl, if_neg (by simp)] at he
      rw [show decide ((i : Int) < ((([] : List Span).length : Nat) : Int) + (i : Int)) = false from decide_eq_false (by simp)]
      conv => whnf
      refine arith_in (wrap_i64 (by (try dsimp only); omega)) ?_
      conv => whnf
      exact ⟨(), by rw [hnext]; exact he, (Wk.sub ⟨(by first | rfl | (simp only [List.length_map]; rfl) | simp [PX.get]), (by first | rfl | (simp only [List.length_map]; rfl) | simp [PX.get]), (by first | rfl | (simp only [List.length_map]; rfl) | simp [PX.get]), (by first | rfl | (simp only [List.length_map]; rfl) | simp [PX.get]), trivial⟩ trivial)⟩
    have h4 : 0 < r.length := List.length_pos_iff.2 h3
    have h5 : (!r.isEmpty) = true := by cases r with
      | nil => exact absurd rfl h3
      | cons a b => rfl
    rw [h5, Bool.true_and] at he
    rw [show decide ((i : Int) < ((r.length : Nat) : Int) + (i : Int)) = true from decide_eq_true (by omega)]
    conv => whnf
    refine arith_in (wrap_i64 (by (try dsimp only); omega)) ?_
    conv => whnf
    refine arith_in (wrap_i64 (by (try dsimp only); omega)) ?_
    conv => whnf
    refine brk_i (fun h6 => ?_) (fun h6 => ?_)
    · rw [h6, if_pos rfl] at he
      conv => whnf
      refine arith_in (wrap_i64 (by (try dsimp only); omega)) ?_
      conv => whnf
      rw [he]
      exact RetA_view 0 rfl ⟨⟨rfl, rfl⟩, rfl⟩
    · rw [h6, if_neg (by simp)] at he
      conv => whnf
      refine arith_in (wrap_i64 (by (try dsimp only); omega)) ?_
      conv => whnf
      exact ⟨(), by rw [hnext]; exact he, (Wk.sub ⟨(by first | rfl | (simp only [List.length_map]; rfl) | simp [PX.get]), (by first | rfl | (simp only [List.length_map]; rfl) | simp [PX.get]), (by first | rfl | (simp only [List.length_map]; rfl) | simp [PX.get]), (by first | rfl | (simp only [List.length_map]; rfl) | simp [PX.get]), trivial⟩ trivial)⟩
  · intro _ he
    rw [fromF] at he
    rw [he]
    conv => whnf
    refine brk_i (fun h => absurd h (by simp)) (fun _ => ?_)
    conv => whnf
    exact RetA_view 0 rfl ⟨⟨rfl, rfl⟩, rfl⟩

theorem strF_ne {L : List Bool} (h : L ≠ []) : strF L ≠ [] := by
  cases L with
  | nil => exact absurd rfl h
  | cons b r =>
    obtain ⟨z, R, h1, _⟩ := strG_head (r := r) (s := 1) (p := b) (y := ⟨0, 0⟩) (by decide)
    rw [strF, h1]
    simp

set_option maxHeartbeats 1000000 in
theorem la54 (L : List Bool) (l : List LPhase) (h0 : L ≠ []) (hL : L.length ≤ 200) (hl : (1 ≤ l.length ∧ l.length ≤ 3) ∧ ∀ p ∈ l, phaseIn p = true) : FnV Try.prog 54 [boolsD L, phasesD l] (i64 (failsL L l)) := by
  refine fnV_of mixed tysOk Try.func54 rfl (ft := ft54) 2 (by decide +kernel) (by rfl) fun {σ} Y st => ?_
  conv => whnf
  refine CallA_v (la99 L (by omega)) rfl rfl ?_
  conv => whnf
  obtain ⟨b0, r0, rfl⟩ : ∃ b r, L = b :: r := by
    cases L with
    | nil => exact absurd rfl h0
    | cons b r => exact ⟨b, r, rfl⟩
  rw [fails_ref hl.1.1 hl.2]
  have hin := strF_in (L := b0 :: r0)
  have hsl := strF_len (b0 :: r0)
  have hfr : ∀ n : Nat, n ≤ 1000 → FnV Try.prog 100 [spansD (strF (b0 :: r0)), phasesD l, i64 n] (i64 (fromF l (strF (b0 :: r0)) true n)) := fun n hn {σ} =>
    la100 (strF (b0 :: r0)) l n hl.1.1 (by omega) hl.2 hn (by omega) (fun s hs => by have := hin s hs; omega)
  generalize strF (b0 :: r0) = S at hfr
  refine LoopA_p (T := tys) tysOk (by exact drawsB_spec mixed tysOk (by decide +kernel)) (α := Nat × Int)
    (fun p => ⟨[(0, .d (boolsD (b0 :: r0))), (1, .d (phasesD l)), (5, .d (spansD S)), (6, .d (i64 p.2)), (7, .d (i64 p.1))], [], st⟩)
    (fun p => p.1 ≤ l.length ∧ failR ((List.range l.length).map fun k => fromF l S true (firstOf b0 k)) 0 = failR (((List.range l.length).drop p.1).map fun k => fromF l S true (firstOf b0 k)) p.2) (fun p => l.length - p.1) (0, 0) (Wk.sub ⟨(by first | rfl | (simp only [List.length_map]; rfl) | simp [PX.get]), (by first | rfl | (simp only [List.length_map]; rfl) | simp [PX.get]), (by first | rfl | (simp only [List.length_map]; rfl) | simp [PX.get]), (by first | rfl | (simp only [List.length_map]; rfl) | simp [PX.get]), (by first | rfl | (simp only [List.length_map]; rfl) | simp [PX.get]), trivial⟩ trivial) ⟨Nat.zero_le _, rfl⟩ ?_
  rintro ⟨k, acc⟩ ⟨hk, he⟩
  simp only at hk he
  conv => whnf
  refine brk_i (fun h1 => ?_) (fun h1 => ?_)
  case refine_2 =>
    have h1 : ¬ k < l.length := by have := of_decide_eq_false h1; simp at this; omega
    rw [List.drop_eq_nil_of_le (by simp; omega), List.map_nil, failR] at he
    rw [he]
    conv => whnf
    exact RetA_view 0 rfl ⟨⟨rfl, rfl⟩, rfl⟩
  have h1 : k < l.length := by have := of_decide_eq_true h1; simp at this; omega
  have hd : (List.range l.length).drop k = k :: (List.range l.length).drop (k + 1) := by
    rw [List.drop_eq_getElem_cons (by simpa using h1)]
    simp
  rw [hd, List.map_cons, failR] at he
  conv => whnf
  refine arith_to (((2 * k : Nat) : Int)) (by (try dsimp only); omega) (wrap_i64 (by (try dsimp only); omega)) ?_
  conv => whnf
  have hfin : ∀ (e : Env), True := fun _ => trivial
  cases b0 with
  | true =>
    conv => whnf
    refine CallA_v (hfr (2 * k) (by omega)) rfl rfl ?_
    conv => whnf
    rw [show firstOf true k = 2 * k from rfl] at he
    generalize fromF l S true (2 * k) = f at he
    refine brk_i (fun h2 => ?_) (fun h2 => ?_)
    · have h2 : f < 0 := by simpa using h2
      rw [if_pos h2] at he
      conv => whnf
      rw [he]
      exact RetA_view 0 rfl ⟨⟨rfl, rfl⟩, rfl⟩
    · have h2 : ¬ f < 0 := by simpa using h2
      rw [if_neg h2] at he
      conv => whnf
      refine arith_in (wrap_i64 (by (try dsimp only); omega)) ?_
      conv => whnf
      exact ⟨(k + 1, max acc f), by simp only; omega, ⟨by simp only; omega, he⟩, (Wk.sub ⟨(by first | rfl | (simp only [List.length_map]; rfl) | simp [PX.get]), (by first | rfl | (simp only [List.length_map]; rfl) | simp [PX.get]), (by first | rfl | (simp only [List.length_map]; rfl) | simp [PX.get]), (by first | rfl | (simp only [List.length_map]; rfl) | simp [PX.get]), (by first | rfl | (simp only [List.length_map]; rfl) | simp [PX.get]), trivial⟩ trivial)⟩
  | false =>
    conv => whnf
    refine arith_to (((2 * k : Nat) : Int)) (by (try dsimp only); omega) (wrap_i64 (by (try dsimp only); omega)) ?_
    conv => whnf
    refine arith_to (((2 * k + 1 : Nat) : Int)) (by (try dsimp only); omega) (wrap_i64 (by (try dsimp only); omega)) ?_
    conv => whnf
    refine CallA_v (hfr (2 * k + 1) (by omega)) rfl rfl ?_
    conv => whnf
    rw [show firstOf false k = 2 * k + 1 from rfl] at he
    generalize fromF l S true (2 * k + 1) = f at he
    refine brk_i (fun h2 => ?_) (fun h2 => ?_)
    · have h2 : f < 0 := by simpa using h2
      rw [if_pos h2] at he
      conv => whnf
      rw [he]
      exact RetA_view 0 rfl ⟨⟨rfl, rfl⟩, rfl⟩
    · have h2 : ¬ f < 0 := by simpa using h2
      rw [if_neg h2] at he
      conv => whnf
      refine arith_in (wrap_i64 (by (try dsimp only); omega)) ?_
      conv => whnf
      exact ⟨(k + 1, max acc f), by simp only; omega, ⟨by simp only; omega, he⟩, (Wk.sub ⟨(by first | rfl | (simp only [List.length_map]; rfl) | simp [PX.get]), (by first | rfl | (simp only [List.length_map]; rfl) | simp [PX.get]), (by first | rfl | (simp only [List.length_map]; rfl) | simp [PX.get]), (by first | rfl | (simp only [List.length_map]; rfl) | simp [PX.get]), (by first | rfl | (simp only [List.length_map]; rfl) | simp [PX.get]), trivial⟩ trivial)⟩

theorem LightR.ph {x : LLight} (h : LightR x) : (1 ≤ x.phases.length ∧ x.phases.length ≤ 3) ∧ ∀ p ∈ x.phases, phaseIn p = true := ⟨h.len, fun p hp => (h.phase p hp).1⟩
end Go.PX

/- PX: 'for x := range f' where f holds objects of the frame: they are lent to it. -/
namespace Go.PX
open Go.RowKit

def lentC (c1 n : Nat) (lt : List Nat) (caps : List V) (h0 : Heap) : Bool :=
  allB (fun i => Nat.ble 1000000 i && Nat.blt i 2000000 && !inRange c1 n i) lt && allB (inL lt) (namesOfL caps) && allB (inL lt) (heapNames h0) && (yfreeL caps && yfreeH h0)

/-- What is handed back: what was lent. -/
def backB (lt : List Nat) (h0 : Heap) : Bool := allB (inL lt) (heapNames h0) && yfreeH h0

theorem get_append {α : Type} : ∀ (A B : Tab α) (k : Nat) (o : α), get (A ++ B) k = some o → get A k = some o ∨ get B k = some o
  | [], _, _, _, h => .inr h
  | (i, p) :: A, B, k, o, h => by
    simp only [List.cons_append, get] at h ⊢
    split at h
    · exact .inl h
    · exact get_append A B k o h

theorem Backed_eq {L L' : Loc} {id : Nat} {o : Obj} (hk : L'.κ id = L.κ id) : Backed L' id o ↔ Backed L id o := by
  cases o <;> simp [Backed, hk]

section
variable {σ : Type} {cx : Cx σ} {L : Loc} {F : Nat → Nat} {s : σ} {w : World}

theorem HeapOk.subT {h h' : Heap} (hh : HeapOk cx L F h s w) (hs : SubT h' h) : HeapOk cx L F h' s w :=
  ⟨hh.hg, hh.csz, hh.fresh, fun id o hi => hh.obj id o (hs _ _ hi), fun id o hi => hh.own id o (hs _ _ hi), fun i j o p hi hj => hh.inj i j o p (hs _ _ hi) (hs _ _ hj)⟩

theorem HeapOk.app {A B : Heap} (ha : HeapOk cx L F A s w) (hb : HeapOk cx L F B s w) (hx : ∀ i o j p, get A i = some o → get B j = some p → Backed L i o → Backed L j p → L.ρ i ≠ L.ρ j) : HeapOk cx L F (A ++ B) s w := by
  refine ⟨ha.hg, ha.csz, ha.fresh, fun id o hi => (get_append A B id o hi).elim (ha.obj id o) (hb.obj id o), fun id o hi => (get_append A B id o hi).elim (ha.own id o) (hb.own id o), fun i j o p hi hj bi bj e => ?_⟩
  rcases get_append A B i o hi with h1 | h1 <;> rcases get_append A B j p hj with h2 | h2
  · exact ha.inj i j o p h1 h2 bi bj e
  · exact absurd e (hx i o j p h1 h2 bi bj)
  · exact absurd e.symm (hx j p i o h2 h1 bj bi)
  · exact hb.inj i j o p h1 h2 bi bj e
end

section
variable {P : Program} {T : Tys} {ft : FT} {α σ : Type} {Y : Hd σ}

theorem RangeA_genV (hT : TysOk P T) {g : Operand} {ps : Array Tmp} {a b : Code} (hDa : drawsOk P T ft a) (hDb : drawsOk P T ft b) {f : FuncId} {caps : List V} {e : Env} {h : Heap} {s : σ} {K : AExit → St σ → Prop} (hgv : opnd e g = some (.clo f caps))
    (lt : List Nat) (c1 c2 : Nat) (tb : List Nat) (I : α → Heap × σ) (x0 : α) (hck : rangeB c1 c2 tb e (cutL h lt) = true) (hlt : lentC c1 tb.length lt caps (keepT lt h) = true) (hI : I x0 = (renH (upR c1 tb) (cutL h lt), s)) (hok0 : okH c2 tb (I x0).1 = true)
    (hf : ∀ L, FnC P (liftY (rangeY P T ft Y I ps a b (renE (upR c1 tb) e) c2 tb)) f (.yld :: caps) (keepT lt h) (.go x0, L) fun v h' g => backB lt h' = true ∧ match g.1 with
      | .go x => K .normal ⟨e, renH (dnR c1 tb) (I x).1 ++ h', (I x).2⟩
      | .done ex hd s' => K ex ⟨e, renH (dnR c1 tb) hd ++ h', s'⟩) : RangeA P ft Y g ps a b ⟨e, h, s⟩ K := by
  constructor
  intro cx hY r m L F aa w hg hc
  simp only [codeOk, Bool.and_eq_true] at hc
  obtain ⟨⟨hps, hca⟩, hcb⟩ := hc
  have hps : ∀ p ∈ ps.toList, p < aa.tmps.size := fun p hp => of_decide_eq_true (List.all_eq_true.1 hps p hp)
  simp only [rangeB, Bool.and_eq_true] at hck
  obtain ⟨⟨⟨⟨⟨⟨⟨⟨k1, k2⟩, k3⟩, k4⟩, k5⟩, k6⟩, k7⟩, k8⟩, k9⟩ := hck
  have htb := nodupB_spec k1
  have htb6 : ∀ i ∈ tb, i < 1000000 := fun i hi => Nat.le_of_ble_eq_true (allB_spec k2 i hi)
  have k3 := Nat.le_of_ble_eq_true k3
  have k4 := Nat.le_of_ble_eq_true k4
  have k5 := Nat.le_of_ble_eq_true k5
  have k6 := Nat.le_of_ble_eq_true k6
  have k7 : ∀ k, k < tb.length → inRange c2 64 (c1 + k) = false := fun k hk => by
    have := allB_spec k7 k (List.mem_range.2 hk)
    simpa using this
  have k8 : ∀ i ∈ envNames e, i ∈ tb ∨ (pinned i ∧ inRange c1 tb.length i = false ∧ inRange c2 64 i = false) := by
    intro i hi
    have := allB_spec k8 i hi
    simp only [Bool.or_eq_true, Bool.and_eq_true, Bool.not_eq_true'] at this
    exact this.imp inL_iff.1 fun h => ⟨⟨Nat.le_of_ble_eq_true h.1.1.1, Nat.le_of_ble_eq_true h.1.1.2⟩, h.1.2, h.2⟩
  have k9 : ∀ i ∈ heapNames (cutL h lt), inRange c1 tb.length i = false := fun i hi => by simpa using allB_spec k9 i hi
  simp only [lentC, Bool.and_eq_true] at hlt
  obtain ⟨⟨⟨l1, l2⟩, l3⟩, l4, l5⟩ := hlt
  have l1 : ∀ i ∈ lt, pinned i ∧ inRange c1 tb.length i = false := fun i hi => by
    have := allB_spec l1 i hi
    simp only [Bool.and_eq_true, Bool.not_eq_true'] at this
    exact ⟨⟨Nat.le_of_ble_eq_true this.1.1, Nat.le_of_ble_eq_true this.1.2⟩, this.2⟩
  have l2 : ∀ i ∈ namesOfL caps, i ∈ lt := fun i hi => inL_iff.1 (allB_spec l2 i hi)
  have l3 : ∀ i ∈ heapNames (keepT lt h), i ∈ lt := fun i hi => inL_iff.1 (allB_spec l3 i hi)
  have hltb : ∀ i ∈ lt, i ∉ tb := fun i hi hm => by
    have h1 := (l1 i hi).1
    have h2 := htb6 i hm
    unfold pinned at h1; omega
  have hscut : SubT (cutL h lt) h := fun i o hi => by
    rw [get_cutL] at hi
    split at hi
    · cases hi
    · exact hi
  have hskeep : SubT (keepT lt h) h := sub_keepT lt h
  have htbr : ∀ i ∈ tb, inRange c1 tb.length i = false := fun i hi => by
    cases hr : inRange c1 tb.length i with
    | false => rfl
    | true => rw [inRange_iff] at hr; have := htb6 i hi; omega
  -- up and down
  have hdu : ∀ i, inRange c1 tb.length i = false → dnR c1 tb (upR c1 tb i) = i := by
    intro i hi
    by_cases hm : i ∈ tb
    · obtain ⟨k, hk⟩ := List.mem_iff_getElem?.1 hm
      rw [upR_in htb hk, dnR_in hk]
    · rw [upR_out hm, dnR_out hi]
  have hud : ∀ i, i ∉ tb → upR c1 tb (dnR c1 tb i) = i := by
    intro i hi
    cases hr : inRange c1 tb.length i with
    | false => rw [dnR_out hr, upR_out hi]
    | true =>
      rw [inRange_iff] at hr
      obtain ⟨k, hk⟩ : ∃ k, i = c1 + k := ⟨i - c1, by omega⟩
      obtain ⟨y, hy⟩ : ∃ y, tb[k]? = some y := ⟨_, List.getElem?_eq_getElem (by omega)⟩
      rw [hk, dnR_in hy, upR_in htb hy]
  have henv1 : ∀ i ∈ envNames e, inRange c1 tb.length i = false := fun i hi => (k8 i hi).elim (htbr i) (fun h => h.2.1)
  have hE : ∀ i ∈ envNames (renE (upR c1 tb) e), pinned i ∧ inRange c2 64 i = false := by
    have hren : ∀ (e : Env), ∀ i ∈ envNames (renE (upR c1 tb) e), ∃ j ∈ envNames e, i = upR c1 tb j := by
      intro e
      induction e with
      | nil => intro i hi; cases hi
      | cons kv r ih =>
        obtain ⟨k, v⟩ := kv
        intro i hi
        rcases List.mem_append.1 hi with hi | hi
        · obtain ⟨j, hj, rfl⟩ := namesOf_ren v i hi
          exact ⟨j, List.mem_append.2 (.inl hj), rfl⟩
        · obtain ⟨j, hj, rfl⟩ := ih i hi
          exact ⟨j, List.mem_append.2 (.inr hj), rfl⟩
    intro i hi
    obtain ⟨j, hj, rfl⟩ := hren e i hi
    rcases k8 j hj with hm | ⟨h1, h2, h3⟩
    · obtain ⟨k, hk⟩ := List.mem_iff_getElem?.1 hm
      have hlt := (List.getElem?_eq_some_iff.1 hk).1
      rw [upR_in htb hk]
      exact ⟨by unfold pinned; omega, k7 k hlt⟩
    · have : j ∉ tb := fun hm => by have := htb6 j hm; unfold pinned at h1; omega
      rw [upR_out this]; exact ⟨h1, h3⟩
  obtain ⟨lc, hev, hcap⟩ := hg.opnd hgv
  have hI1 : (I x0).1 = renH (upR c1 tb) (cutL h lt) := by rw [hI]
  have hI2 : (I x0).2 = s := by rw [hI]
  refine wpIn_rangeFunc fun fn _ => ?_
  -- the record is laid
  have enter : ∃ (base : Go.Loop) (l : Nat) (mk : List Nat) (W1 : World), (Instr.enterLoop fn aa.tmps ps a b r).run P w = .ok (l, mk.map mark) W1 ∧ (base.params = ps ∧ base.assign = a ∧ base.body = b ∧ base.tmps = aa.tmps ∧ base.state = .ready ∧ base.pending = none) ∧
      W1.heap[l]? = some (.loop base) ∧ w.heap.size ≤ l ∧ (∀ x, x < w.heap.size → W1.heap[x]? = w.heap[x]?) ∧ Tr F w F W1 ∧ w.heap.size ≤ W1.heap.size ∧ mk.Nodup ∧ ∀ x ∈ mk, w.heap.size ≤ x ∧ W1.heap[x]? = some (.deferred (some [])) := by
    cases r with
    | none =>
      refine ⟨{ state := .ready, pending := none, fn, tmps := aa.tmps, params := ps, assign := a, body := b, defers := w.heap.size }, _, [w.heap.size], _, run_enterLoop_outer fn aa.tmps ps a b, ⟨rfl, rfl, rfl, rfl, rfl, rfl⟩, ?_, by omega, fun x hx => ?_, Tr.trans (Tr.alloc hg.heap.fresh _) (Tr.alloc (fun b hb => hg.heap.fresh b (by simp at hb; omega)) _), by simp; omega, by simp, fun x hx => ?_⟩
      · have := World.alloc_heap_new (w.alloc (.deferred (some []))) (.loop { state := .ready, pending := none, fn, tmps := aa.tmps, params := ps, assign := a, body := b, defers := w.heap.size })
        rwa [World.size_alloc] at this
      · rw [heap_alloc_old _ _ (by simp; omega), heap_alloc_old _ _ hx]
      · rw [List.mem_singleton] at hx
        subst hx
        exact ⟨Nat.le_refl _, by rw [heap_alloc_old _ _ (by simp)]; exact World.alloc_heap_new w _⟩
    | some l0 =>
      obtain ⟨lp, ⟨q1, _⟩, _⟩ := hg.lk l0 rfl
      refine ⟨{ state := .ready, pending := none, fn, tmps := aa.tmps, params := ps, assign := a, body := b, defers := lp.defers }, _, [], _, run_enterLoop_inner q1 fn aa.tmps ps a b, ⟨rfl, rfl, rfl, rfl, rfl, rfl⟩, World.alloc_heap_new w _, Nat.le_refl _, fun x hx => heap_alloc_old _ _ hx, Tr.alloc hg.heap.fresh _, by simp, List.nodup_nil, fun x hx => by cases hx⟩
  obtain ⟨base, l, mk, W1, hent, ⟨hb1, hb2, hb3, hb4, hb5, hb6⟩, hl, hlw, hold, tr1, hsz1, hmn, hmk⟩ := enter
  have hg1 := hg.onward tr1 (fun x hx => ⟨hold x hx, rfl⟩) (fun x hx => hg.heap.fresh x (Nat.le_trans hsz1 hx))
  have hrl : r ≠ some l := by
    rintro rfl
    obtain ⟨lp, ⟨q1, _⟩, _⟩ := hg.lk l rfl
    have := block_lt q1; omega
  let L1 : Loc := ⟨fun j => L.ρ (dnR c1 tb j), fun j => L.κ (dnR c1 tb j)⟩
  have hL1 : ∀ i, inRange c1 tb.length i = false → L1.ρ (upR c1 tb i) = L.ρ i ∧ L1.κ (upR c1 tb i) = L.κ i := fun i hi => by
    show L.ρ (dnR c1 tb (upR c1 tb i)) = L.ρ i ∧ L.κ (dnR c1 tb (upR c1 tb i)) = L.κ i
    rw [hdu i hi]; exact ⟨rfl, rfl⟩
  have hnC : ∀ x, w.heap.size ≤ x → ¬ cx.C s x := fun x hx hC => by have := hg.heap.csz x hC; omega
  have hbase : recOf base (RS.go x0 : RS α σ) = base := by
    cases base; simp only at hb5 hb6; subst hb5; subst hb6; rfl
  have hLt : ∀ i ∈ lt, L1.ρ i = L.ρ i ∧ L1.κ i = L.κ i := fun i hi => by
    have := hL1 i (l1 i hi).2
    rw [upR_out (hltb i hi)] at this
    exact this
  have hHG : RInv cx I l (mk ++ m) r base (renE (upR c1 tb) e) aa.tmps c2 tb L1.ρ L1.κ F W1 (.go x0, L1) W1 F := by
    refine ⟨?_, ⟨by rw [hbase]; exact hl, by show ¬ cx.C (I x0).2 l; rw [hI2]; exact hnC l hlw⟩, fun x hx => ?_, fun l0 h0 => ?_, fun t v ht => ?_, fun _ _ => ⟨rfl, rfl⟩, Tr.refl F W1, hok0⟩
    · show HeapOk cx L1 F (I x0).1 (I x0).2 W1
      rw [hI1, hI2]
      exact (hg1.heap.subT hscut).ren fun i hi => hL1 i (k9 i hi)
    · show _ ∧ ¬ cx.C (I x0).2 x
      rw [hI2]
      rcases List.mem_append.1 hx with hx | hx
      · exact ⟨(hmk x hx).2, hnC x (hmk x hx).1⟩
      · exact hg1.mks x hx
    · show ∃ lp, _ ∧ ¬ cx.C (I x0).2 l0
      rw [hI2]
      exact hg1.lk l0 h0
    · simp only [renE, get_mapT] at ht
      cases h0 : get e t with
      | none => simp [h0] at ht
      | some v0 =>
        simp [h0] at ht
        subst ht
        obtain ⟨x, hx, hr⟩ := hg1.env t v0 h0
        exact ⟨x, hx, (RepV.ren (R := upR c1 tb) (L := L) (L' := L1) v0 x fun i hi => hL1 i (henv1 i (envNames_mem h0 hi))).2 hr⟩
  have hH0 : HeapOk (rangeCx cx I l (mk ++ m) r base (renE (upR c1 tb) e) aa.tmps c2 tb L1.ρ L1.κ F W1) L1 F (keepT lt h) (.go x0, L1) W1 := by
    refine ⟨hHG, fun x hx => ?_, hg1.heap.fresh, fun id o hi => ?_, fun id o hi hb => ?_, fun i j o p hi hj hbi hbj he => ?_⟩
    rotate_left
    · exact RepO.yfree o (yfreeH_spec l5 hi) (RepO.mono (Tr.refl F W1) id o (fun j hj => hLt j (l3 j ((heapNames_key hi).2 j (namesOfO_mem j o hj)))) (hLt id (l3 id (heapNames_key hi).1)) (fun _ => rfl) (hg1.heap.obj id o (hskeep _ _ hi)))
    · have hid := hLt id (l3 id (heapNames_key hi).1)
      have hbL := (Backed_eq (L := L) (L' := L1) hid.2).1 hb
      obtain ⟨q1, q2⟩ := hg1.heap.own id o (hskeep _ _ hi) hbL
      rw [hid.1]
      refine ⟨q1, ?_⟩
      rintro (hx | ⟨j, p, hj, hbj, hx⟩ | hx | hx | hx)
      · have hx : cx.C (I x0).2 (L.ρ id) := hx
        rw [hI2] at hx
        exact q2 hx
      · have hj : get (I x0).1 j = some p := hj
        rw [hI1] at hj
        obtain ⟨j', o1, h1, rfl, rfl⟩ := get_renH hj
        have hr := hL1 j' (k9 j' (heapNames_key h1).1)
        have hbj' := (Backed_ren (R := upR c1 tb) (L := L) (L' := L1) j' o1 hr.2).1 hbj
        have hx : L1.ρ (upR c1 tb j') = L.ρ id := hx
        rw [hr.1] at hx
        have := hg1.heap.inj j' id o1 o (hscut _ _ h1) (hskeep _ _ hi) hbj' hbL hx
        subst this
        rw [get_cutL, if_pos (l3 _ (heapNames_key hi).1)] at h1
        cases h1
      · exact (RepO.not_ctl (hg1.heap.obj id o (hskeep _ _ hi)) hbL (by rw [hx]; exact hl)).1 _ rfl
      · exact (RepO.not_ctl (hg1.heap.obj id o (hskeep _ _ hi)) hbL (hHG.mks _ hx).1).2 _ rfl
      · obtain ⟨lp, ⟨q1, _⟩, _⟩ := hHG.out _ hx
        exact (RepO.not_ctl (hg1.heap.obj id o (hskeep _ _ hi)) hbL q1).1 _ rfl
    · have h1 := hLt i (l3 i (heapNames_key hi).1)
      have h2 := hLt j (l3 j (heapNames_key hj).1)
      rw [h1.1, h2.1] at he
      exact hg1.heap.inj i j o p (hskeep _ _ hi) (hskeep _ _ hj) ((Backed_eq h1.2).1 hbi) ((Backed_eq h2.2).1 hbj) he
    rcases hx with hx | ⟨id, o, hi, hb, hx⟩ | hx | hx | hx
    · exact hHG.heap.csz x hx
    · rw [← hx]; exact (hHG.heap.obj id o hi).lt hb
    · rw [hx]; exact block_lt hl
    · exact block_lt (hHG.mks x hx).1
    · obtain ⟨lp, ⟨q1, _⟩, _⟩ := hHG.out x hx; exact block_lt q1
  have hcall := (hf L1).run _ (range_handles hT hDa hDb hY hrl hb1 hb2 hb3 hb4 ⟨hb5, hb6⟩ hps hg.tsz hca hcb ⟨k5, k6⟩ hE) L1 F (#[.func (.yield l) #[] #[]] ++ lc) W1 hH0 (by
    show RepVL (some l) L1 F W1 (.yld :: caps) _
    refine ⟨.func (.yield l) #[] #[], lc.toList, by simp, ⟨l, rfl, rfl⟩, RepVL.yfree _ _ l4 (RepVL.mono tr1 _ _ (fun i hi => hLt i (l2 i (namesOfL_mem i caps hi))) hcap)⟩)
  refine ⟨l, mk.map mark, W1, { target := .fn (.func f) lc, args := #[.func (.yield l) #[] #[]] }, W1, f, #[.func (.yield l) #[] #[]] ++ lc, W1, hent, ?_, fun _ _ => trivial, ?_, (fun h => by cases h), ?_⟩
  · simp only [resolve, hev]
    simp [go_sem]
  · simp [invoke, go_sem, (hf L1).enter]
  refine (callsIn_fr hcall).mono ?_
  rintro en w' ⟨x, rfl, v, h', gs, L', F', ⟨hbk, hK⟩, hH, hv, tr, pin⟩
  simp only [backB, Bool.and_eq_true] at hbk
  have b1 : ∀ i ∈ heapNames h', i ∈ lt := fun i hi => inL_iff.1 (allB_spec hbk.1 i hi)
  obtain ⟨gg, L2⟩ := gs
  obtain ⟨i1, i2, i3, i4, i5, i6, i7, i8⟩ := hH.hg
  have hnb : (recOf base gg).state ≠ .busy := by cases gg <;> (intro h; cases h)
  have hend := run_endLoop (P := P) i2.1 hnb
  -- the state behind the loop
  obtain ⟨W4, hW4⟩ : ∃ W4, W4 = w'.putObj l (.loop { recOf base gg with state := .exhausted }) := ⟨_, rfl⟩
  rw [← hW4] at hend
  have tr4 : Tr F' w' F' W4 := by rw [hW4]; exact Tr.ctl i2.1 (fun _ _ _ h => by cases h) (fun _ _ h => by cases h) (fun _ _ _ h => by cases h)
  have hk4 : ∀ y, y ≠ l → W4.heap[y]? = w'.heap[y]? := fun y hy => by rw [hW4]; exact World.putObj_heap_other hy
  have h4 := i1.keep tr4 (fun b hb => i1.fresh b (Nat.le_trans tr4.size hb)) (fun b hb => ⟨hk4 b (by rintro rfl; exact i2.2 hb), rfl⟩) (fun id o hi hb => ⟨hk4 _ (fun e => (RepO.not_ctl (i1.obj id o hi) hb (by rw [e]; exact i2.1)).1 _ rfl), rfl⟩)
  let L3 : Loc := ⟨fun i => if i ∈ tb then L2.ρ (upR c1 tb i) else if inRange c1 tb.length i then cx.pρ i else L2.ρ i, fun i => if i ∈ tb then L2.κ (upR c1 tb i) else if inRange c1 tb.length i then cx.pκ i else L2.κ i⟩
  have hL3 : ∀ i, inRange c1 tb.length i = false → L3.ρ i = L2.ρ (upR c1 tb i) ∧ L3.κ i = L2.κ (upR c1 tb i) := by
    intro i hi
    by_cases hm : i ∈ tb
    · simp [L3, hm]
    · simp [L3, hm, hi, upR_out hm]
  have hL3d : ∀ i, i ∉ tb → L3.ρ (dnR c1 tb i) = L2.ρ i ∧ L3.κ (dnR c1 tb i) = L2.κ i := by
    intro i hi
    have : inRange c1 tb.length (dnR c1 tb i) = false := by
      cases hr : inRange c1 tb.length i with
      | false => rw [dnR_out hr]; exact hr
      | true =>
        rw [inRange_iff] at hr
        obtain ⟨k, hk⟩ : ∃ k, i = c1 + k := ⟨i - c1, by omega⟩
        obtain ⟨y, hy⟩ : ∃ y, tb[k]? = some y := ⟨_, List.getElem?_eq_getElem (by omega)⟩
        rw [hk, dnR_in hy]; exact htbr y (List.mem_of_getElem? hy)
    obtain ⟨q1, q2⟩ := hL3 _ this
    rw [hud i hi] at q1 q2
    exact ⟨q1, q2⟩
  have hok' := okH_spec i8
  have hL3t : ∀ i ∈ lt, L3.ρ i = L'.ρ i ∧ L3.κ i = L'.κ i := fun i hi => by
    obtain ⟨q1, q2⟩ := hL3 i (l1 i hi).2
    rw [upR_out (hltb i hi)] at q1 q2
    obtain ⟨q3, q4⟩ := i6 i (l1 i hi).1
    obtain ⟨q5, q6⟩ := pin i (l1 i hi).1
    exact ⟨q1.trans (q3.trans q5.symm), q2.trans (q4.trans q6.symm)⟩
  have hB : HeapOk cx L3 F' h' (gg.st I) W4 := by
    refine ⟨h4.hg, h4.csz, h4.fresh, fun id o hi => ?_, fun id o hi hb => ?_, fun i j o p hi hj hbi hbj he => ?_⟩
    · refine RepO.mono tr4 id o (fun j hj => hL3t j (b1 j ((heapNames_key hi).2 j (namesOfO_mem j o hj)))) (hL3t id (b1 id (heapNames_key hi).1)) (fun hb => hk4 _ fun e => ?_) (RepO.yfree o (yfreeH_spec hbk.2 hi) (hH.obj id o hi))
      exact (hH.own id o hi hb).2 (.inr (.inr (.inl e)))
    · have h3 := hL3t id (b1 id (heapNames_key hi).1)
      have := hH.own id o hi ((Backed_eq h3.2).1 hb)
      rw [h3.1]
      exact ⟨this.1, fun h => this.2 (.inl h)⟩
    · have h1 := hL3t i (b1 i (heapNames_key hi).1)
      have h2 := hL3t j (b1 j (heapNames_key hj).1)
      rw [h1.1, h2.1] at he
      exact hH.inj i j o p hi hj ((Backed_eq h1.2).1 hbi) ((Backed_eq h2.2).1 hbj) he
  have hgood : Good cx r (mk ++ m) L3 F' ⟨e, renH (dnR c1 tb) (gg.heap I) ++ h', gg.st I⟩ { aa with defers := mk.map mark ++ aa.defers } W4 := by
    refine ⟨(h4.ren fun i hi => hL3d i (hok' i hi).2).app hB fun i o j p hi hj hbi hbj he => ?_, fun t v ht => ?_, ?_, fun x hx => ?_, ?_, fun l0 h0 => ?_, fun i hi => ?_, hg.tsz⟩
    · obtain ⟨i', o1, h1, rfl, rfl⟩ := get_renH hi
      have hr := hL3d i' (hok' i' (heapNames_key h1).1).2
      have hj3 := hL3t j (b1 j (heapNames_key hj).1)
      rw [hr.1, hj3.1] at he
      exact (hH.own j p hj ((Backed_eq hj3.2).1 hbj)).2 (.inr (.inl ⟨i', o1, h1, (Backed_ren (R := dnR c1 tb) (L := L2) (L' := L3) i' o1 hr.2).1 hbi, he⟩))
    · obtain ⟨x, hx, hr⟩ := i5 t (mapId (renF (upR c1 tb)) v) (by
        have ht : get e t = some v := ht
        simp only [renE, get_mapT, ht]; rfl)
      refine ⟨x, hx, RepV.mono tr4 v x (fun _ _ => ⟨rfl, rfl⟩) ((RepV.ren (R := upR c1 tb) (L := L3) (L' := L2) v x fun i hi => ?_).1 hr)⟩
      obtain ⟨q1, q2⟩ := hL3 i (henv1 i (envNames_mem ht hi))
      exact ⟨q1.symm, q2.symm⟩
    · show mk.map mark ++ aa.defers = (mk ++ m).map mark
      rw [hg.dfr, List.map_append]
    · obtain ⟨q1, q2⟩ := i3 x hx
      exact ⟨by rw [hk4 x (by rintro rfl; rw [i2.1] at q1; cases q1)]; exact q1, q2⟩
    · rw [List.nodup_append]
      refine ⟨hmn, hg.mnd, fun x hx y hy e => ?_⟩
      have h1 := (hmk x hx).1
      have h2 := block_lt (hg.mks y hy).1
      omega
    · obtain ⟨lp, ⟨q1, q2⟩, q3⟩ := i4 l0 h0
      exact ⟨lp, ⟨by rw [hk4 l0 (by rintro rfl; exact hrl h0)]; exact q1, q2⟩, q3⟩
    · have hm : i ∉ tb := fun hm => by have := htb6 i hm; unfold pinned at hi; omega
      cases hr : inRange c1 tb.length i with
      | true => simp [L3, hm, hr]
      | false =>
        obtain ⟨q1, q2⟩ := hL3 i hr
        rw [upR_out hm] at q1 q2
        obtain ⟨q3, q4⟩ := i6 i hi
        have q5 : L1.ρ i = L.ρ i ∧ L1.κ i = L.κ i := by
          show L.ρ (dnR c1 tb i) = L.ρ i ∧ L.κ (dnR c1 tb i) = L.κ i
          rw [dnR_out hr]; exact ⟨rfl, rfl⟩
        obtain ⟨q6, q7⟩ := hg.pin i hi
        exact ⟨q1.trans (q3.trans (q5.1.trans q6)), q2.trans (q4.trans (q5.2.trans q7))⟩
  have trw : Tr F w F' W4 := Tr.trans tr1 (Tr.trans tr tr4)
  refine ⟨_, W4, hend, ?_⟩
  cases gg with
  | go x =>
    show ∃ e' st' m' L' F', _
    exact ⟨.normal, _, mk ++ m, L3, F', rfl, hK, hgood, trw, rfl⟩
  | done ex hd s' =>
    cases ex with
    | normal => exact wpIn_skip ⟨.normal, _, mk ++ m, L3, F', rfl, hK, hgood, trw, rfl⟩
    | ret => exact wpIn_ret ⟨.ret, _, mk ++ m, L3, F', rfl, hK, hgood, trw, rfl⟩
    | exit i => exact wpIn_exit ⟨.exit i, _, mk ++ m, L3, F', rfl, hK, hgood, trw, rfl⟩
end
end Go.PX

/- PX: functions that yield, holding objects of the frame, to one who takes all. -/
namespace Go.PX
open Go.RowKit

/-- Yield is called with these, one after another, and always says that it goes on. -/
def iterT {γ : Type} (Y : Hd γ) : List (List V × Heap) → γ → (γ → Prop) → Prop
  | [], g, Q => Q g
  | (args, h) :: r, g, Q => Y.y args h g fun v h' g' => h' = h ∧ v = .d (.bool true) ∧ iterT Y r g' Q

/-- A function that yields these to one who takes all, and does this to the objects that it holds. -/
def YieldsT (P : Program) (f : FuncId) (caps : List V) (h0 h1 : Heap) (l : List (List V × Heap)) : Prop :=
  ∀ {γ : Type} (Y : Hd γ) (g : γ) (Q : γ → Prop), iterT Y l g Q → FnC P Y f (.yld :: caps) h0 g fun v h' g' => h' = h1 ∧ Q g'

section
variable {P : Program} {T : Tys} {ft : FT} {α σ : Type} {Y : Hd σ}

theorem RangeA_listT (hT : TysOk P T) {g : Operand} {ps : Array Tmp} {a b : Code} (hDa : drawsOk P T ft a) (hDb : drawsOk P T ft b) {f : FuncId} {caps : List V} {e : Env} {h : Heap} {s : σ} {K : AExit → St σ → Prop} (hgv : opnd e g = some (.clo f caps))
    (lt : List Nat) (c1 c2 : Nat) (tb : List Nat) {β : Type} {items : List β} {arg : β → List V} {hp : β → Heap} {h1 : Heap} (hf : YieldsT P f caps (keepT lt h) h1 (items.map fun b => (arg b, hp b))) (hb1 : backB lt h1 = true)
    (I : α → Heap × σ) (J : List β → α → Prop) (x0 : α) (hck : rangeB c1 c2 tb e (cutL h lt) = true) (hlt : lentC c1 tb.length lt caps (keepT lt h) = true) (hI : I x0 = (renH (upR c1 tb) (cutL h lt), s)) (hok0 : okH c2 tb (I x0).1 = true) (hJ0 : J items x0)
    (round : ∀ it rest x, J (it :: rest) x → ∀ (Q : V → Heap → RS α σ → Prop), (∀ x', J rest x' → Q (.d (.bool true)) (hp it) (.go x')) →
      (rangeY P T ft Y I ps a b (renE (upR c1 tb) e) c2 tb).y (arg it) (hp it) (.go x) Q)
    (fin : ∀ x, J [] x → K .normal ⟨e, renH (dnR c1 tb) (I x).1 ++ h1, (I x).2⟩) : RangeA P ft Y g ps a b ⟨e, h, s⟩ K := by
  refine RangeA_genV hT hDa hDb hgv lt c1 c2 tb I x0 hck hlt hI hok0 fun L => ?_
  have key : ∀ (l : List β) (x : α) (L : Loc), J l x → iterT (liftY (rangeY P T ft Y I ps a b (renE (upR c1 tb) e) c2 tb)) (l.map fun b => (arg b, hp b)) (RS.go x, L) (fun g => match g.1 with
      | .go x => K .normal ⟨e, renH (dnR c1 tb) (I x).1 ++ h1, (I x).2⟩
      | .done ex hd s' => K ex ⟨e, renH (dnR c1 tb) hd ++ h1, s'⟩) := by
    intro l
    induction l with
    | nil => exact fun x L hj => fin x hj
    | cons it rest ih =>
      intro x L hj
      exact round it rest x hj (fun v h' g' => ∀ L', h' = hp it ∧ v = .d (.bool true) ∧ iterT (liftY (rangeY P T ft Y I ps a b (renE (upR c1 tb) e) c2 tb)) (rest.map fun b => (arg b, hp b)) (g', L') (fun g => match g.1 with
      | .go x => K .normal ⟨e, renH (dnR c1 tb) (I x).1 ++ h1, (I x).2⟩
      | .done ex hd s' => K ex ⟨e, renH (dnR c1 tb) hd ++ h1, s'⟩)) (fun x' hj' L' => ⟨rfl, rfl, ih x' L' hj'⟩)
  have hr := hf (liftY (rangeY P T ft Y I ps a b (renE (upR c1 tb) e) c2 tb)) (RS.go x0, L) _ (key items x0 L hJ0)
  refine ⟨hr.enter, fun cx hY L F vals w hh hv => (callsIn_fr (hr.run cx hY L F vals w hh hv)).mono ?_⟩
  rintro en w' ⟨x, rfl, v, h', gs, L', F', ⟨rfl, hK⟩, hrest⟩
  exact ⟨x, rfl, v, _, gs, L', F', ⟨hb1, hK⟩, hrest⟩

/-- Yield, with data, to one who takes all. -/
theorem YldA_vT {e : Env} {h : Heap} {s : σ} {d : Option Nat} {ds : List D} {r : List (List V × Heap)} {Q : σ → Prop} (hit : iterT Y ((inj ds, []) :: r) s Q) {args : List V} (hv : args = inj ds) (hd : Nat.ble (d.getD 0) 10000 = true) {K : St σ → Prop}
    (kt : ∀ s', iterT Y r s' Q → applyK (wset d (.d (.bool true))) e h fun e h => K ⟨e, h, s'⟩) : YldA P Y ⟨e, h, s⟩ d args K := by
  have hB : callB [] d (.d (.bool true)) [] = true := by
    simp only [callB, Bool.and_eq_true]
    refine ⟨⟨⟨⟨⟨⟨⟨⟨⟨rfl, rfl⟩, rfl⟩, rfl⟩, rfl⟩, rfl⟩, rfl⟩, hd⟩, rfl⟩, ?_⟩
    cases d <;> rfl
  have hren : ∀ (R : Nat → Nat) (l : List D), renL R (inj l) = inj l := by
    intro R l
    induction l with
    | nil => rfl
    | cons c r ih => show mapId (renF R) (.d c) :: mapIdL (renF R) (inj r) = .d c :: inj r; rw [show mapIdL (renF R) (inj r) = inj r from ih]; rfl
  refine yldY_of [] hit (by rw [hv]; exact hren _ _) rfl rfl rfl ?_
  rintro v h1 s' ⟨rfl, rfl, hi⟩
  refine ⟨hB, ?_⟩
  have := kt s' hi
  rw [applyK_eq s'] at this
  have hs : (applyWs (⟨e, h, s'⟩ : St σ) (wset d (.d (.bool true)))).s = s' := applyWs_s _ _
  show K (applyWs ⟨e, h, s'⟩ (wset d (.d (.bool true))))
  generalize applyWs (⟨e, h, s'⟩ : St σ) (wset d (.d (.bool true))) = st at this hs
  obtain ⟨e1, h1, s1⟩ := st
  simp only at hs; subst hs; exact this
end
end Go.PX

namespace Go.PX
open Go.Proofs

/- Lamp: the failures of a light (the program). -/

theorem upto_len : ∀ {k : Nat} {v : Int}, (upto k v).length = k
  | 0, _ => rfl
  | k + 1, v => by rw [upto, List.length_cons, upto_len]

theorem len_flatMap {α β : Type} {f : α → List β} {n : Nat} : ∀ {l : List α}, (∀ x ∈ l, (f x).length ≤ n) → (l.flatMap f).length ≤ l.length * n
  | [], _ => by simp
  | x :: r, h => by
    rw [List.flatMap_cons, List.length_append, List.length_cons, Nat.succ_mul]
    have h1 := h x (by simp)
    have h2 := len_flatMap (l := r) fun y hy => h y (by simp [hy])
    omega

theorem speedsL_len {s : Span} (hs : s.hi ≤ s.lo + 4) : ∀ {k : Nat}, (speedsL s k).length ≤ 5 ^ k
  | 0 => by simp [speedsL]
  | k + 1 => by
    rw [speedsL]
    have h1 := len_flatMap (l := spanL s) (f := fun v => (speedsL s k).map (v :: ·)) (n := 5 ^ k) fun v _ => by simpa using speedsL_len hs
    have h2 : (spanL s).length ≤ 5 := by unfold spanL; rw [upto_len]; omega
    have h3 := Nat.mul_le_mul_right (5 ^ k) h2
    rw [Nat.pow_succ]
    omega

theorem allT_len {c : LCase} (hR : CaseL c) : (allT c.lamp c.windings).length ≤ 2000 := by
  unfold allT
  have hk : 5 ^ (c.windings.length + 1) ≤ 125 := by
    have : (5 : Nat) ^ (c.windings.length + 1) ≤ 5 ^ 3 := Nat.pow_le_pow_right (by omega) (by have := hR.winds; omega)
    simpa using this
  have h1 := len_flatMap (l := spanL c.lamp.start) (f := fun st => (speedsL c.lamp.speed (c.windings.length + 1)).map fun l => (⟨st, l⟩ : LTruth)) (n := 125) fun v _ => by
    have := speedsL_len (s := c.lamp.speed) hR.lamp.speed.2.2.2 (k := c.windings.length + 1)
    rw [List.length_map]; omega
  have h2 : (spanL c.lamp.start).length ≤ 13 := by
    unfold spanL; rw [upto_len]
    have := hR.far
    omega
  have := Nat.mul_le_mul_right 125 h2
  omega

theorem agL_len {c : LCase} (h0 : (checkL c).2.2 = 0) : (agL c).length ≤ 2000 := by
  unfold agL
  rw [truL_all (CaseL.up h0).1, List.length_map]
  exact Nat.le_trans (List.length_filter_le _ _) (allT_len (checkL_ok h0))

/-- A truth in which a light fails, and the second. -/
def failedD (x : LTruth × Int) : D := .agg [i64 x.1.start, intsD x.1.speeds, i64 x.2]

def failuresL (ps : List LPhase) (l : List (LTruth × List Bool)) : List (LTruth × Int) := l.filterMap fun p => if failsL p.2 ps < 0 then none else some (p.1, failsL p.2 ps)

theorem la94 (n : Nat) (hn : n ≤ 100000) : FnU Try.prog 94 [.ptr 1000000 0] [(1000000, .box (.dd [i64 n]))] fun v h' => v = .d (.tup []) ∧ h' = [(1000000, .box (.dd [i64 (n + 1 : Nat)]))] := by
  intro σ Y s
  refine fnC_of mixed tysOk Try.func94 rfl (ft := ft94) (args := [.ptr 1000000 0]) (show fnB ft94 Try.f94 1 = true from by decide +kernel) ?_
  conv => whnf
  refine arith_to (((n + 1 : Nat) : Int)) (by (try dsimp only); omega) (wrap_i64 (by (try dsimp only); omega)) ?_
  conv => whnf
  exact RetA_hand [] [] [(1000000, .box (.dd [i64 (n + 1 : Nat)]))] rfl ⟨rfl, trivial⟩ rfl ⟨⟨rfl, rfl⟩, rfl⟩

theorem la95 (x y : LTruth × Int) (hx : -1 ≤ x.2 ∧ x.2 ≤ 200) (hy : -1 ≤ y.2 ∧ y.2 ≤ 200) : FnV Try.prog 95 [failedD x, failedD y] (i64 (x.2 - y.2)) := by
  refine fnV_of mixed tysOk Try.func95 rfl (ft := ft95) 2 (by decide +kernel) (by rfl) fun {σ} Y st => ?_
  conv => whnf
  refine arith_to (x.2 - y.2) (by simp) (wrap_i64 (by omega)) ?_
  conv => whnf
  exact RetA_view 0 rfl ⟨⟨rfl, rfl⟩, rfl⟩

/-- What the closure of failures holds. -/
def tellH (n : Nat) : Heap := [(1000000, .box (.vv [.clo 94 [.ptr 1000001 0]])), (1000001, .box (.dd [i64 n]))]
def failC (c : LCase) (l : LLight) : List V := [.d (.ref c.cells), .ptr 1000000 0, .d (.ref l.cells)]

theorem la93 (c : LCase) (l : LLight) (n : Nat) : FnU Try.prog 93 [.d c.d, .d l.d, .clo 94 [.ptr 1000000 0]] [(1000000, .box (.dd [i64 n]))] fun v h' =>
    v = .clo 119 [.d (.ref c.cells), .ptr 2000000 0, .d (.ref l.cells)] ∧ h' = [(1000000, .box (.dd [i64 n])), (2000000, .box (.vv [.clo 94 [.ptr 1000000 0]]))] := by
  intro σ Y s
  refine fnC_of mixed tysOk Try.func93 rfl (ft := ft93) (args := [.d c.d, .d l.d, .clo 94 [.ptr 1000000 0]]) (show fnB ft93 Try.f93 3 = true from by decide +kernel) ?_
  conv => whnf
  refine RetA_wk (l' := [.clo 119 [.d (.ref c.cells), .ptr 5 0, .d (.ref l.cells)]]) (h' := [(5, .box (.vv [.clo 94 [.ptr 1000000 0]])), (1000000, .box (.dd [i64 n]))]) (Wk.trans (Wk.frz 1 [3, 4]) (Wk.sub ⟨(by first | rfl | (simp only [List.length_map]; rfl) | simp [PX.get]), trivial⟩ ⟨(by first | rfl | (simp only [List.length_map]; rfl) | simp [PX.get]), (by first | rfl | (simp only [List.length_map]; rfl) | simp [PX.get]), trivial⟩)) rfl rfl ?_
  exact RetA_hand [5] [.clo 119 [.d (.ref c.cells), .ptr 2000000 0, .d (.ref l.cells)]] [(1000000, .box (.dd [i64 n])), (2000000, .box (.vv [.clo 94 [.ptr 1000000 0]]))] rfl ⟨rfl, rfl, trivial⟩ rfl ⟨⟨rfl, rfl⟩, rfl⟩
end Go.PX

namespace Go.PX
open Go.Proofs

/- Lamp: the reference: speeds, All, wrong, Agree. -/

def listsD (l : List (List Int)) : D := .vs (l.map fun r => [intsD r])

structure SpdR (s : Span) : Prop where
  lo : 1 ≤ s.lo
  up : s.lo ≤ s.hi
  hi : s.hi ≤ 40
  near : s.hi ≤ s.lo + 4

theorem SpdR.of {x : LLamp} (h : LampR x) : SpdR x.speed := ⟨h.speed.1, h.speed.2.1, h.speed.2.2.1, h.speed.2.2.2⟩

theorem speedsL_len3 {s : Span} (hs : SpdR s) {k : Nat} (hk : k ≤ 3) : (speedsL s k).length ≤ 125 := by
  have h1 := speedsL_len hs.near (k := k)
  have h2 : (5 : Nat) ^ k ≤ 5 ^ 3 := Nat.pow_le_pow_right (by omega) hk
  omega

structure Spd (s : Span) (k : Nat) : Prop where
  h : FnV Try.prog 117 [s.d, i64 k] (listsD (speedsL s k))

set_option maxHeartbeats 1000000 in
theorem spd_all (s : Span) (hs : SpdR s) : ∀ (k : Nat), k ≤ 3 → Spd s k
  | 0, _ => by
    refine ⟨?_⟩
    show FnV Try.prog 117 [s.d, i64 (0 : Nat)] (listsD (speedsL s 0))
    refine fnV_of mixed tysOk Try.func117 rfl (ft := ft117) 2 (by decide +kernel) (by rfl) fun {σ} Y st => ?_
    conv => whnf
    exact RetA_viewR 1 rfl rfl ⟨⟨rfl, rfl⟩, rfl⟩
  | k + 1, hk => by
    have ih : FnV Try.prog 117 [s.d, i64 k] (listsD (speedsL s k)) := (spd_all s hs k (by omega)).h
    refine ⟨?_⟩
    show FnV Try.prog 117 [s.d, i64 (k + 1 : Nat)] (listsD (speedsL s (k + 1)))
    refine fnV_of mixed tysOk Try.func117 rfl (ft := ft117) 2 (by decide +kernel) (by rfl) fun {σ} Y st => ?_
    conv => whnf
    rw [show decide (((k + 1 : Nat) : Int) = 0) = false from decide_eq_false (by omega)]
    conv => whnf
    refine arith_to (((k : Nat) : Int)) (by (try dsimp only); omega) (wrap_i64 (by (try dsimp only); omega)) ?_
    conv => whnf
    refine CallA_v (ih) rfl rfl ?_
    conv => whnf
    have hlen := speedsL_len3 hs hk
    have hrl : ∀ l ∈ speedsL s k, l.length ≤ 3 := fun l hl => by have := (mem_speedsL.1 hl).1; omega
    have hRl := speedsL_len3 hs (k := k) (by omega)
    have hun : speedsL s (k + 1) = (upto (s.hi + 1 - s.lo).toNat s.lo).flatMap fun v => (speedsL s k).map (v :: ·) := rfl
    rw [hun] at hlen ⊢
    generalize speedsL s k = R at hlen hrl hRl
    have h1 := hs.lo
    have h2 := hs.up
    have h3 := hs.hi
    refine LoopA_p (T := tys) tysOk (by exact drawsB_spec mixed tysOk (by decide +kernel)) (α := Nat × List (List Int))
      (fun p => ⟨[(2, .ptr 2 0), (5, .d (listsD R)), (6, .sl 39 1 0 p.2.length), (7, .d (i64 (s.lo + p.1)))], [(2, .box (.dd s.cells)), (39, .arr 1 (.dd (p.2.map fun r => [intsD r])))], st⟩)
      (fun p => p.1 ≤ (s.hi + 1 - s.lo).toNat ∧ ((upto (s.hi + 1 - s.lo).toNat s.lo).flatMap fun v => R.map (v :: ·)) = p.2 ++ (upto ((s.hi + 1 - s.lo).toNat - p.1) (s.lo + p.1)).flatMap fun v => R.map (v :: ·))
      (fun p => (s.hi + 1 - s.lo).toNat - p.1) (0, []) ?wk ?pr ?_
    case wk => exact (Wk.born 6 39 1 rfl rfl rfl).trans (Wk.sub ⟨rfl, rfl, rfl, by show some (V.d (i64 s.lo)) = some (V.d (i64 (s.lo + ((0 : Nat) : Int)))); simp, trivial⟩ ⟨rfl, rfl, trivial⟩)
    case pr => exact ⟨Nat.zero_le _, by simp⟩
    rintro ⟨j, acc0⟩ ⟨hj, he⟩
    simp only at hj he
    conv => whnf
    refine brk_i (fun h4 => ?_) (fun h4 => ?_)
    case refine_2 =>
      have h4 : ¬ s.lo + j ≤ s.hi := by simpa using h4
      rw [show (s.hi + 1 - s.lo).toNat - j = 0 by omega, upto, List.flatMap_nil, List.append_nil] at he
      rw [he]
      conv => whnf
      exact RetA_sl rfl (by simp) ⟨⟨rfl, rfl⟩, rfl⟩
    have h4 : s.lo + j ≤ s.hi := by simpa using h4
    obtain ⟨m, hm⟩ : ∃ m, (s.hi + 1 - s.lo).toNat - j = m + 1 := ⟨(s.hi + 1 - s.lo).toNat - j - 1, by omega⟩
    rw [hm, upto, List.flatMap_cons] at he
    conv => whnf
    refine LoopA_i (T := tys) tysOk (by exact drawsB_spec mixed tysOk (by decide +kernel)) R (fun i (acc : List (List Int)) => ⟨[(2, .ptr 2 0), (5, .d (listsD R)), (6, .sl 39 1 0 acc.length), (7, .d (i64 (s.lo + j))), (8, .d (i64 i))], [(2, .box (.dd s.cells)), (39, .arr 1 (.dd (acc.map fun r => [intsD r])))], st⟩)
      (fun i r acc => acc0 ++ R.map ((s.lo + j) :: ·) = acc ++ r.map ((s.lo + j) :: ·)) acc0 (Wk.sub ⟨(by first | rfl | (simp only [List.length_map]; rfl) | simp [PX.get]), (by first | rfl | (simp only [List.length_map]; rfl) | simp [PX.get]), (by first | rfl | (simp only [List.length_map]; rfl) | simp [PX.get]), (by first | rfl | (simp only [List.length_map]; rfl) | simp [PX.get]), (by first | rfl | (simp only [List.length_map]; rfl) | simp [PX.get]), trivial⟩ ⟨(by first | rfl | (simp only [List.length_map]; rfl) | simp [PX.get]), (by first | rfl | (simp only [List.length_map]; rfl) | simp [PX.get]), trivial⟩) rfl ?_ ?_
    · intro i l r acc hx hi hr hb
      have hll := hrl l (List.mem_of_getElem? hx)
      have hal : acc.length ≤ 125 := by
        rw [he, ← List.append_assoc, hb] at hlen
        simp only [List.length_append] at hlen
        omega
      conv => whnf
      refine brk_i (fun _ => ?_) (fun h => absurd hi (by simpa using h))
      conv => whnf
      refine elemK_nat hx ?_
      conv => whnf
      refine ownK_whole rfl ?_
      conv => whnf
      refine chk_i (by
        rw [Bool.and_eq_true]
        exact ⟨lenAllD_map (fun x => ⟨rfl, rfl⟩) l, rfl⟩) ?_
      conv => whnf
      refine chk_i (decide_eq_true (by
        show (1 + (l.map fun n => [i64 n]).length) * 8 ≤ 140737488355328
        rw [List.length_map]; omega)) ?_
      conv => whnf
      refine ownK_whole rfl ?_
      conv => whnf
      refine ownK_whole (by simp [Els.len]) ?_
      conv => whnf
      have hfree : (true && !nameBL 39 ((injL (acc.map fun r => [intsD r]) ++ [[V.sl 37 1 0 (1 + (l.map fun n => [i64 n]).length)]]).flatten)) = true := by
        rw [nameBL_injL]; rfl
      refine chk_i hfree ?_
      conv => whnf
      refine chk_i (decide_eq_true (by
        show ((acc.map fun r => [intsD r]).length + 1) * 24 ≤ 140737488355328
        rw [List.length_map]; omega)) ?_
      conv => whnf
      refine arith_in (wrap_i64 (by (try dsimp only); omega)) ?_
      conv => whnf
      refine ⟨acc ++ [(s.lo + j) :: l], by rw [hb]; simp, (Wk.frzArr 1 [37] 39 (sz := 1) (vs := injL (acc.map fun r => [intsD r]) ++ [[.sl 37 1 0 (1 + (l.map fun n => [i64 n]).length)]]) (ds := (acc.map fun r => [intsD r]) ++ [[intsD ((s.lo + j) :: l)]]) rfl (viewLL_app (viewLL_one (viewL_cons (viewV_sl' rfl rfl (by simp; omega)) rfl)) _)).trans ?_⟩
      refine Wk.sub ⟨rfl, rfl, ?_, rfl, rfl, trivial⟩ ⟨rfl, ?_, trivial⟩
      · show some (V.sl 39 1 0 ((acc.map fun r => [intsD r]).length + 1)) = _
        simp
      · show some (Obj.arr 1 (Els.dd ((acc.map fun r => [intsD r]) ++ [[intsD ((s.lo + j) :: l)]]))) = _
        simp
    · intro acc hb
      simp only [List.map_nil, List.append_nil] at hb
      conv => whnf
      refine brk_i (fun h => absurd h (by simp)) (fun _ => ?_)
      conv => whnf
      refine arith_to (s.lo + ((j + 1 : Nat) : Int)) (by (try dsimp only); omega) (wrap_i64 (by (try dsimp only); omega)) ?_
      conv => whnf
      refine ⟨(j + 1, acc), by simp only; omega, ⟨by simp only; omega, ?_⟩, Wk.sub ⟨rfl, rfl, rfl, rfl, trivial⟩ ⟨rfl, rfl, trivial⟩⟩
      simp only
      rw [he, ← List.append_assoc, hb, show (s.hi + 1 - s.lo).toNat - (j + 1) = m by omega, show s.lo + ((j + 1 : Nat) : Int) = s.lo + (j : Int) + 1 by omega]

theorem la117 (s : Span) (hs : SpdR s) (k : Nat) (hk : k ≤ 3) : FnV Try.prog 117 [s.d, i64 k] (listsD (speedsL s k)) := (spd_all s hs k hk).h
end Go.PX

namespace Go.PX
open Go.Proofs

/- Lamp: the reference: All, wrong, Agree. -/

def truthsD (l : List LTruth) : D := .vs (l.map LTruth.cells)

set_option maxHeartbeats 1000000 in
theorem la86 (c : LCase) (hR : CaseL c) : FnV Try.prog 86 [c.d] (truthsD (allT c.lamp c.windings)) := by
  refine fnV_of mixed tysOk Try.func86 rfl (ft := ft86) 1 (by decide +kernel) (by rfl) fun {σ} Y st => ?_
  conv => whnf
  have hw := hR.winds
  have hl := hR.lamp
  have hst := hl.start
  have hd := hl.drum
  refine arith_to ((c.windings.length + 1 : Nat) : Int) (by simp) (wrap_i64 (by omega)) ?_
  conv => whnf
  refine CallA_v (la117 c.lamp.speed (SpdR.of hl) (c.windings.length + 1) (by omega)) rfl rfl ?_
  conv => whnf
  have hlen := allT_len hR
  have hRl := speedsL_len3 (SpdR.of hl) (k := c.windings.length + 1) (by omega)
  have hun : allT c.lamp c.windings = (upto (c.lamp.start.hi + 1 - c.lamp.start.lo).toNat c.lamp.start.lo).flatMap fun st => (speedsL c.lamp.speed (c.windings.length + 1)).map fun l => ⟨st, l⟩ := rfl
  rw [hun] at hlen ⊢
  generalize speedsL c.lamp.speed (c.windings.length + 1) = R at hlen hRl
  refine LoopA_p (T := tys) tysOk (by exact drawsB_spec mixed tysOk (by decide +kernel)) (α := Nat × List LTruth)
    (fun p => ⟨[(1, .ptr 1 0), (3, .d (listsD R)), (4, .sl 41 2 0 p.2.length), (5, .d (i64 (c.lamp.start.lo + p.1)))], [(1, .box (.dd c.cells)), (41, .arr 2 (.dd (p.2.map LTruth.cells)))], st⟩)
    (fun p => p.1 ≤ (c.lamp.start.hi + 1 - c.lamp.start.lo).toNat ∧ ((upto (c.lamp.start.hi + 1 - c.lamp.start.lo).toNat c.lamp.start.lo).flatMap fun st => R.map fun l => (⟨st, l⟩ : LTruth)) = p.2 ++ (upto ((c.lamp.start.hi + 1 - c.lamp.start.lo).toNat - p.1) (c.lamp.start.lo + p.1)).flatMap fun st => R.map fun l => ⟨st, l⟩)
    (fun p => (c.lamp.start.hi + 1 - c.lamp.start.lo).toNat - p.1) (0, []) ?wk ?pr ?_
  case wk => exact (Wk.born 4 41 2 rfl rfl rfl).trans (Wk.sub ⟨rfl, rfl, rfl, by show some (V.d (i64 c.lamp.start.lo)) = some (V.d (i64 (c.lamp.start.lo + ((0 : Nat) : Int)))); simp, trivial⟩ ⟨rfl, rfl, trivial⟩)
  case pr => exact ⟨Nat.zero_le _, by simp⟩
  rintro ⟨j, acc0⟩ ⟨hj, he⟩
  simp only at hj he
  conv => whnf
  refine brk_i (fun h4 => ?_) (fun h4 => ?_)
  case refine_2 =>
    have h4 : ¬ c.lamp.start.lo + j ≤ c.lamp.start.hi := by simpa using h4
    rw [show (c.lamp.start.hi + 1 - c.lamp.start.lo).toNat - j = 0 by omega, upto, List.flatMap_nil, List.append_nil] at he
    rw [he]
    conv => whnf
    exact RetA_sl rfl (by simp) ⟨⟨rfl, rfl⟩, rfl⟩
  have h4 : c.lamp.start.lo + j ≤ c.lamp.start.hi := by simpa using h4
  obtain ⟨m, hm⟩ : ∃ m, (c.lamp.start.hi + 1 - c.lamp.start.lo).toNat - j = m + 1 := ⟨(c.lamp.start.hi + 1 - c.lamp.start.lo).toNat - j - 1, by omega⟩
  rw [hm, upto, List.flatMap_cons] at he
  conv => whnf
  refine LoopA_i (T := tys) tysOk (by exact drawsB_spec mixed tysOk (by decide +kernel)) R (fun i (acc : List LTruth) => ⟨[(1, .ptr 1 0), (3, .d (listsD R)), (4, .sl 41 2 0 acc.length), (5, .d (i64 (c.lamp.start.lo + j))), (6, .d (i64 i))], [(1, .box (.dd c.cells)), (41, .arr 2 (.dd (acc.map LTruth.cells)))], st⟩)
    (fun i r acc => (acc0 ++ R.map fun l => (⟨c.lamp.start.lo + j, l⟩ : LTruth)) = acc ++ r.map fun l => ⟨c.lamp.start.lo + j, l⟩) acc0 (Wk.sub ⟨(by first | rfl | (simp only [List.length_map]; rfl) | simp [PX.get]), (by first | rfl | (simp only [List.length_map]; rfl) | simp [PX.get]), (by first | rfl | (simp only [List.length_map]; rfl) | simp [PX.get]), (by first | rfl | (simp only [List.length_map]; rfl) | simp [PX.get]), (by first | rfl | (simp only [List.length_map]; rfl) | simp [PX.get]), trivial⟩ ⟨(by first | rfl | (simp only [List.length_map]; rfl) | simp [PX.get]), (by first | rfl | (simp only [List.length_map]; rfl) | simp [PX.get]), trivial⟩) rfl ?_ ?_
  · intro i l r acc hx hi hr hb
    have hal : acc.length ≤ 2000 := by
      rw [he, ← List.append_assoc, hb] at hlen
      simp only [List.length_append] at hlen
      omega
    conv => whnf
    refine brk_i (fun _ => ?_) (fun h => absurd hi (by simpa using h))
    conv => whnf
    refine elemK_nat hx ?_
    conv => whnf
    refine ownK_whole rfl ?_
    conv => whnf
    refine ownK_whole (by simp [Els.len]) ?_
    conv => whnf
    refine chk_i (decide_eq_true (by
      show ((acc.map LTruth.cells).length + 1) * 32 ≤ 140737488355328
      rw [List.length_map]; omega)) ?_
    conv => whnf
    refine arith_in (wrap_i64 (by (try dsimp only); omega)) ?_
    conv => whnf
    refine ⟨acc ++ [⟨c.lamp.start.lo + j, l⟩], by rw [hb]; simp, ?_⟩
    refine Wk.sub ⟨rfl, rfl, ?_, rfl, rfl, trivial⟩ ⟨rfl, ?_, trivial⟩
    · show some (V.sl 41 2 0 ((acc.map LTruth.cells).length + 1)) = _
      simp
    · show some (Obj.arr 2 (Els.dd ((acc.map LTruth.cells) ++ [[i64 (c.lamp.start.lo + j), intsD l]]))) = _
      simp [LTruth.cells]
  · intro acc hb
    simp only [List.map_nil, List.append_nil] at hb
    conv => whnf
    refine brk_i (fun h => absurd h (by simp)) (fun _ => ?_)
    conv => whnf
    refine arith_to (c.lamp.start.lo + ((j + 1 : Nat) : Int)) (by (try dsimp only); omega) (wrap_i64 (by (try dsimp only); omega)) ?_
    conv => whnf
    refine ⟨(j + 1, acc), by simp only; omega, ⟨by simp only; omega, ?_⟩, Wk.sub ⟨rfl, rfl, rfl, rfl, trivial⟩ ⟨rfl, rfl, trivial⟩⟩
    simp only
    rw [he, ← List.append_assoc, hb, show (c.lamp.start.hi + 1 - c.lamp.start.lo).toNat - (j + 1) = m by omega, show c.lamp.start.lo + ((j + 1 : Nat) : Int) = c.lamp.start.lo + (j : Int) + 1 by omega]

set_option maxHeartbeats 1000000 in
theorem la87 (l : List LSight) (lit : List Bool) (hl : l.length ≤ 1000) (hs : ∀ s ∈ l, 0 ≤ s.second ∧ s.second < lit.length) : FnV Try.prog 87 [sightsD l, boolsD lit] (intsD (wrongF lit l 0)) := by
  refine fnV_of mixed tysOk Try.func87 rfl (ft := ft87) 2 (by decide +kernel) (by rfl) fun {σ} Y st => ?_
  conv => whnf
  refine LoopA_i (T := tys) tysOk (by exact drawsB_spec mixed tysOk (by decide +kernel)) l (fun i (acc : List Int) => ⟨[(0, .d (sightsD l)), (1, .d (boolsD lit)), (5, .sl 30 1 0 acc.length), (6, .d (i64 i))], [(30, .arr 1 (.dd (acc.map fun n => [i64 n])))], st⟩)
    (fun i r acc => wrongF lit l 0 = acc ++ wrongF lit r i ∧ acc.length ≤ i ∧ ∀ s ∈ r, s ∈ l) [] ((Wk.born 5 30 1 rfl rfl rfl).trans (Wk.sub ⟨(by first | rfl | (simp only [List.length_map]; rfl) | simp [PX.get]), (by first | rfl | (simp only [List.length_map]; rfl) | simp [PX.get]), (by first | rfl | (simp only [List.length_map]; rfl) | simp [PX.get]), (by first | rfl | (simp only [List.length_map]; rfl) | simp [PX.get]), trivial⟩ ⟨(by first | rfl | (simp only [List.length_map]; rfl) | simp [PX.get]), trivial⟩)) ⟨rfl, by simp, fun s h => h⟩ ?_ ?_
  · intro i s r acc hx hi hr ⟨he, hal, hsub⟩
    rw [wrongF] at he
    obtain ⟨hs1, hs2⟩ := hs s (hsub s (by simp))
    have hsl : s.second.toNat < lit.length := by omega
    obtain ⟨b, hb⟩ : ∃ b, lit[s.second.toNat]? = some b := ⟨_, List.getElem?_eq_getElem hsl⟩
    have hg : lit.getD s.second.toNat false = b := by simp [List.getD_eq_getElem?_getD, hb]
    rw [hg] at he
    conv => whnf
    refine brk_i (fun _ => ?_) (fun h => absurd hi (by simpa using h))
    conv => whnf
    refine elemK_nat hx ?_
    conv => whnf
    refine elemK_i [.bool b] ⟨hs1, by simp [hb]⟩ ?_
    conv => whnf
    refine elemK_nat hx ?_
    conv => whnf
    by_cases hbs : b = s.lit
    · rw [if_pos hbs] at he
      rw [show (!b == s.lit) = false from by rw [hbs]; cases s.lit <;> rfl]
      conv => whnf
      refine arith_in (wrap_i64 (by (try dsimp only); omega)) ?_
      conv => whnf
      exact ⟨acc, ⟨he, by omega, fun s hs => hsub s (by simp [hs])⟩, (Wk.sub ⟨(by first | rfl | (simp only [List.length_map]; rfl) | simp [PX.get]), (by first | rfl | (simp only [List.length_map]; rfl) | simp [PX.get]), (by first | rfl | (simp only [List.length_map]; rfl) | simp [PX.get]), (by first | rfl | (simp only [List.length_map]; rfl) | simp [PX.get]), trivial⟩ ⟨(by first | rfl | (simp only [List.length_map]; rfl) | simp [PX.get]), trivial⟩)⟩
    · rw [if_neg hbs] at he
      rw [show (!b == s.lit) = true from by cases b <;> cases hl2 : s.lit <;> simp_all]
      conv => whnf
      refine ownK_whole rfl ?_
      conv => whnf
      refine ownK_whole (by simp [Els.len]) ?_
      conv => whnf
      refine chk_i (decide_eq_true (by
        show ((acc.map fun n => [i64 n]).length + 1) * 8 ≤ 140737488355328
        rw [List.length_map]; omega)) ?_
      conv => whnf
      refine arith_in (wrap_i64 (by (try dsimp only); omega)) ?_
      conv => whnf
      refine ⟨acc ++ [(i : Int)], ⟨by rw [he]; simp, by simp; omega, fun s hs => hsub s (by simp [hs])⟩, Wk.sub ⟨rfl, rfl, ?_, rfl, trivial⟩ ⟨?_, trivial⟩⟩
      · simp [PX.get, Els.len]
      · simp [PX.get, Els.app]
  · intro acc ⟨he, hal, _⟩
    rw [wrongF, List.append_nil] at he
    rw [he]
    conv => whnf
    refine brk_i (fun h => absurd h (by simp)) (fun _ => ?_)
    conv => whnf
    exact RetA_sl rfl (by simp) ⟨⟨rfl, rfl⟩, rfl⟩
end Go.PX
