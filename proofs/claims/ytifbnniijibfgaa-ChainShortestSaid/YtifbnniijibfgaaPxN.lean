import Derived.Test.YtifbnniijibfgaaPxI
import Derived.Test.YtifbnniijibfgaaPxM
set_option linter.all false
set_option maxRecDepth 10000
namespace Go.PX
open Go.Proofs

theorem fn83 (n b : Int) (hn : 0 ≤ n ∧ n ≤ 4000000000000000000) (hb : 0 < b ∧ b ≤ 1000000) : FnV Try.prog 83 [i64 n, i64 b] (i64 ((n + b - 1).tdiv b)) := by
  refine fnV_of mixed tysOk Try.func83 rfl (ft := ft83) 2 (by decide +kernel) rfl fun {σ} Y s => ?_
  conv => whnf
  refine arith_in (wrap_i64 (by omega)) ?_
  conv => whnf
  refine arith_in (wrap_i64 (by omega)) ?_
  conv => whnf
  refine chk_i (by simp; omega) ?_
  conv => whnf
  refine arith_in (wrap_i64 ?_) ?_
  · have h1 : 0 ≤ (n + b - 1).tdiv b := Int.tdiv_nonneg (by omega) (by omega)
    have h2 : (n + b - 1).tdiv b ≤ n + b - 1 := by
      rw [Int.tdiv_eq_ediv_of_nonneg (by omega)]; exact Int.ediv_le_self _ (by omega)
    omega
  conv => whnf
  exact RetA_view 0 rfl ⟨⟨rfl, rfl⟩, rfl⟩
end Go.PX

namespace Go.PX
open Go.Proofs
def intsD (l : List Int) : D := .vs (l.map fun n => [i64 n])

theorem fn79 (l : List Int) (n : Int) (hl : l.length < 4000000000000000000) : FnV Try.prog 79 [intsD l, i64 n] (.bool (decide (n ∈ l))) := by
  refine fnV_of mixed tysOk Try.func79 rfl (ft := ft79) 2 (by decide +kernel) rfl fun {σ} Y s => ?_
  conv => whnf
  refine LoopA_p (T := tys) tysOk (by exact drawsB_spec mixed tysOk (by decide +kernel)) (α := Nat)
    (fun i => ⟨[(0, .d (intsD l)), (1, .d (i64 n)), (4, .d (.bool false)), (5, .d (i64 i))], [], s⟩) (fun i => i ≤ l.length ∧ n ∉ l.take i) (fun i => l.length - i) 0 (Wk.sub ⟨rfl, rfl, rfl, rfl, trivial⟩ trivial) (by simp) ?_
  rintro i ⟨hi, hn⟩
  conv => whnf
  refine brk_i (fun hb => ?_) (fun hb => ?_)
  · have hb : i < l.length := by simpa using hb
    conv => whnf
    refine elemK_i [i64 l[i]] (by simp [hb]) ?_
    conv => whnf
    refine brk_i (fun hc => ?_) (fun hc => ?_)
    · have hc : l[i] = n := by simpa using hc
      conv => whnf
      have hm : n ∈ l := hc ▸ List.getElem_mem hb
      rw [decide_eq_true hm]
      exact RetA_view 0 rfl ⟨⟨rfl, rfl⟩, rfl⟩
    · have hc : l[i] ≠ n := by simpa using hc
      conv => whnf
      refine arith_in (wrap_i64 (by omega)) ?_
      conv => whnf
      refine ⟨i + 1, ?_, ⟨hb, ?_⟩, Wk.sub ⟨rfl, rfl, rfl, rfl, trivial⟩ trivial⟩
      · show l.length - (i + 1) < l.length - i; omega
      · rw [List.take_succ_eq_append_getElem hb, List.mem_append]
        rintro (h | h)
        · exact hn h
        · exact hc (by simpa using (List.mem_singleton.1 h).symm)
  · have hb : ¬ i < l.length := by simpa using hb
    conv => whnf
    have hm : n ∉ l := by
      rw [List.take_of_length_le (by omega)] at hn; exact hn
    rw [decide_eq_false hm]
    exact RetA_view 0 rfl ⟨⟨rfl, rfl⟩, rfl⟩
end Go.PX

namespace Go.PX
open Go.Proofs
/-- Is a number from lo to hi? -/
def inB (n lo hi : Int) : Bool := decide (lo ≤ n) && decide (n ≤ hi)

theorem fn118 (n lo hi : Int) : FnV Try.prog 118 [i64 n, i64 lo, i64 hi] (.bool (inB n lo hi)) := by
  refine fnV_of mixed tysOk Try.func118 rfl (ft := ft118) 3 (by decide +kernel) rfl fun {σ} Y s => ?_
  conv => whnf
  refine brk_i (fun hb => ?_) (fun hb => ?_)
  · conv => whnf
    refine RetA_view 0 rfl ⟨⟨?_, rfl⟩, rfl⟩
    simp [packD, inB] at hb ⊢; simp [hb]
  · conv => whnf
    refine RetA_view 0 rfl ⟨⟨?_, rfl⟩, rfl⟩
    simp [packD, inB] at hb ⊢; omega

theorem fn55 (n lo hi : Int) : FnV Try.prog 55 [i64 n, i64 lo, i64 hi] (.bool (inB n lo hi)) := by
  refine fnV_of mixed tysOk Try.func55 rfl (ft := ft55) 3 (by decide +kernel) rfl fun {σ} Y s => ?_
  conv => whnf
  refine brk_i (fun hb => ?_) (fun hb => ?_)
  · conv => whnf
    refine RetA_view 0 rfl ⟨⟨?_, rfl⟩, rfl⟩
    simp [packD, inB] at hb ⊢; simp [hb]
  · conv => whnf
    refine RetA_view 0 rfl ⟨⟨?_, rfl⟩, rfl⟩
    simp [packD, inB] at hb ⊢; omega

structure Span where
  lo : Int
  hi : Int
  deriving DecidableEq
def Span.cells (s : Span) : List D := [i64 s.lo, i64 s.hi]
def Span.d (s : Span) : D := .agg s.cells
def spansD (l : List Span) : D := .vs (l.map Span.cells)

/-- ErrRange, ErrArg, OK of spans. -/
def spread (lo hi : Int) : List Span → Int → Int
  | [], e => e
  | s :: r, e => if inB s.lo lo hi && inB s.hi lo hi then spread lo hi r (if s.lo > s.hi then 2 else e) else 7

theorem fn111 (l : List Span) (lo hi : Int) (hl : l.length < 4000000000000000000) : FnV Try.prog 111 [spansD l, i64 lo, i64 hi] (i64 (spread lo hi l 0)) := by
  refine fnV_of mixed tysOk Try.func111 rfl (ft := ft111) 3 (by decide +kernel) rfl fun {σ} Y s => ?_
  conv => whnf
  refine LoopA_p (T := tys) tysOk (by exact drawsB_spec mixed tysOk (by decide +kernel)) (α := Nat × Int)
    (fun x => ⟨[(0, .d (spansD l)), (1, .d (i64 lo)), (2, .d (i64 hi)), (7, .d (i64 x.2)), (8, .d (i64 x.1))], [], s⟩) (fun x => x.1 ≤ l.length ∧ spread lo hi l 0 = spread lo hi (l.drop x.1) x.2) (fun x => l.length - x.1) (0, 0)
    (Wk.sub ⟨rfl, rfl, rfl, rfl, rfl, trivial⟩ trivial) (by simp) ?_
  rintro ⟨i, e⟩ ⟨hi', he⟩
  simp only at hi' he
  conv => whnf
  refine brk_i (fun hb => ?_) (fun hb => ?_)
  · have hb : i < l.length := by simpa using hb
    have hd : l.drop i = l[i] :: l.drop (i + 1) := List.drop_eq_getElem_cons hb
    rw [hd, spread] at he
    have step : ∀ {st' : St σ} {e' : Int}, (inB l[i].lo lo hi && inB l[i].hi lo hi) = true → e' = (if l[i].lo > l[i].hi then 2 else e) → Wk st' ⟨[(0, .d (spansD l)), (1, .d (i64 lo)), (2, .d (i64 hi)), (7, .d (i64 e')), (8, .d (i64 ((i : Int) + 1)))], [], s⟩ →
        ∃ y : Nat × Int, l.length - y.1 < l.length - i ∧ (y.1 ≤ l.length ∧ spread lo hi l 0 = spread lo hi (l.drop y.1) y.2) ∧ Wk st' ⟨[(0, .d (spansD l)), (1, .d (i64 lo)), (2, .d (i64 hi)), (7, .d (i64 y.2)), (8, .d (i64 y.1))], [], s⟩ := by
      intro st' e' h1 h2 h3
      rw [if_pos h1] at he
      exact ⟨(i + 1, e'), by simp only; omega, ⟨hb, by rw [he, h2]⟩, by simpa using h3⟩
    conv => whnf
    refine elemK_i l[i].cells (by simp [hb]) ?_
    conv => whnf
    refine CallA_v (fn118 _ _ _) rfl rfl ?_
    conv => whnf
    refine brk_i (fun h1 => ?_) (fun h1 => ?_)
    · -- the lower end is wrong
      conv => whnf
      rw [if_neg (by simp at h1; simp [h1])] at he
      rw [he]
      exact RetA_view 0 rfl ⟨⟨rfl, rfl⟩, rfl⟩
    · conv => whnf
      refine elemK_i l[i].cells (by simp [hb]) ?_
      conv => whnf
      refine CallA_v (fn118 _ _ _) rfl rfl ?_
      conv => whnf
      refine brk_i (fun h2 => ?_) (fun h2 => ?_)
      · conv => whnf
        rw [if_neg (by simp at h2; simp [h2])] at he
        rw [he]
        exact RetA_view 0 rfl ⟨⟨rfl, rfl⟩, rfl⟩
      · conv => whnf
        refine elemK_i l[i].cells (by simp [hb]) ?_
        conv => whnf
        refine elemK_i l[i].cells (by simp [hb]) ?_
        conv => whnf
        have hin : (inB l[i].lo lo hi && inB l[i].hi lo hi) = true := by simp at h1 h2; simp [h1, h2]
        refine brk_i (fun h3 => ?_) (fun h3 => ?_)
        · conv => whnf
          refine arith_in (wrap_i64 (by omega)) ?_
          conv => whnf
          exact step hin (by simp at h3; rw [if_pos h3]) (Wk.sub ⟨rfl, rfl, rfl, rfl, rfl, trivial⟩ trivial)
        · conv => whnf
          refine arith_in (wrap_i64 (by omega)) ?_
          conv => whnf
          exact step hin (by simp at h3; rw [if_neg (by omega)]) (Wk.sub ⟨rfl, rfl, rfl, rfl, rfl, trivial⟩ trivial)
  · have hb : ¬ i < l.length := by simpa using hb
    conv => whnf
    rw [List.drop_of_length_le (by omega)] at he
    simp only [spread] at he
    rw [he]
    exact RetA_view 0 rfl ⟨⟨rfl, rfl⟩, rfl⟩
end Go.PX

namespace Go.PX
open Go.Proofs

theorem fn87 (n lo hi : Int) : FnV Try.prog 87 [i64 n, .ref [i64 lo], .ref [i64 hi]] (.bool (decide (n < lo) || decide (n > hi))) := by
  refine fnV_of mixed tysOk Try.func87 rfl (ft := ft87) 3 (by decide +kernel) rfl fun {σ} Y s => ?_
  conv => whnf
  refine brk_i (fun hb => ?_) (fun hb => ?_)
  · conv => whnf
    refine RetA_view 0 rfl ⟨⟨?_, rfl⟩, rfl⟩
    have hb : n < lo := by simpa using hb
    simp [packD, hb]
  · conv => whnf
    refine RetA_view 0 rfl ⟨⟨?_, rfl⟩, rfl⟩
    have hb : ¬ n < lo := by simpa using hb
    simp [packD, hb]

/-- The index of the first one that is wanted; -1: none is. -/
def indexOf {α : Type} (p : α → Bool) : List α → Int → Int
  | [], _ => -1
  | x :: r, i => if p x then i else indexOf p r (i + 1)

theorem indexOf_any {α : Type} (p : α → Bool) : ∀ (l : List α) (i : Int), 0 ≤ i → decide (indexOf p l i ≥ 0) = l.any p
  | [], i, _ => by simp [indexOf]
  | x :: r, i, h => by
    simp only [indexOf, List.any_cons]
    split
    · rename_i hp; simp [hp, h]
    · rename_i hp
      rw [indexOf_any p r (i + 1) (by omega)]
      simp [hp]

theorem fn109 (l : List Int) (g : FuncId) (caps : List D) (p : Int → Bool) (hl : l.length < 4000000000000000000) (hp : ∀ x ∈ l, FnV Try.prog g (i64 x :: caps) (.bool (p x))) :
    FnV Try.prog 109 [intsD l, .clo g caps] (i64 (indexOf p l 0)) := by
  refine fnV_of mixed tysOk Try.func109 rfl (ft := ft109) 2 (by decide +kernel) rfl fun {σ} Y s => ?_
  conv => whnf
  refine LoopA_p (T := tys) tysOk (by exact drawsB_spec mixed tysOk (by decide +kernel)) (α := Nat)
    (fun i => ⟨[(0, .d (intsD l)), (1, .d (.clo g caps)), (7, .d (i64 l.length)), (8, .d (i64 i))], [], s⟩) (fun i => i ≤ l.length ∧ indexOf p l 0 = indexOf p (l.drop i) i) (fun i => l.length - i) 0
    (Wk.sub ⟨rfl, rfl, by simp [PX.get], rfl, trivial⟩ trivial) (by simp) ?_
  rintro i ⟨hi, he⟩
  conv => whnf
  refine brk_i (fun hb => ?_) (fun hb => ?_)
  · have hb : i < l.length := by simpa using hb
    have hd : l.drop i = l[i] :: l.drop (i + 1) := List.drop_eq_getElem_cons hb
    rw [hd, indexOf] at he
    conv => whnf
    refine elemK_i [i64 l[i]] (by simp [hb]) ?_
    conv => whnf
    refine CallA_v (ds := i64 l[i] :: caps) (hp _ (List.getElem_mem hb)) rfl rfl ?_
    conv => whnf
    refine brk_i (fun h1 => ?_) (fun h1 => ?_)
    · conv => whnf
      rw [if_pos h1] at he
      rw [he]
      exact RetA_view 0 rfl ⟨⟨rfl, rfl⟩, rfl⟩
    · conv => whnf
      rw [if_neg (by simp [h1])] at he
      refine arith_in (wrap_i64 (by omega)) ?_
      conv => whnf
      exact ⟨i + 1, by omega, ⟨hb, by rw [he]; rfl⟩, Wk.sub ⟨rfl, rfl, rfl, rfl, trivial⟩ trivial⟩
  · have hb : ¬ i < l.length := by simpa using hb
    conv => whnf
    rw [List.drop_of_length_le (by omega)] at he
    rw [he]
    exact RetA_view 0 rfl ⟨⟨rfl, rfl⟩, rfl⟩

theorem fn86 (l : List Int) (g : FuncId) (caps : List D) (p : Int → Bool) (hl : l.length < 4000000000000000000) (hp : ∀ x ∈ l, FnV Try.prog g (i64 x :: caps) (.bool (p x))) :
    FnV Try.prog 86 [intsD l, .clo g caps] (.bool (l.any p)) := by
  refine fnV_of mixed tysOk Try.func86 rfl (ft := ft86) 2 (by decide +kernel) rfl fun {σ} Y s => ?_
  conv => whnf
  refine CallA_v (fn109 l g caps p hl hp) rfl rfl ?_
  conv => whnf
  refine RetA_view 0 rfl ⟨⟨?_, rfl⟩, rfl⟩
  rw [← indexOf_any p l 0 (by omega)]; rfl

theorem fn51 (lo hi : Int) (l : List Int) (hl : l.length < 4000000000000000000) : FnV Try.prog 51 [i64 lo, i64 hi, intsD l] (.bool (l.any fun n => decide (n < lo) || decide (n > hi))) := by
  refine fnV_of mixed tysOk Try.func51 rfl (ft := ft51) 3 (by decide +kernel) rfl fun {σ} Y s => ?_
  conv => whnf
  refine CallA_view (fn86 l 87 [.ref [i64 lo], .ref [i64 hi]] (fun n => decide (n < lo) || decide (n > hi)) hl fun x _ => fn87 x lo hi) rfl 1 rfl ?_
  conv => whnf
  exact RetA_view 0 rfl ⟨⟨rfl, rfl⟩, rfl⟩
end Go.PX

namespace Go.PX
open Go.Proofs

theorem take_map {α β : Type} (f : α → β) (l : List α) : (l.map f).take l.length = l.map f := by rw [List.take_of_length_le (by simp)]

structure Gauge where
  day : Int
  shown : Int
  deriving DecidableEq
def Gauge.cells (g : Gauge) : List D := [i64 g.day, i64 g.shown]
def gaugesD (l : List Gauge) : D := .vs (l.map Gauge.cells)

/-- What is left without the ones of these numbers. -/
def withoutF {α : Type} (out : List Int) : List α → Int → List α
  | [], _ => []
  | x :: r, i => if i ∈ out then withoutF out r (i + 1) else x :: withoutF out r (i + 1)

theorem fn32 (l : List Gauge) (out : List Int) (hl : l.length < 1000000) (ho : out.length < 1000000) : FnV Try.prog 32 [gaugesD l, intsD out] (gaugesD (withoutF out l 0)) := by
  refine fnV_of mixed tysOk Try.func32 rfl (ft := ft32) 2 (by decide +kernel) rfl fun {σ} Y s => ?_
  conv => whnf
  refine LoopA_p (T := tys) tysOk (by exact drawsB_spec mixed tysOk (by decide +kernel)) (α := Nat × List Gauge)
    (fun x => ⟨[(0, .d (gaugesD l)), (1, .d (intsD out)), (5, .sl 23 2 0 x.2.length), (6, .d (i64 x.1))], [(23, .arr 2 (.dd (x.2.map Gauge.cells)))], s⟩)
    (fun x => x.1 ≤ l.length ∧ x.2.length ≤ x.1 ∧ withoutF out l 0 = x.2 ++ withoutF out (l.drop x.1) x.1) (fun x => l.length - x.1) (0, [])
    ((Wk.born 5 23 2 rfl rfl rfl).trans (Wk.sub ⟨rfl, rfl, rfl, rfl, trivial⟩ ⟨rfl, trivial⟩)) (by simp) ?_
  rintro ⟨i, acc⟩ ⟨hi, ha, he⟩
  simp only at hi ha he
  conv => whnf
  refine brk_i (fun hb => ?_) (fun hb => ?_)
  · have hb : i < l.length := by simpa using hb
    have hd : l.drop i = l[i] :: l.drop (i + 1) := List.drop_eq_getElem_cons hb
    rw [hd, withoutF] at he
    conv => whnf
    refine CallA_v (fn79 out i (by omega)) rfl rfl ?_
    conv => whnf
    refine brk_i (fun h1 => ?_) (fun h1 => ?_)
    · have h1 : (i : Int) ∉ out := by simpa using h1
      rw [if_neg h1] at he
      conv => whnf
      refine elemK_i l[i].cells (by simp [hb]) ?_
      conv => whnf
      refine chk_i (by simp [Els.len]) ?_
      conv => whnf
      refine chk_i (by simp [Els.len, Els.part, Els.cons, V.cells]; omega) ?_
      conv => whnf
      refine arith_in (wrap_i64 (by omega)) ?_
      conv => whnf
      refine ⟨(i + 1, acc ++ [l[i]]), by simp only; omega, ⟨hb, by simp only [List.length_append, List.length_singleton]; omega, by rw [he, List.append_assoc]; rfl⟩, Wk.sub ⟨rfl, rfl, ?_, rfl, trivial⟩ ⟨?_, trivial⟩⟩
      · simp [PX.get, Els.len, Els.part, Els.cons, V.cells]
      · simp [PX.get, Els.app, Els.part, Els.cons, V.cells, Gauge.cells, take_map]
    · have h1 : (i : Int) ∈ out := by simpa using h1
      rw [if_pos h1] at he
      conv => whnf
      refine arith_in (wrap_i64 (by omega)) ?_
      conv => whnf
      exact ⟨(i + 1, acc), by simp only; omega, ⟨hb, by simp only; omega, by rw [he]; rfl⟩, Wk.sub ⟨rfl, rfl, rfl, rfl, trivial⟩ ⟨rfl, trivial⟩⟩
  · have hb : ¬ i < l.length := by simpa using hb
    conv => whnf
    rw [List.drop_of_length_le (by omega)] at he
    simp only [withoutF, List.append_nil] at he
    rw [he]
    exact RetA_sl rfl (by simp) ⟨⟨rfl, rfl⟩, rfl⟩
end Go.PX
