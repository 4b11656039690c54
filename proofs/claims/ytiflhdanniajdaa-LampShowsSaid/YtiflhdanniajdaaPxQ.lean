import Derived.Test.YtiflhdanniajdaaPxP
set_option linter.all false
set_option maxRecDepth 10000
namespace Go.PX
open Go.Proofs

/- Lamp: the reference: Course. -/

/-- What is asked of what a course is made of. -/
structure CrsR (x : LLamp) (w : List Int) (t : LTruth) : Prop where
  lamp : LampR x
  winds : w.length ≤ 2
  start : 0 ≤ t.start ∧ t.start < x.drum
  len : t.speeds.length = w.length + 1
  speed : ∀ s ∈ t.speeds, 1 ≤ s ∧ s ≤ 40

theorem CrsR.of {c : LCase} {t : LTruth} (hR : CaseL c) (hT : TruthR c t) : CrsR c.lamp c.windings t := by
  have h1 := hR.lamp.start
  have h2 := hT.start
  refine ⟨hR.lamp, hR.winds, by omega, hT.len, fun s hs => ?_⟩
  have h3 := hT.speed s hs
  have h4 := hR.lamp.speed
  omega

set_option maxHeartbeats 1000000 in
theorem la50 (x : LLamp) (w : List Int) (t : LTruth) (hr : CrsR x w t) : FnV Try.prog 50 [x.d, intsD w, t.d] (boolsD (courseL x w t)) := by
  refine fnV_of mixed tysOk Try.func50 rfl (ft := ft50) 3 (by decide +kernel) (by rfl) fun {σ} Y st => ?_
  conv => whnf
  have hR := hr.lamp
  have hd := hR.drum
  have hn := hR.night
  have hst := hr.start
  have hsl := hR.slow
  have hw := hr.winds
  refine LoopA_p (T := tys) tysOk (by exact drawsB_spec mixed tysOk (by decide +kernel)) (α := Nat × (Int × (Int × (Nat × List Bool))))
    (fun p => ⟨[(1, .d (intsD w)), (3, .ptr 3 0), (5, .ptr 5 0), (7, .sl 40 1 0 p.2.2.2.2.length), (8, .d (i64 p.2.1)), (9, .d (i64 p.2.2.2.1)), (10, .d (i64 p.2.2.1)), (11, .d (i64 p.1))], [(3, .box (.dd x.cells)), (5, .box (.dd t.cells)), (40, .arr 1 (.dd (p.2.2.2.2.map fun b => [D.bool b])))], st⟩)
    (fun p => (p.1 : Int) ≤ x.night ∧ (0 ≤ p.2.1 ∧ p.2.1 < x.drum) ∧ (0 ≤ p.2.2.1 ∧ p.2.2.1 ≤ p.1) ∧ p.2.2.2.1 ≤ w.length ∧ p.2.2.2.2.length = p.1 ∧ courseL x w t = p.2.2.2.2 ++ courseF x w t.speeds (x.night.toNat - p.1) p.1 p.2.1 p.2.2.1 p.2.2.2.1)
    (fun p => x.night.toNat - p.1) (0, (t.start, (0, (0, [])))) ?wk ?pr ?_
  case wk => exact ((Wk.born 7 40 1 rfl rfl rfl).trans (Wk.sub ⟨(by first | rfl | (simp only [List.length_map]; rfl) | simp [PX.get]), (by first | rfl | (simp only [List.length_map]; rfl) | simp [PX.get]), (by first | rfl | (simp only [List.length_map]; rfl) | simp [PX.get]), (by first | rfl | (simp only [List.length_map]; rfl) | simp [PX.get]), (by first | rfl | (simp only [List.length_map]; rfl) | simp [PX.get]), (by first | rfl | (simp only [List.length_map]; rfl) | simp [PX.get]), (by first | rfl | (simp only [List.length_map]; rfl) | simp [PX.get]), (by first | rfl | (simp only [List.length_map]; rfl) | simp [PX.get]), trivial⟩ ⟨(by first | rfl | (simp only [List.length_map]; rfl) | simp [PX.get]), (by first | rfl | (simp only [List.length_map]; rfl) | simp [PX.get]), (by first | rfl | (simp only [List.length_map]; rfl) | simp [PX.get]), trivial⟩))
  case pr =>
    refine ⟨by simp only; omega, by simp only; omega, by simp only; omega, Nat.zero_le _, rfl, ?_⟩
    simp only [courseL, List.nil_append, Nat.sub_zero]; rfl
  rintro ⟨s, a, b, n, acc⟩ ⟨h1, h2, h3, h4, h5, h6⟩
  simp only at h1 h2 h3 h4 h5 h6
  have hslen := hr.len
  have hspn : ∀ m : Nat, m ≤ w.length → 1 ≤ t.speeds.getD m 0 ∧ t.speeds.getD m 0 ≤ 40 := by
    intro m hm
    have hml : m < t.speeds.length := by omega
    have e : t.speeds.getD m 0 = t.speeds[m] := by simp [List.getD_eq_getElem?_getD, hml]
    have := hr.speed _ (List.getElem_mem hml)
    rw [e]; omega
  have hspg : ∀ m : Nat, m ≤ w.length → (t.speeds.map fun n => [i64 n])[m]? = some [i64 (t.speeds.getD m 0)] := by
    intro m hm
    have hml : m < t.speeds.length := by omega
    simp [List.getD_eq_getElem?_getD, hml]
  conv => whnf
  refine brk_i (fun h7 => ?_) (fun h7 => ?_)
  case refine_2 =>
    have h7 : ¬ (s : Int) < x.night := by have := of_decide_eq_false h7; simpa using this
    rw [show x.night.toNat - s = 0 by omega, courseF, List.append_nil] at h6
    conv => whnf
    rw [h6]
    exact RetA_sl rfl (by simp) ⟨⟨rfl, rfl⟩, rfl⟩
  have h7 : (s : Int) < x.night := by have := of_decide_eq_true h7; simpa using this
  obtain ⟨k, hk⟩ : ∃ k, x.night.toNat - s = k + 1 := ⟨x.night.toNat - s - 1, by omega⟩
  have hk2 : x.night.toNat - (s + 1) = k := by omega
  rw [hk, courseF] at h6
  have hs1 : ((s : Int) + 1) = ((s + 1 : Nat) : Int) := by omega
  conv => whnf
  refine brk_i (fun h8 => ?_) (fun h8 => ?_)
  · have h8 : n < w.length := by have := of_decide_eq_true h8; simp at this; omega
    conv => whnf
    refine elemK_i [i64 w[n]] ⟨by omega, by simp [h8]⟩ ?_
    conv => whnf
    refine brk_i (fun h9 => ?_) (fun h9 => ?_)
    · have h9 : w[n] = s := by simpa using h9
      rw [if_pos (by simp [h8, h9])] at h6
      conv => whnf
      refine arith_to (((n + 1 : Nat) : Int)) (by (try dsimp only); omega) (wrap_i64 (by (try dsimp only); omega)) ?_
      conv => whnf
      refine CallA_v (la98 x a (by have := hR.lits; omega)) rfl rfl ?_
      conv => whnf
      refine ownK_whole rfl ?_
      conv => whnf
      refine ownK_whole (by simp [Els.len]) ?_
      conv => whnf
      refine chk_i (decide_eq_true (by
        show ((acc.map fun b => [D.bool b]).length + 1) * 1 ≤ 140737488355328
        rw [List.length_map]; omega)) ?_
      conv => whnf
      refine elemK_i [i64 (t.speeds.getD (n + 1) 0)] ⟨by omega, hspg (n + 1) (by omega)⟩ ?_
      conv => whnf
      refine arith_to (0) (by first | omega | (dsimp only; done) | (dsimp only; omega)) (wrap_i64 (by (try dsimp only); omega)) ?_
      conv => whnf
      refine chk_i (by simp; omega) ?_
      conv => whnf
      have e1 : (0 : Int).tdiv x.slow = (0) / x.slow := Int.tdiv_eq_ediv_of_nonneg (by omega)
      have b1 : 0 ≤ (0 : Int) / x.slow ∧ (0 : Int) / x.slow ≤ 0 := ⟨Int.ediv_nonneg (by omega) (by omega), Int.ediv_le_self _ (by omega)⟩
      have hsp1 := hspn (n + 1) (by omega)
      have e2 : (a + max 0 (t.speeds.getD (n + 1) 0 - (0 : Int) / x.slow)).tmod x.drum = nextF x a (t.speeds.getD (n + 1) 0) (0) := Int.tmod_eq_emod_of_nonneg (by omega)
      refine arith_in (wrap_i64 (by rw [e1]; omega)) ?_
      conv => whnf
      rw [e1]
      refine arith_in (wrap_i64 (by (try dsimp only); omega)) ?_
      conv => whnf
      refine arith_in (wrap_i64 (by (try dsimp only); omega)) ?_
      conv => whnf
      refine chk_i (by simp; omega) ?_
      conv => whnf
      rw [e2]
      refine arith_to ((s + 1 : Nat) : Int) (by omega) (wrap_i64 (by omega)) ?_
      conv => whnf
      refine ⟨(s + 1, (nextF x a (t.speeds.getD (n + 1) 0) (0), ((s : Int), (n + 1, acc ++ [openB x a])))), by simp only; omega, ⟨by simp only; omega, nextF_bd hR _ _ _, by simp only; omega, by simp only; omega, by simp [h5], ?_⟩, Wk.sub ⟨rfl, rfl, rfl, ?_, rfl, rfl, rfl, rfl, trivial⟩ ⟨rfl, rfl, ?_, trivial⟩⟩
      · simp only [hk2]
        rw [h6, List.append_assoc]
        rfl
      · simp [PX.get, Els.len]
      · simp [PX.get, Els.app]
    · have h9 : ¬ w[n] = s := by simpa using h9
      rw [if_neg (by simp [h8, h9])] at h6
      conv => whnf
      refine CallA_v (la98 x a (by have := hR.lits; omega)) rfl rfl ?_
      conv => whnf
      refine ownK_whole rfl ?_
      conv => whnf
      refine ownK_whole (by simp [Els.len]) ?_
      conv => whnf
      refine chk_i (decide_eq_true (by
        show ((acc.map fun b => [D.bool b]).length + 1) * 1 ≤ 140737488355328
        rw [List.length_map]; omega)) ?_
      conv => whnf
      refine elemK_i [i64 (t.speeds.getD (n) 0)] ⟨by omega, hspg (n) (by omega)⟩ ?_
      conv => whnf
      refine arith_to (s - b) (by first | omega | (dsimp only; done) | (dsimp only; omega)) (wrap_i64 (by (try dsimp only); omega)) ?_
      conv => whnf
      refine chk_i (by simp; omega) ?_
      conv => whnf
      have e1 : (s - b : Int).tdiv x.slow = (s - b) / x.slow := Int.tdiv_eq_ediv_of_nonneg (by omega)
      have b1 : 0 ≤ (s - b : Int) / x.slow ∧ (s - b : Int) / x.slow ≤ s - b := ⟨Int.ediv_nonneg (by omega) (by omega), Int.ediv_le_self _ (by omega)⟩
      have hsp1 := hspn (n) (by omega)
      have e2 : (a + max 0 (t.speeds.getD (n) 0 - (s - b : Int) / x.slow)).tmod x.drum = nextF x a (t.speeds.getD (n) 0) (s - b) := Int.tmod_eq_emod_of_nonneg (by omega)
      refine arith_in (wrap_i64 (by rw [e1]; omega)) ?_
      conv => whnf
      rw [e1]
      refine arith_in (wrap_i64 (by (try dsimp only); omega)) ?_
      conv => whnf
      refine arith_in (wrap_i64 (by (try dsimp only); omega)) ?_
      conv => whnf
      refine chk_i (by simp; omega) ?_
      conv => whnf
      rw [e2]
      refine arith_to ((s + 1 : Nat) : Int) (by omega) (wrap_i64 (by omega)) ?_
      conv => whnf
      refine ⟨(s + 1, (nextF x a (t.speeds.getD (n) 0) (s - b), (b, (n, acc ++ [openB x a])))), by simp only; omega, ⟨by simp only; omega, nextF_bd hR _ _ _, by simp only; omega, by simp only; omega, by simp [h5], ?_⟩, Wk.sub ⟨rfl, rfl, rfl, ?_, rfl, rfl, rfl, rfl, trivial⟩ ⟨rfl, rfl, ?_, trivial⟩⟩
      · simp only [hk2]
        rw [h6, List.append_assoc]
        rfl
      · simp [PX.get, Els.len]
      · simp [PX.get, Els.app]
  · have h8 : ¬ n < w.length := by have := of_decide_eq_false h8; simp at this; omega
    rw [if_neg (by rw [List.getElem?_eq_none (by omega)]; simp)] at h6
    conv => whnf
    refine CallA_v (la98 x a (by have := hR.lits; omega)) rfl rfl ?_
    conv => whnf
    refine ownK_whole rfl ?_
    conv => whnf
    refine ownK_whole (by simp [Els.len]) ?_
    conv => whnf
    refine chk_i (decide_eq_true (by
      show ((acc.map fun b => [D.bool b]).length + 1) * 1 ≤ 140737488355328
      rw [List.length_map]; omega)) ?_
    conv => whnf
    refine elemK_i [i64 (t.speeds.getD (n) 0)] ⟨by omega, hspg (n) (by omega)⟩ ?_
    conv => whnf
    refine arith_to (s - b) (by first | omega | (dsimp only; done) | (dsimp only; omega)) (wrap_i64 (by (try dsimp only); omega)) ?_
    conv => whnf
    refine chk_i (by simp; omega) ?_
    conv => whnf
    have e1 : (s - b : Int).tdiv x.slow = (s - b) / x.slow := Int.tdiv_eq_ediv_of_nonneg (by omega)
    have b1 : 0 ≤ (s - b : Int) / x.slow ∧ (s - b : Int) / x.slow ≤ s - b := ⟨Int.ediv_nonneg (by omega) (by omega), Int.ediv_le_self _ (by omega)⟩
    have hsp1 := hspn (n) (by omega)
    have e2 : (a + max 0 (t.speeds.getD (n) 0 - (s - b : Int) / x.slow)).tmod x.drum = nextF x a (t.speeds.getD (n) 0) (s - b) := Int.tmod_eq_emod_of_nonneg (by omega)
    refine arith_in (wrap_i64 (by rw [e1]; omega)) ?_
    conv => whnf
    rw [e1]
    refine arith_in (wrap_i64 (by (try dsimp only); omega)) ?_
    conv => whnf
    refine arith_in (wrap_i64 (by (try dsimp only); omega)) ?_
    conv => whnf
    refine chk_i (by simp; omega) ?_
    conv => whnf
    rw [e2]
    refine arith_to ((s + 1 : Nat) : Int) (by omega) (wrap_i64 (by omega)) ?_
    conv => whnf
    refine ⟨(s + 1, (nextF x a (t.speeds.getD (n) 0) (s - b), (b, (n, acc ++ [openB x a])))), by simp only; omega, ⟨by simp only; omega, nextF_bd hR _ _ _, by simp only; omega, by simp only; omega, by simp [h5], ?_⟩, Wk.sub ⟨rfl, rfl, rfl, ?_, rfl, rfl, rfl, rfl, trivial⟩ ⟨rfl, rfl, ?_, trivial⟩⟩
    · simp only [hk2]
      rw [h6, List.append_assoc]
      rfl
    · simp [PX.get, Els.len]
    · simp [PX.get, Els.app]
end Go.PX

namespace Go.PX
open Go.Proofs

/- Lamp: the reference: Stretches, Lit, Shows. -/

def strG : List Bool → Int → Bool → List Span → Span → List Span
  | [], _, _, A, y => A ++ [y]
  | b :: r, s, p, A, y => if b = p then strG r (s + 1) b A ⟨y.lo, s⟩ else strG r (s + 1) b (A ++ [y]) ⟨s, s⟩

def strF : List Bool → List Span
  | [] => []
  | b :: r => strG r 1 b [] ⟨0, 0⟩

abbrev StrS := Option (Bool × List Span × Span)
def strL : StrS → List Span
  | none => []
  | some (_, A, y) => A ++ [y]
def strN : StrS → Nat
  | none => 0
  | some (_, A, _) => A.length + 1
theorem strL_len (o : StrS) : (strL o).length = strN o := by
  cases o with
  | none => rfl
  | some p => obtain ⟨p, A, y⟩ := p; simp [strL, strN]

/-- What is known after so many seconds. -/
def StrJ (L : List Bool) (i : Nat) (r : List Bool) : StrS → Prop
  | none => i = 0 ∧ strF L = strF r
  | some (p, A, y) => 0 < i ∧ L[i - 1]? = some p ∧ strF L = strG r i p A y ∧ A.length + 1 ≤ i

set_option maxHeartbeats 1000000 in
theorem la99 (L : List Bool) (hL : L.length ≤ 100000) : FnV Try.prog 99 [boolsD L] (spansD (strF L)) := by
  refine fnV_of mixed tysOk Try.func99 rfl (ft := ft99) 1 (by decide +kernel) (by rfl) fun {σ} Y st => ?_
  conv => whnf
  refine LoopA_i (T := tys) tysOk (by exact drawsB_spec mixed tysOk (by decide +kernel)) L (fun i (o : StrS) => ⟨[(0, .d (boolsD L)), (3, .sl 900000 2 0 (strN o)), (4, .d (i64 i))], [(900000, .arr 2 (.dd ((strL o).map Span.cells)))], st⟩) (fun i r o => StrJ L i r o) none ((Wk.born 3 900000 2 rfl rfl rfl).trans (Wk.sub ⟨(by first | rfl | (simp only [List.length_map]; rfl) | simp [PX.get]), (by first | rfl | (simp only [List.length_map]; rfl) | simp [PX.get]), (by first | rfl | (simp only [List.length_map]; rfl) | simp [PX.get]), trivial⟩ ⟨(by first | rfl | (simp only [List.length_map]; rfl) | simp [PX.get]), trivial⟩)) ⟨rfl, rfl⟩ ?_ ?_
  · intro i b r o hx hi hr hJ
    have hb : L.length = i + 1 + r.length := by omega
    conv => whnf
    refine brk_i (fun _ => ?_) (fun h => absurd hi (by simpa using h))
    conv => whnf
    cases o with
    | none =>
      obtain ⟨h0, he⟩ := hJ
      subst h0
      rw [show decide ((0 : Int) < ((0 : Nat) : Int)) = false from rfl]
      conv => whnf
      refine ownK_whole rfl ?_
      conv => whnf
      refine ownK_whole rfl ?_
      conv => whnf
      refine arith_in (wrap_i64 (by (try dsimp only); omega)) ?_
      conv => whnf
      exact ⟨some (b, [], ⟨0, 0⟩), ⟨by omega, hx, he, by simp⟩, (Wk.move 46 900000 rfl rfl).trans (Wk.sub ⟨(by first | rfl | (simp only [List.length_map]; rfl) | simp [PX.get]), (by first | rfl | (simp only [List.length_map]; rfl) | simp [PX.get]), (by first | rfl | (simp only [List.length_map]; rfl) | simp [PX.get]), trivial⟩ ⟨(by first | rfl | (simp only [List.length_map]; rfl) | simp [PX.get]), trivial⟩)⟩
    | some q =>
      obtain ⟨p, A, y⟩ := q
      obtain ⟨h0, hp, he, hA⟩ := hJ
      rw [strG] at he
      have hlen : ((strL (some (p, A, y))).map Span.cells).length = A.length + 1 := by simp [strL]
      rw [show decide ((0 : Int) < (i : Int)) = true from decide_eq_true (by omega)]
      conv => whnf
      refine elemK_nat hx ?_
      conv => whnf
      refine arith_to ((i - 1 : Nat) : Int) (by omega) (wrap_i64 (by omega)) ?_
      conv => whnf
      refine elemK_nat hp ?_
      conv => whnf
      by_cases h1 : b = p
      · rw [if_pos h1] at he
        subst h1
        rw [show (b == b) = true by simp]
        conv => whnf
        refine arith_to ((A.length : Nat) : Int) (by simp [strN]) (wrap_i64 (by omega)) ?_
        conv => whnf
        rw [show (decide ((0 : Int) ≤ (A.length : Int)) && decide ((A.length : Int) ≤ (strN (some (b, A, y)) : Int))) = true from by rw [Bool.and_eq_true, decide_eq_true_eq, decide_eq_true_eq]; simp only [strN]; omega]
        conv => whnf
        refine arith_to ((A.length : Nat) : Int) (by simp [strN]) (wrap_i64 (by omega)) ?_
        conv => whnf
        rw [show (decide ((0 : Int) ≤ (A.length : Int)) && decide ((A.length : Int) < (strN (some (b, A, y)) : Int))) = true from by rw [Bool.and_eq_true, decide_eq_true_eq, decide_eq_true_eq]; simp only [strN]; omega]
        conv => whnf
        rw [show (List.map Span.cells (strL (some (b, A, y))))[0 + ((A.length : Int)).toNat]? = some y.cells from by simp [strL]]
        conv => whnf
        refine ownK_whole rfl ?_
        conv => whnf
        refine ⟨by show Nat.ble (0 + ((A.length : Int).toNat - 0)) ((strL (some (b, A, y))).map Span.cells).length = true; rw [hlen]; exact Nat.ble_eq_true_of_le (by omega), ?_⟩
        conv => whnf
        have hpart : (Els.dd ((strL (some (b, A, y))).map Span.cells)).part 0 ((A.length : Int).toNat - 0) = Els.dd (A.map Span.cells) := by simp [Els.part, strL]
        rw [hpart]
        refine chk_i (decide_eq_true (by
          show ((A.map Span.cells).length + 1) * 16 ≤ 140737488355328
          rw [List.length_map]; omega)) ?_
        conv => whnf
        refine arith_in (wrap_i64 (by (try dsimp only); omega)) ?_
        conv => whnf
        refine ⟨some (b, A, ⟨y.lo, i⟩), ⟨by omega, by rw [Nat.add_sub_cancel]; exact hx, he, by omega⟩, (Wk.move 40 900000 rfl rfl).trans (Wk.sub ⟨rfl, ?_, rfl, trivial⟩ ⟨?_, trivial⟩)⟩
        · show some (V.sl 900000 2 0 ((A.map Span.cells).length + 1)) = some (V.sl 900000 2 0 (A.length + 1))
          rw [List.length_map]
        · show some (Obj.arr 2 (.dd (A.map Span.cells ++ [[i64 y.lo, i64 i]]))) = some (Obj.arr 2 (.dd ((A ++ [(⟨y.lo, i⟩ : Span)]).map Span.cells)))
          rw [List.map_append]; rfl
      · rw [if_neg h1] at he
        rw [show (b == p) = false by simpa using h1]
        conv => whnf
        refine ownK_whole rfl ?_
        conv => whnf
        refine ownK_whole (by simp [Els.len, strL, strN]) ?_
        conv => whnf
        refine chk_i (decide_eq_true (by
          show (((strL (some (p, A, y))).map Span.cells).length + 1) * 16 ≤ 140737488355328
          rw [hlen]; omega)) ?_
        conv => whnf
        refine arith_in (wrap_i64 (by (try dsimp only); omega)) ?_
        conv => whnf
        refine ⟨some (b, A ++ [y], ⟨i, i⟩), ⟨by omega, by rw [Nat.add_sub_cancel]; exact hx, he, by simp; omega⟩, (Wk.move 46 900000 rfl rfl).trans (Wk.sub ⟨rfl, ?_, rfl, trivial⟩ ⟨?_, trivial⟩)⟩
        · show some (V.sl 900000 2 0 (((A ++ [y]).map Span.cells).length + 1)) = some (V.sl 900000 2 0 ((A ++ [y]).length + 1))
          rw [List.length_map]
        · show some (Obj.arr 2 (.dd ((A ++ [y]).map Span.cells ++ [[i64 i, i64 i]]))) = some (Obj.arr 2 (.dd ((A ++ [y] ++ [(⟨i, i⟩ : Span)]).map Span.cells)))
          rw [List.map_append (l₁ := A ++ [y])]; rfl
  · intro o hJ
    have : strF L = strL o := by
      cases o with
      | none => exact hJ.2
      | some q => obtain ⟨p, A, y⟩ := q; exact hJ.2.2.1
    rw [this]
    conv => whnf
    refine brk_i (fun h => absurd h (by simp)) (fun _ => ?_)
    conv => whnf
    exact RetA_sl rfl (by rw [List.length_map, strL_len]) ⟨⟨rfl, rfl⟩, rfl⟩
end Go.PX

namespace Go.PX
open Go.Proofs

/- Lamp: the reference: Lit, Shows. -/

def litAt (L : List Bool) (s : Int) : Bool := L.getD s.toNat false
def litL (L : List Bool) : List Span := (strF L).filter fun s => litAt L s.lo

theorem strG_in {L : List Bool} : ∀ {r : List Bool} {s : Int} {p : Bool} {A : List Span} {y : Span}, (∀ z ∈ A, 0 ≤ z.lo ∧ z.lo ≤ z.hi ∧ z.hi < L.length) → (0 ≤ y.lo ∧ y.lo ≤ y.hi ∧ y.hi < s) → s + r.length = L.length →
    ∀ z ∈ strG r s p A y, 0 ≤ z.lo ∧ z.lo ≤ z.hi ∧ z.hi < L.length
  | [], s, p, A, y, hA, hy, hs, z, hz => by
    rw [strG] at hz
    simp only [List.length_nil] at hs
    rcases List.mem_append.1 hz with hz | hz
    · exact hA z hz
    · rw [List.mem_singleton.1 hz]; omega
  | b :: r, s, p, A, y, hA, hy, hs, z, hz => by
    rw [strG] at hz
    simp only [List.length_cons] at hs
    split at hz
    · exact strG_in hA (by simp only; omega) (by omega) z hz
    · refine strG_in (fun u hu => ?_) (by simp only; omega) (by omega) z hz
      rcases List.mem_append.1 hu with hu | hu
      · exact hA u hu
      · rw [List.mem_singleton.1 hu]; omega

theorem strF_in {L : List Bool} : ∀ z ∈ strF L, 0 ≤ z.lo ∧ z.lo ≤ z.hi ∧ z.hi < L.length := by
  intro z hz
  cases L with
  | nil => cases hz
  | cons b r => exact strG_in (L := b :: r) (by simp) (by simp) (by simp; omega) z hz

theorem strG_len : ∀ {r : List Bool} {s : Int} {p : Bool} {A : List Span} {y : Span}, (strG r s p A y).length ≤ A.length + 1 + r.length
  | [], _, _, A, y => by simp [strG]
  | b :: r, s, p, A, y => by
    rw [strG]
    split
    · have := strG_len (r := r) (s := s + 1) (p := b) (A := A) (y := ⟨y.lo, s⟩); simp only [List.length_cons]; omega
    · have := strG_len (r := r) (s := s + 1) (p := b) (A := A ++ [y]) (y := ⟨s, s⟩)
      simp only [List.length_cons, List.length_append, List.length_nil] at this ⊢; omega

theorem strF_len (L : List Bool) : (strF L).length ≤ L.length := by
  cases L with
  | nil => exact Nat.le_refl _
  | cons b r =>
    have := strG_len (r := r) (s := 1) (p := b) (A := []) (y := ⟨0, 0⟩)
    simp only [strF, List.length_cons, List.length_nil] at *
    omega

/-- The program's list of the lit stretches is the reference's. -/
theorem showF_str {f : Int → Bool} : ∀ {r : List Bool} {s : Int} {p : Bool} {A : List Span} {y : Span}, (∀ k b, r[k]? = some b → f (s + (k : Nat)) = b) → f y.lo = p →
    showF r s p ((A ++ [y]).filter fun z => f z.lo) = (strG r s p A y).filter fun z => f z.lo
  | [], _, _, _, _, _, _ => rfl
  | b :: r, s, p, A, y, hf, hy => by
    have hb : f s = b := by have := hf 0 b rfl; simpa using this
    have hr : ∀ k c, r[k]? = some c → f (s + 1 + (k : Nat)) = c := fun k c hk => by
      have := hf (k + 1) c (by simpa using hk)
      rw [← this]; congr 1; omega
    rw [showF, strG]
    by_cases h1 : b = p
    · rw [if_pos h1]
      rw [← showF_str (A := A) (y := ⟨y.lo, s⟩) hr (by rw [h1]; exact hy)]
      congr 1
      cases b with
      | false =>
        rw [← h1] at hy
        rw [if_neg (by simp), List.filter_append, List.filter_append]
        simp [List.filter, hy]
      | true =>
        rw [← h1] at hy ⊢
        rw [if_pos rfl, if_pos rfl, List.filter_append, List.filter_append]
        have e1 : ([y].filter fun z => f z.lo) = [y] := by simp [List.filter, hy]
        have e2 : ([(⟨y.lo, s⟩ : Span)].filter fun z => f z.lo) = [⟨y.lo, s⟩] := by simp [List.filter, hy]
        rw [e1, e2]
        unfold setHi
        have : (A.filter (fun z => f z.lo) ++ [y]).length - 1 = (A.filter (fun z => f z.lo)).length := by simp
        rw [this]
        apply List.ext_getElem?
        intro i
        rw [List.getElem?_modify]
        by_cases hi : (A.filter (fun z => f z.lo)).length = i
        · subst hi; simp
        · simp only [if_neg hi]
          by_cases hlt : i < (A.filter (fun z => f z.lo)).length
          · rw [List.getElem?_append_left hlt, List.getElem?_append_left hlt]; simp
          · rw [List.getElem?_eq_none (by simp; omega), List.getElem?_eq_none (by simp; omega)]; rfl
    · rw [if_neg h1]
      rw [← showF_str (A := A ++ [y]) (y := ⟨s, s⟩) hr hb]
      congr 1
      rw [List.filter_append (l₁ := A ++ [y])]
      cases b with
      | false =>
        rw [if_neg (by simp)]
        simp [List.filter, hb]
      | true =>
        have hp : p = false := by cases p <;> simp_all
        rw [if_pos rfl, hp, if_neg (by simp)]
        simp [List.filter, hb]

theorem show_lit (L : List Bool) : showF L 0 false [] = litL L := by
  unfold litL
  cases L with
  | nil => rfl
  | cons b r =>
    rw [showF, strF]
    have hg : ∀ k c, r[k]? = some c → litAt (b :: r) (1 + (k : Nat)) = c := fun k c hk => by
      unfold litAt
      rw [show (1 + ((k : Nat) : Int)).toNat = k + 1 by omega]
      simp [List.getD_eq_getElem?_getD, hk]
    have h0 : litAt (b :: r) 0 = b := by unfold litAt; simp
    rw [← showF_str (A := []) (y := ⟨0, 0⟩) hg h0]
    congr 1
    cases b with
    | false => simp [List.filter, h0]
    | true => simp [List.filter, h0]

set_option maxHeartbeats 1000000 in
theorem la75 (L : List Bool) (hL : L.length ≤ 100000) : FnV Try.prog 75 [boolsD L] (spansD (litL L)) := by
  refine fnV_of mixed tysOk Try.func75 rfl (ft := ft75) 1 (by decide +kernel) (by rfl) fun {σ} Y st => ?_
  conv => whnf
  refine CallA_v (la99 L hL) rfl rfl ?_
  conv => whnf
  unfold litL
  have hin := strF_in (L := L)
  have hsl := strF_len L
  generalize strF L = S at hin hsl
  refine LoopA_i (T := tys) tysOk (by exact drawsB_spec mixed tysOk (by decide +kernel)) S (fun i (acc : List Span) => ⟨[(0, .d (boolsD L)), (3, .d (spansD S)), (4, .sl 28 2 0 acc.length), (5, .d (i64 i))], [(28, .arr 2 (.dd (acc.map Span.cells)))], st⟩)
    (fun i r acc => (S.filter fun s => litAt L s.lo) = acc ++ (r.filter fun s => litAt L s.lo) ∧ acc.length ≤ i) [] ((Wk.born 4 28 2 rfl rfl rfl).trans (Wk.sub ⟨(by first | rfl | (simp only [List.length_map]; rfl) | simp [PX.get]), (by first | rfl | (simp only [List.length_map]; rfl) | simp [PX.get]), (by first | rfl | (simp only [List.length_map]; rfl) | simp [PX.get]), (by first | rfl | (simp only [List.length_map]; rfl) | simp [PX.get]), trivial⟩ ⟨(by first | rfl | (simp only [List.length_map]; rfl) | simp [PX.get]), trivial⟩)) ⟨rfl, by simp⟩ ?_ ?_
  · intro i z r acc hx hi hr ⟨he, hal⟩
    rw [List.filter_cons] at he
    have hz := hin z (List.mem_of_getElem? hx)
    have hlt : z.lo.toNat < L.length := by omega
    obtain ⟨b, hb⟩ : ∃ b, L[z.lo.toNat]? = some b := ⟨_, List.getElem?_eq_getElem hlt⟩
    have hlb : litAt L z.lo = b := by unfold litAt; simp [List.getD_eq_getElem?_getD, hb]
    rw [hlb] at he
    conv => whnf
    refine brk_i (fun _ => ?_) (fun h => absurd hi (by simpa using h))
    conv => whnf
    refine elemK_nat hx ?_
    conv => whnf
    refine elemK_i [.bool b] ⟨hz.1, by simp [hb]⟩ ?_
    conv => whnf
    cases b with
    | true =>
      conv => whnf
      refine elemK_nat hx ?_
      conv => whnf
      refine ownK_whole rfl ?_
      conv => whnf
      refine ownK_whole (by simp [Els.len]) ?_
      conv => whnf
      refine chk_i (decide_eq_true (by
        show ((acc.map Span.cells).length + 1) * 16 ≤ 140737488355328
        rw [List.length_map]; omega)) ?_
      conv => whnf
      refine arith_in (wrap_i64 (by (try dsimp only); omega)) ?_
      conv => whnf
      refine ⟨acc ++ [z], ⟨by rw [he]; simp, by simp; omega⟩, Wk.sub ⟨rfl, rfl, ?_, rfl, trivial⟩ ⟨?_, trivial⟩⟩
      · simp [PX.get, Els.len]
      · simp [PX.get]; rfl
    | false =>
      conv => whnf
      refine arith_in (wrap_i64 (by (try dsimp only); omega)) ?_
      conv => whnf
      exact ⟨acc, ⟨by simpa using he, by omega⟩, (Wk.sub ⟨(by first | rfl | (simp only [List.length_map]; rfl) | simp [PX.get]), (by first | rfl | (simp only [List.length_map]; rfl) | simp [PX.get]), (by first | rfl | (simp only [List.length_map]; rfl) | simp [PX.get]), (by first | rfl | (simp only [List.length_map]; rfl) | simp [PX.get]), trivial⟩ ⟨(by first | rfl | (simp only [List.length_map]; rfl) | simp [PX.get]), trivial⟩)⟩
  · intro acc ⟨he, hal⟩
    rw [List.filter_nil, List.append_nil] at he
    rw [he]
    conv => whnf
    refine brk_i (fun h => absurd h (by simp)) (fun _ => ?_)
    conv => whnf
    exact RetA_sl rfl (by simp) ⟨⟨rfl, rfl⟩, rfl⟩

/-- The reference's Shows returns what the program's does. -/
theorem la20 (c : LCase) (t : LTruth) : FnV Try.prog 20 [c.d, t.d] (.tup [spansD (showL c t), i64 (showE c t)]) := by
  refine fnV_of mixed tysOk Try.func20 rfl (ft := ft20) 2 (by decide +kernel) (by rfl) fun {σ} Y st => ?_
  conv => whnf
  refine CallA_v (la16 c) rfl rfl ?_
  conv => whnf
  have hw : (checkL c).2.2 = 0 → c.windings.length ≤ 1000 := fun h => by have := (checkL_ok h).winds; omega
  refine CallA_v (la74 c t (checkL c).2.2 hw) rfl rfl ?_
  conv => whnf
  have he : askE c t (checkL c).2.2 = showE c t := rfl
  rw [he]
  by_cases h1 : showE c t = 0
  case neg =>
    have hl : showL c t = [] := by unfold showL; rw [if_neg h1]
    rw [hl]
    refine brk_i (fun _ => ?_) (fun h2 => absurd h2 (by simp [h1]))
    conv => whnf
    exact RetA_viewR 0 rfl rfl ⟨⟨rfl, rfl⟩, rfl⟩
  have h0 : (checkL c).2.2 = 0 := by
    by_cases h : (checkL c).2.2 = 0
    · exact h
    · unfold showE at h1; rw [if_neg h] at h1; exact absurd h1 h
  have hT : TruthR c t := truth_ok (by unfold showE at h1; rwa [if_pos h0] at h1)
  have hl : showL c t = litL (courseL c.lamp c.windings t) := by unfold showL; rw [if_pos h1, show_lit]
  rw [hl]
  have hR := checkL_ok h0
  refine brk_i (fun h2 => absurd h2 (by simp [h1])) (fun _ => ?_)
  conv => whnf
  refine CallA_v (la50 c.lamp c.windings t (CrsR.of hR hT)) rfl rfl ?_
  conv => whnf
  refine CallA_v (la75 (courseL c.lamp c.windings t) (by have := (courseL_len (w := c.windings) (t := t) hR.lamp).2.1; omega)) rfl rfl ?_
  conv => whnf
  rw [h1]
  exact RetA_view 0 rfl ⟨⟨rfl, rfl⟩, rfl⟩
end Go.PX

namespace Go.PX
open Go.Proofs

/- Lamp: LampShows, walked. -/

theorem showL_len (c : LCase) (t : LTruth) : (showL c t).length < 1000000 := by
  unfold showL
  split
  · rename_i h1
    have h0 : (checkL c).2.2 = 0 := by
      by_cases h : (checkL c).2.2 = 0
      · exact h
      · unfold showE at h1; rw [if_neg h] at h1; exact absurd h1 h
    rw [show_lit]
    have h2 := (courseL_len (w := c.windings) (t := t) (checkL_ok h0).lamp).2.1
    have h3 := strF_len (courseL c.lamp c.windings t)
    have h4 := List.length_filter_le (fun s : Span => litAt (courseL c.lamp c.windings t) s.lo) (strF (courseL c.lamp c.windings t))
    unfold litL
    omega
  · simp

theorem la3 (c : LCase) (l : List LLight) (t : LTruth) : FnV Try.prog 3 [c.d, lightsD l, t.d] (.bool true) := by
  refine fnV_of mixed tysOk Try.func3 rfl (ft := ft3) 3 (by decide +kernel) (by rfl) fun {σ} Y st => ?_
  conv => whnf
  refine CallA_v (la15 c) rfl rfl ?_
  conv => whnf
  refine CallA_v (la16 c) rfl rfl ?_
  conv => whnf
  rw [show (!decide ((checkL c).1 = (checkL c).1)) = false by simp]
  conv => whnf
  rw [show (!decide ((checkL c).2.1 = (checkL c).2.1)) = false by simp]
  conv => whnf
  rw [show (!decide ((checkL c).2.2 = (checkL c).2.2)) = false by simp]
  conv => whnf
  refine CallA_v (la17 l) rfl rfl ?_
  conv => whnf
  refine CallA_v (la18 l) rfl rfl ?_
  conv => whnf
  rw [show (!decide ((lightsF l).1 = (lightsF l).1)) = false by simp]
  conv => whnf
  rw [show (!decide ((lightsF l).2 = (lightsF l).2)) = false by simp]
  conv => whnf
  refine CallA_v (la19 c t) rfl rfl ?_
  conv => whnf
  refine CallA_v (la20 c t) rfl rfl ?_
  conv => whnf
  refine CallA_v (fn45 (showL c t) (showL c t) (showL_len c t)) rfl rfl ?_
  conv => whnf
  rw [show decide (showL c t = showL c t) = true by simp]
  conv => whnf
  rw [show decide (showE c t = showE c t) = true by simp]
  conv => whnf
  refine CallA_v (la22) rfl rfl ?_
  conv => whnf
  exact RetA_view 0 rfl ⟨⟨rfl, rfl⟩, rfl⟩
end Go.PX
