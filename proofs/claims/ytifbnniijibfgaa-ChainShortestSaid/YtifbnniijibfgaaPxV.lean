import Derived.Test.YtifbnniijibfgaaPxU
import Derived.Test.YtifbnniijibfgaaPxL
set_option linter.all false
set_option maxRecDepth 10000
namespace Go.PX
open Go.Proofs

/-- What is known of new shots, by their indices. -/
def freshM : List Shot → Int → List (D × D)
  | [], _ => []
  | s :: r, i => (i64 i, s.new.d) :: freshM r (i + 1)

theorem freshM_append : ∀ (l : List Shot) (x : Shot) (i : Int), freshM (l ++ [x]) i = freshM l i ++ [(i64 (i + l.length), x.new.d)]
  | [], x, i => by simp [freshM]
  | s :: r, x, i => by
    have : i + 1 + (r.length : Int) = i + ((s :: r).length : Nat) := by simp only [List.length_cons]; omega
    simp only [List.cons_append, freshM, freshM_append r x (i + 1), this]

theorem freshM_none : ∀ (l : List Shot) (i n : Int) (j : Nat), i + l.length ≤ n → findD (i64 n) (freshM l i) j = some none
  | [], i, n, j, _ => rfl
  | s :: r, i, n, j, h => by
    simp only [List.length_cons] at h
    have : decide (n = i) = false := by simp; omega
    simp only [freshM, findD, sameD, decide_true, this]
    exact freshM_none r (i + 1) n (j + 1) (by omega)

theorem freshM_some : ∀ (l : List Shot) (i : Int) (k j : Nat) (s : Shot), l[k]? = some s → findD (i64 (i + k)) (freshM l i) j = some (some (j + k, s.new.d))
  | [], i, k, j, s, h => by simp at h
  | x :: r, i, 0, j, s, h => by
    simp at h; subst h
    simp [freshM, findD, sameD]
  | x :: r, i, k + 1, j, s, h => by
    have h : r[k]? = some s := by simpa using h
    have : decide (i + ((k + 1 : Nat) : Int) = i) = false := by simp; omega
    simp only [freshM, findD, sameD, decide_true, this]
    have := freshM_some r (i + 1) k (j + 1) s h
    rw [show i + ((k + 1 : Nat) : Int) = i + 1 + (k : Int) by omega, this]
    congr 3; omega

def thickL (c : Case) : List Span := c.chain.shots.map fun s => (rangeS s c.chain.err s.gauges c.day).1
def soundE (c : Case) : Int := soundL c.chain.err c.day c.chain.shots 0
def moorC (c : Case) : List D := c.cells ++ [spansD (thickL c), .mv (freshM c.chain.shots 0)]
def moorD (c : Case) : D := .ref (moorC c)

theorem soundL_zero {off day : Int} : ∀ {l : List Shot} {e : Int}, soundL off day l e = 0 → e = 0 ∧ ∀ s ∈ l, (rangeS s off s.gauges day).2 = true
  | [], e, h => ⟨h, fun s hs => by cases hs⟩
  | x :: r, e, h => by
    simp only [soundL] at h
    split at h
    · rename_i he
      obtain ⟨h1, h2⟩ := soundL_zero h
      split at h1
      · rename_i hx
        refine ⟨he, fun s hs => ?_⟩
        rcases List.mem_cons.1 hs with rfl | hs
        · exact hx
        · exact h2 s hs
      · cases h1
    · rename_i he; exact absurd h he

theorem soundL_eight {off day : Int} : ∀ (l : List Shot), soundL off day l 8 = 8
  | [] => rfl
  | x :: r => by simp [soundL]

theorem fn66 (c : Case) (e : Int) (hc : e = 0 → CaseR c) : FnV Try.prog 66 [c.d, i64 e] (.tup [if e = 0 then (if soundE c = 0 then moorD c else .nilp) else .nilp, i64 (if e = 0 then soundE c else e)]) := by
  refine fnV_of mixed tysOk Try.func66 rfl (ft := ft66) 2 (by decide +kernel) (by rfl) fun {σ} Y st => ?_
  conv => whnf
  refine brk_i (fun h1 => ?_) (fun h1 => ?_)
  · have h1 : e ≠ 0 := by simpa using h1
    conv => whnf
    refine RetA_view 0 rfl ⟨⟨?_, rfl⟩, rfl⟩
    simp [h1, packD]
  have h1 : e = 0 := by simpa using h1
  have hR := hc h1
  subst h1
  simp only [if_true]
  have hlen := hR.lens
  obtain ⟨sE, hsE⟩ : ∃ x, x = soundE c := ⟨_, rfl⟩
  rw [← hsE]
  conv => whnf
  refine LoopA_i (T := tys) tysOk (by exact drawsB_spec mixed tysOk (by decide +kernel)) c.chain.shots (fun i (_ : Unit) => ⟨[(2, .ptr 2 0), (6, .ptr 17 0), (20, .d (shotsD c.chain.shots)), (21, .d (i64 c.chain.shots.length)), (22, .d (i64 i))],
      [(2, .box (.dd c.cells)), (17, .box (.vv (inj c.cells ++ [.sl 47 2 0 i, .mp 15]))), (47, .arr 2 (.dd (((thickL c).take i).map Span.cells))), (15, .map (freshM (c.chain.shots.take i) 0))], st⟩)
    (fun i r _ => (∀ s ∈ r, s ∈ c.chain.shots) ∧ sE = soundL c.chain.err c.day r 0) ()
    ((Wk.bornAt 17 47 2 (inj c.cells) [.mp 15] rfl rfl rfl rfl).trans (Wk.sub ⟨(by first | rfl | (simp only [List.length_map]; rfl) | simp [PX.get]), (by first | rfl | (simp only [List.length_map]; rfl) | simp [PX.get]), (by first | rfl | (simp only [List.length_map]; rfl) | simp [PX.get]), (by first | rfl | (simp only [List.length_map]; rfl) | simp [PX.get]), (by first | rfl | (simp only [List.length_map]; rfl) | simp [PX.get]), trivial⟩ ⟨(by first | rfl | (simp only [List.length_map]; rfl) | simp [PX.get]), (by first | rfl | (simp only [List.length_map]; rfl) | simp [PX.get]), (by first | rfl | (simp only [List.length_map]; rfl) | simp [PX.get]), (by first | rfl | (simp only [List.length_map]; rfl) | simp [PX.get]), trivial⟩)) ⟨fun _ h => h, hsE⟩ ?_ ?_
  · intro i x r _ hx hi hr ⟨hm, he⟩
    have hmx := hm x (by simp)
    have hL := hR.look hmx
    have hday := hR.day
    rw [soundL, if_pos rfl] at he
    have htk : c.chain.shots.take (i + 1) = c.chain.shots.take i ++ [x] := by rw [List.take_succ, hx]; rfl
    have htt : (thickL c).take (i + 1) = (thickL c).take i ++ [(rangeS x c.chain.err x.gauges c.day).1] := by
      rw [List.take_succ]
      simp [thickL, hx]
    have hlt : ((thickL c).take i).length = i := by simp [thickL]; omega
    have hlt2 : min i (thickL c).length = i := by simpa using hlt
    conv => whnf
    refine brk_i (fun _ => ?_) (fun h => absurd hi (by simpa using h))
    conv => whnf
    refine elemK_nat hx ?_
    conv => whnf
    refine CallA_v (ds := [.agg (sCells x c.chain.err), i64 c.day]) (fn58 x c.chain.err c.day hL (by omega)) rfl rfl ?_
    conv => whnf
    refine brk_i (fun h2 => ?_) (fun h2 => ?_)
    · have h2 : (rangeS x c.chain.err x.gauges c.day).2 = false := by simpa using h2
      rw [h2] at he
      simp only [Bool.false_eq_true, if_false, soundL_eight] at he
      conv => whnf
      rw [he]
      exact RetA_view 0 rfl ⟨⟨rfl, rfl⟩, rfl⟩
    · have h2 : (rangeS x c.chain.err x.gauges c.day).2 = true := by simpa using h2
      rw [h2] at he
      simp only [if_true] at he
      conv => whnf
      refine chk_i (by simp [Els.len, hlt2]) ?_
      conv => whnf
      refine chk_i (by simp [Els.len, Els.part, Els.cons, V.cells, hlt2]; omega) ?_
      conv => whnf
      refine ⟨none, freshM_none _ 0 i 0 (by simp; omega), ?_⟩
      conv => whnf
      refine arith_in (wrap_i64 (by (try dsimp only); omega)) ?_
      conv => whnf
      refine ⟨(), ⟨fun s hs => hm s (by simp [hs]), he⟩, Wk.sub ⟨rfl, rfl, rfl, rfl, rfl, trivial⟩ ⟨rfl, ?_, ?_, ?_, trivial⟩⟩
      · show some (Obj.box (.vv (inj c.cells ++ [.sl 47 2 0 ((((((thickL c).take i).map Span.cells).drop 0).take i).length + 1), .mp 15]))) = _
        rw [List.drop_zero, List.take_of_length_le (by simp; omega)]; simp only [List.length_map, hlt]
      · show some (Obj.arr 2 (.dd (((((thickL c).take i).map Span.cells).drop 0).take i ++ [(rangeS x c.chain.err x.gauges c.day).1.cells]))) = _
        rw [List.drop_zero, List.take_of_length_le (by simp; omega), htt]; simp
      · show some (Obj.map (freshM (c.chain.shots.take i) 0 ++ [(i64 i, x.new.d)])) = _
        rw [htk, freshM_append]
        have : ((c.chain.shots.take i).length : Int) = i := by simp; omega
        rw [this, Int.zero_add]
  · intro _ ⟨_, he⟩
    rw [soundL] at he
    subst he
    conv => whnf
    refine brk_i (fun h => absurd h (by simp)) (fun _ => ?_)
    conv => whnf
    have htl : (thickL c).take c.chain.shots.length = thickL c := List.take_of_length_le (by simp [thickL])
    refine RetA_view 2 (ds := [.ref (c.cells ++ [spansD (thickL c), .mv (freshM (c.chain.shots.take c.chain.shots.length) 0)]), i64 0]) (viewL_cons (viewV_ptr rfl (viewL_app (viewL_cons (viewV_sl' (es' := (thickL c).map Span.cells) rfl (by rw [htl]) (by simp [thickL])) (viewL_cons (viewV_mp rfl) rfl)))) rfl) ⟨⟨?_, rfl⟩, rfl⟩
    rw [List.take_length]
    simp [packD, moorD, moorC]
end Go.PX

namespace Go.PX
open Go.Proofs

theorem onF_le {set fresh wear day : Int} (hf : 0 ≤ fresh) (hw : 0 ≤ wear) (hd : set ≤ day) : 0 ≤ onF set fresh wear day ∧ onF set fresh wear day ≤ fresh := by
  have := Int.mul_nonneg hw (show 0 ≤ day - set by omega)
  unfold onF
  omega

theorem fold_bd {set day : Int} (hd : set ≤ day) : ∀ (l : List (Int × (Int × Int))) (acc : Span × Bool), (∀ t ∈ l, (0 ≤ t.1 ∧ t.1 ≤ 1000000) ∧ (0 ≤ t.2.1 ∧ t.2.1 ≤ 1000000) ∧ (0 ≤ t.2.2 ∧ t.2.2 ≤ 1000000)) →
    (0 ≤ acc.1.lo ∧ acc.1.lo ≤ 1000000) ∧ (0 ≤ acc.1.hi ∧ acc.1.hi ≤ 1000000) → (0 ≤ (l.foldl (thickStep set day) acc).1.lo ∧ (l.foldl (thickStep set day) acc).1.lo ≤ 1000000) ∧ (0 ≤ (l.foldl (thickStep set day) acc).1.hi ∧ (l.foldl (thickStep set day) acc).1.hi ≤ 1000000)
  | [], acc, _, h => h
  | t :: l, acc, ht, h => by
    rw [List.foldl_cons]
    refine fold_bd hd l _ (fun u hu => ht u (by simp [hu])) ?_
    obtain ⟨h1, h2, h3⟩ := ht t (by simp)
    have k1 := onF_le (set := set) (fresh := t.2.1) (wear := t.1) (day := day) h2.1 h1.1 hd
    have k2 := onF_le (set := set) (fresh := t.2.2) (wear := t.1) (day := day) h3.1 h1.1 hd
    unfold thickStep
    cases acc.2 <;> simp only [if_true, Bool.false_eq_true, if_false] <;> omega

theorem rangeS_bd {s : Shot} {off : Int} {gs : List Gauge} {day : Int} (h : LookOk s off gs) (hd : s.set ≤ day) : (0 ≤ (rangeS s off gs day).1.lo ∧ (rangeS s off gs day).1.lo ≤ 1000000) ∧ (0 ≤ (rangeS s off gs day).1.hi ∧ (rangeS s off gs day).1.hi ≤ 1000000) := by
  rw [rangeS_fold]
  exact fold_bd hd _ _ (truthsS_ok h) (by simp)

theorem CaseR.caseOk {c : Case} (h : CaseR c) : CaseOk c := by
  refine ⟨h.lens.2, h.err, h.day, fun s hs => ?_⟩
  have hL := h.look hs
  exact ⟨hL.shot, hL.gok, (h.shots s hs).1.len⟩

theorem soundL_ne {off day : Int} : ∀ (l : List Shot) (e : Int), e ≠ 0 → soundL off day l e = e
  | [], e, _ => rfl
  | x :: r, e, h => by simp [soundL, h]

/-- The error with which a case whose gaugings are looked at is refused. -/
def lookE (c : Case) (e : Int) : Int := if e = 0 then soundE c else e

theorem lookE_eq (c : Case) (e : Int) : soundL c.chain.err c.day c.chain.shots e = lookE c e := by
  unfold lookE soundE
  by_cases h : e = 0
  · rw [if_pos h, h]
  · rw [if_neg h, soundL_ne _ _ h]

def bearsE (c : Case) (i : Int) : Span × Int :=
  if lookE c (openE c i) = 0 then (match (thickL c)[i.toNat]? with
    | some s => (⟨strongF s.lo, strongF s.hi⟩, 0)
    | none => (⟨0, 0⟩, 0)) else (⟨0, 0⟩, lookE c (openE c i))

theorem lookE_zero {c : Case} {e : Int} (h : lookE c e = 0) : e = 0 ∧ soundE c = 0 := by
  unfold lookE at h
  split at h
  · rename_i h0; exact ⟨h0, h⟩
  · rename_i h0; exact absurd h h0

theorem thick_get {c : Case} {i : Nat} {s : Shot} (h : c.chain.shots[i]? = some s) : (thickL c)[i]? = some (rangeS s c.chain.err s.gauges c.day).1 := by
  simp [thickL, h]

theorem fn20 (c : Case) (i : Int) : FnV Try.prog 20 [c.d, i64 i] (.tup [(bearsE c i).1.d, i64 (bearsE c i).2]) := by
  refine fnV_of mixed tysOk Try.func20 rfl (ft := ft20) 2 (by decide +kernel) (by rfl) fun {σ} Y st => ?_
  conv => whnf
  refine CallA_v (ds := [c.d, i64 i]) (fn57 c i) rfl rfl ?_
  by_cases h0 : openE c i = 0
  · obtain ⟨hc, s, hi, hs⟩ := openE_ok h0
    have hR := case_ok hc
    have hm := List.mem_of_getElem? hs
    have hL := hR.look hm
    have hsd := (hR.shots s hm).2
    have hday := hR.day
    have hD : openD c i = .agg (sCells s c.chain.err) := by simp [openD, h0, hs]
    have htg := thick_get hs
    obtain ⟨b1, b2⟩ := rangeS_bd hL (day := c.day) (by omega)
    rw [hD, h0]
    conv => whnf
    refine CallA_v (ds := [c.d, i64 0]) (fn66 c 0 (fun _ => hR)) rfl rfl ?_
    simp only [if_true]
    by_cases h1 : soundE c = 0
    · have hE : bearsE c i = (⟨strongF (rangeS s c.chain.err s.gauges c.day).1.lo, strongF (rangeS s c.chain.err s.gauges c.day).1.hi⟩, 0) := by
        simp [bearsE, lookE, h0, h1, htg]
      rw [hE, h1]
      simp only [if_true]
      generalize rangeS s c.chain.err s.gauges c.day = rr at *
      conv => whnf
      refine elemK_i rr.1.cells ⟨hi, by rw [List.getElem?_map, htg]; rfl⟩ ?_
      conv => whnf
      refine DrawCall_v (fn67 rr.1.lo ⟨by omega, by omega⟩) rfl rfl ?_
      conv => whnf
      refine elemK_i rr.1.cells ⟨hi, by rw [List.getElem?_map, htg]; rfl⟩ ?_
      conv => whnf
      refine DrawCall_v (fn67 rr.1.hi ⟨by omega, by omega⟩) rfl rfl ?_
      conv => whnf
      exact RetA_view 0 rfl ⟨⟨rfl, rfl⟩, rfl⟩
    · have hE : bearsE c i = (⟨0, 0⟩, soundE c) := by
        simp [bearsE, lookE, h0, h1]
      rw [hE]
      simp only [h1, if_false]
      conv => whnf
      refine brk_i (fun _ => ?_) (fun h => absurd h (by simpa using h1))
      conv => whnf
      exact RetA_view 0 rfl ⟨⟨rfl, rfl⟩, rfl⟩
  · have hD : openD c i = .agg [.str ⟨#[]⟩, i64 0, i64 0, i64 0, i64 0, i64 0, i64 0, .nils, i64 0] := by simp [openD, h0]
    have hE : bearsE c i = (⟨0, 0⟩, openE c i) := by simp [bearsE, lookE, h0]
    rw [hD, hE]
    conv => whnf
    refine CallA_v (ds := [c.d, i64 (openE c i)]) (fn66 c (openE c i) (fun h => absurd h h0)) rfl rfl ?_
    simp only [h0, if_false]
    conv => whnf
    refine brk_i (fun _ => ?_) (fun h => absurd h (by simpa using h0))
    conv => whnf
    exact RetA_view 0 rfl ⟨⟨rfl, rfl⟩, rfl⟩

theorem fn21 (c : Case) (i : Int) : FnV Try.prog 21 [c.d, i64 i] (.tup [(bearsE c i).1.d, i64 (bearsE c i).2]) := by
  refine fnV_of mixed tysOk Try.func21 rfl (ft := ft21) 2 (by decide +kernel) (by rfl) fun {σ} Y st => ?_
  conv => whnf
  refine DrawCall_v (fn59 c i) rfl rfl ?_
  conv => whnf
  refine DrawCall_v (ds := [c.d, i64 (openE c i)]) (fn68 c (openE c i) (fun h => (case_ok (openE_ok h).1).caseOk)) rfl rfl ?_
  rw [lookE_eq]
  conv => whnf
  by_cases h1 : lookE c (openE c i) = 0
  · obtain ⟨h0, h2⟩ := lookE_zero h1
    obtain ⟨hc, s, hi, hs⟩ := openE_ok h0
    have hR := case_ok hc
    have hm := List.mem_of_getElem? hs
    have hL := hR.look hm
    have hsd := (hR.shots s hm).2
    have hday := hR.day
    have herr := hR.err
    have htg := thick_get hs
    obtain ⟨b1, b2⟩ := rangeS_bd hL (day := c.day) (by omega)
    rw [h1]
    have hE : bearsE c i = (⟨strongF (rangeS s c.chain.err s.gauges c.day).1.lo, strongF (rangeS s c.chain.err s.gauges c.day).1.hi⟩, 0) := by
      simp [bearsE, h1, htg]
    rw [hE]
    conv => whnf
    refine elemK_i s.cells ⟨hi, by rw [List.getElem?_map, hs]; rfl⟩ ?_
    conv => whnf
    refine elemK_i s.cells ⟨hi, by rw [List.getElem?_map, hs]; rfl⟩ ?_
    conv => whnf
    refine DrawCall_v (ds := [s.d, i64 c.chain.err, gaugesD s.gauges, i64 c.day]) (fn60 s c.chain.err s.gauges c.day (by omega) hL.shot hL.gok hL.len (by omega)) rfl rfl ?_
    generalize rangeS s c.chain.err s.gauges c.day = rr at *
    conv => whnf
    refine DrawCall_v (fn69 rr.1.lo ⟨by omega, by omega⟩) rfl rfl ?_
    conv => whnf
    refine DrawCall_v (fn69 rr.1.hi ⟨by omega, by omega⟩) rfl rfl ?_
    conv => whnf
    exact RetA_view 0 rfl ⟨⟨rfl, rfl⟩, rfl⟩
  · have hE : bearsE c i = (⟨0, 0⟩, lookE c (openE c i)) := by simp [bearsE, h1]
    rw [hE]
    conv => whnf
    refine brk_i (fun _ => ?_) (fun h => absurd h (by simpa using h1))
    conv => whnf
    exact RetA_view 0 rfl ⟨⟨rfl, rfl⟩, rfl⟩
end Go.PX

namespace Go.PX
open Go.Proofs

/-- A mooring as the program holds it. -/
def mD (c : Case) (th : List Span) (fr : List (D × D)) : D := .ref (c.cells ++ [spansD th, .mv fr])

structure MoorOk (c : Case) (th : List Span) : Prop where
  case : CaseR c
  len : th.length = c.chain.shots.length
  th : ∀ s ∈ th, (0 ≤ s.lo ∧ s.lo ≤ 1000000) ∧ (0 ≤ s.hi ∧ s.hi ≤ 1000000)

def backL (l : List Row) : Nat → List (Int × Row)
  | 0 => []
  | n + 1 => ((n : Int), l[n]?.getD ⟨0, 0⟩) :: backL l n

def rowItem (p : Int × Row) : List V × Heap := ([.d (i64 p.1), .d (.agg p.2.cells)], [])

theorem yields119 (rows : List Row) (h : rows.length < 1000000) : Yields Try.prog 119 [.ref [rowsD rows]] ((backL rows rows.length).map rowItem) := by
  intro γ Y g0 Q hit
  refine fnC_of mixed tysOk Try.func119 rfl (ft := ft119) (args := [.yld, .d (.ref [rowsD rows])]) (show fnB ft119 Try.f119 2 = true from by decide +kernel) ?_
  conv => whnf
  refine arith_to ((rows.length : Int) - 1) (by simp) (wrap_i64 (by omega)) ?_
  conv => whnf
  refine LoopA_p (T := tys) tysOk (by exact drawsB_spec mixed tysOk (by decide +kernel)) (α := Int × γ)
    (fun x => ⟨[(0, .yld), (1, .d (.ref [rowsD rows])), (3, .d (i64 x.1))], [], x.2⟩)
    (fun x => -1 ≤ x.1 ∧ x.1 < rows.length ∧ iterate Y ((backL rows (x.1 + 1).toNat).map rowItem) x.2 Q) (fun x => (x.1 + 1).toNat) ((rows.length : Int) - 1, g0)
    (Wk.sub ⟨(by first | rfl | (simp only [List.length_map]; rfl) | simp [PX.get]), (by first | rfl | (simp only [List.length_map]; rfl) | simp [PX.get]), (by first | rfl | (simp only [List.length_map]; rfl) | simp [PX.get]), trivial⟩ trivial) ⟨by simp only; omega, by simp only; omega, by simpa using hit⟩ ?_
  clear hit g0
  rintro ⟨i, g0⟩ ⟨h1, h2, hit⟩
  simp only at h1 h2 hit
  conv => whnf
  refine brk_i (fun hb => ?_) (fun hb => ?_)
  · have hb : 0 ≤ i := by simpa using hb
    have hn : (i + 1).toNat = i.toNat + 1 := by omega
    have hlt : i.toNat < rows.length := by omega
    rw [hn, backL, List.getElem?_eq_getElem hlt, Option.getD_some, show ((i.toNat : Nat) : Int) = i by omega] at hit
    conv => whnf
    refine elemK_i rows[i.toNat].cells ⟨hb, by simp [hlt]⟩ ?_
    conv => whnf
    refine YldA_v (ds := [i64 i, .agg rows[i.toNat].cells]) hit rfl rfl (fun s' hs' => ?_) (fun s' hs' => ?_)
    · conv => whnf
      refine arith_in (wrap_i64 (by (try dsimp only); omega)) ?_
      conv => whnf
      exact ⟨(i - 1, s'), by simp only; omega, ⟨by simp only; omega, by simp only; omega, by simp only; rw [show (i - 1 + 1).toNat = i.toNat by omega]; exact hs'⟩, (Wk.sub ⟨(by first | rfl | (simp only [List.length_map]; rfl) | simp [PX.get]), (by first | rfl | (simp only [List.length_map]; rfl) | simp [PX.get]), (by first | rfl | (simp only [List.length_map]; rfl) | simp [PX.get]), trivial⟩ trivial)⟩
    · conv => whnf
      exact RetA_view 0 rfl ⟨rfl, hs'⟩
  · have hb : ¬ 0 ≤ i := by simpa using hb
    have hi : (i + 1).toNat = 0 := by omega
    rw [hi, backL] at hit
    conv => whnf
    exact RetA_view 0 rfl ⟨rfl, hit⟩

theorem fn117 (rows : List Row) : FnV Try.prog 117 [rowsD rows] (.clo 119 [.ref [rowsD rows]]) := by
  refine fnV_of mixed tysOk Try.func117 rfl (ft := ft117) 1 (by decide +kernel) (by rfl) fun {σ} Y st => ?_
  conv => whnf
  exact RetA_view 1 rfl ⟨⟨rfl, rfl⟩, rfl⟩

/-- Whether a row of the table holds at so many links out. -/
def rowOk (c : Case) (t : Truth) (out : Int) (r : Row) : Bool := decide (r.scope * (t.depth + upF t.swell 2) ≤ 10 * c.chain.long * out)
def rowF (c : Case) (t : Truth) (out : Int) : Row := (((backL c.chain.rows c.chain.rows.length).find? fun p => rowOk c t out p.2).getD (0, ⟨0, 0⟩)).2

theorem backL_mem {l : List Row} : ∀ {n : Nat}, n ≤ l.length → ∀ p ∈ backL l n, p.2 ∈ l
  | 0, _, p, h => by simp [backL] at h
  | n + 1, hn, p, h => by
    simp only [backL, List.mem_cons] at h
    rcases h with rfl | h
    · rw [List.getElem?_eq_getElem (by omega)]; exact List.getElem_mem (by omega)
    · exact backL_mem (by omega) p h

theorem rowF_ok {c : Case} (h : CaseR c) (t : Truth) (out : Int) : (0 ≤ (rowF c t out).scope ∧ (rowF c t out).scope ≤ 200) ∧ (0 ≤ (rowF c t out).holds ∧ (rowF c t out).holds ≤ 1000) := by
  unfold rowF
  cases hf : (backL c.chain.rows c.chain.rows.length).find? fun p => rowOk c t out p.2 with
  | none => simp
  | some p =>
    have := h.rows p.2 (backL_mem (Nat.le_refl _) p (List.mem_of_find?_eq_some hf))
    simp only [Option.getD_some]
    omega

theorem fn108 (c : Case) (th : List Span) (fr : List (D × D)) (t : Truth) (out : Int) (hc : CaseR c) (ht : ForceOk c.ship t) (ho : 0 ≤ out ∧ out ≤ 1000) :
    FnV Try.prog 108 [mD c th fr, t.d, i64 out] (.agg (rowF c t out).cells) := by
  refine fnV_of mixed tysOk Try.func108 rfl (ft := ft108) 3 (by decide +kernel) (by rfl) fun {σ} Y st => ?_
  conv => whnf
  have hlen := hc.rlen
  have hlong := hc.long
  have hu := upF_bd (n := t.swell) (b := 2) 150 ht.tswell (by omega)
  have htd := ht.tdepth
  have hts := ht.tswell
  refine CallA_v (ds := [rowsD c.chain.rows]) (fn117 c.chain.rows) rfl rfl ?_
  conv => whnf
  refine RangeA_list tysOk (by exact drawsB_spec mixed tysOk (by decide +kernel)) (by exact drawsB_spec mixed tysOk (by decide +kernel)) rfl 1500000 1600000 [3, 4, 5, 6] (by exact yields119 c.chain.rows (by omega))
    (fun (_ : Unit) => ([(1500000, .box (.dd [mD c th fr])), (1500001, .box (.dd t.cells)), (1500002, .box (.dd [i64 out])), (1500003, .box (.dd [i64 0, i64 0]))], st))
    (fun rest _ => (∀ p ∈ rest, p.2 ∈ c.chain.rows) ∧ rowF c t out = ((rest.find? fun p => rowOk c t out p.2).getD (0, ⟨0, 0⟩)).2) () rfl rfl rfl ⟨backL_mem (Nat.le_refl _), rfl⟩ ?_ ?_
  · rintro p rest _ ⟨hm, he⟩ Q hQ1 hQ
    refine ⟨⟨rfl, rfl⟩, ?_⟩
    have hr := hc.rows p.2 (hm p (by simp))
    have b1 := prod_bd (a := p.2.scope) (b := t.depth + upF t.swell 2) 200 10000 (by omega) (by omega)
    have b2 := prod_bd (a := 10 * c.chain.long) (b := out) 500 1000 (by omega) (by omega)
    have e1 : (t.swell + 2 - 1).tdiv 2 = upF t.swell 2 := rfl
    conv => whnf
    refine DrawCall_v (fn101 t.swell 2 (by omega) (by omega)) rfl rfl ?_
    conv => whnf
    rw [e1]
    refine arith_in (wrap_i64 (by (try dsimp only); omega)) ?_
    conv => whnf
    refine arith_in (wrap_i64 (by (try dsimp only); omega)) ?_
    conv => whnf
    refine arith_in (wrap_i64 (by (try dsimp only); omega)) ?_
    conv => whnf
    refine arith_in (wrap_i64 (by (try dsimp only); omega)) ?_
    conv => whnf
    refine brk_i (fun hb => ?_) (fun hb => ?_)
    · have hk : rowOk c t out p.2 = true := hb
      rw [List.find?_cons_of_pos (by exact hk)] at he
      conv => whnf
      refine ⟨[(1500000, .box (.dd [mD c th fr])), (1500001, .box (.dd t.cells)), (1500002, .box (.dd [i64 out])), (1500003, .box (.dd p.2.cells))], st, (Wk.sub trivial ⟨(by first | rfl | (simp only [List.length_map]; rfl) | simp [PX.get]), (by first | rfl | (simp only [List.length_map]; rfl) | simp [PX.get]), (by first | rfl | (simp only [List.length_map]; rfl) | simp [PX.get]), (by first | rfl | (simp only [List.length_map]; rfl) | simp [PX.get]), trivial⟩), rfl, hQ _ _ _ ?_⟩
      conv => whnf
      rw [he]
      exact RetA_view 0 rfl ⟨⟨rfl, rfl⟩, rfl⟩
    · have hk : ¬ rowOk c t out p.2 = true := by rw [show rowOk c t out p.2 = false from hb]; simp
      rw [List.find?_cons_of_neg (by exact hk)] at he
      conv => whnf
      exact ⟨(), (Wk.sub trivial ⟨(by first | rfl | (simp only [List.length_map]; rfl) | simp [PX.get]), (by first | rfl | (simp only [List.length_map]; rfl) | simp [PX.get]), (by first | rfl | (simp only [List.length_map]; rfl) | simp [PX.get]), (by first | rfl | (simp only [List.length_map]; rfl) | simp [PX.get]), trivial⟩), rfl, hQ1 () ⟨fun q hq => hm q (by simp [hq]), he⟩⟩
  · rintro _ ⟨_, he⟩
    conv => whnf
    rw [he]
    exact RetA_view 0 rfl ⟨⟨rfl, rfl⟩, rfl⟩
end Go.PX

namespace Go.PX
open Go.Proofs

theorem viewV_agg {g : Nat → Option DO} {cs : List V} {l : List D} (h : viewL g cs = some l) : viewV g (.agg cs) = some (.agg l) := by simp [viewV, h]

/-- A box of data with a nil slice in it holds one without elements. -/
theorem Wk.bornAtD {σ : Type} {e : Env} {h : Heap} {s : σ} (b k sz : Nat) (A B : List D) {l : List D} (hk : Nat.blt k 1000000 = true) (hs : Nat.blt 0 sz = true) (hb : get h b = some (.box (.dd l))) (hl : l = A ++ .nils :: B) (hbk : Nat.beq b k = false) :
    Wk (⟨e, h, s⟩ : St σ) ⟨mapT (mapId (killF k)) e, put (put (mapT (Obj.mapId (killF k)) (cut h k)) k (.arr sz (.dd []))) b (.box (.vv (inj A ++ .sl k sz 0 0 :: inj B))), s⟩ := by
  have hk := Nat.le_of_ble_eq_true hk
  have hs := Nat.le_of_ble_eq_true hs
  have hne : b ≠ k := by rintro rfl; simp at hbk
  have h1 : Wk (⟨e, h, s⟩ : St σ) ⟨mapT (mapId (killF k)) e, put (mapT (Obj.mapId (killF k)) (cut h k)) k (.arr sz (.dd [])), s⟩ := by
    intro cx r m L F a w hg
    exact ⟨_, F, hg.newEmpty k sz (by unfold pinned; omega) hs (.dd []) rfl, Tr.refl F w⟩
  refine h1.trans (Wk.reobj b (o := .box (.dd l)) _ (by rw [get_put, if_neg hne, get_mapT, get_cut, if_neg hne, hb]; rfl) (fun yv L F w h => ?_) fun L hb => hb)
  obtain ⟨c, T, hc, hr⟩ := h
  have hr : RepVL yv L F w (inj l) c.toList := hr
  rw [hl, inj_append] at hr
  exact ⟨c, T, hc, RepVL.nil_at k sz hs hr⟩

def worstT (c : Case) (th : List Span) (w : Weather) : Truth := ⟨w.depth.hi, w.wind.hi, w.current.hi, w.swell.hi, c.chain.hold.lo, th.map Span.lo⟩
def loC (s : Span) : List D := [i64 s.lo]

theorem fn80 (c : Case) (th : List Span) (fr : List (D × D)) (w : Weather) (hl : th.length < 1000000) :
    FnV Try.prog 80 [mD c th fr, w.d] (worstT c th w).d := by
  refine fnV_of mixed tysOk Try.func80 rfl (ft := ft80) 2 (by decide +kernel) (by rfl) fun {σ} Y st => ?_
  conv => whnf
  refine LoopA_i (T := tys) tysOk (by exact drawsB_spec mixed tysOk (by decide +kernel)) th (fun i (_ : Unit) => ⟨[(0, .d (mD c th fr)), (4, .ptr 4 0), (30, .d (spansD th)), (31, .d (i64 th.length)), (32, .d (i64 i))],
      [(4, .box (.vv [.d (i64 w.depth.hi), .d (i64 w.wind.hi), .d (i64 w.current.hi), .d (i64 w.swell.hi), .d (i64 c.chain.hold.lo), .sl 41 1 0 i])), (41, .arr 1 (.dd ((th.take i).map loC)))], st⟩)
    (fun i r _ => True) ()
    ((Wk.bornAtD 4 41 1 [i64 w.depth.hi, i64 w.wind.hi, i64 w.current.hi, i64 w.swell.hi, i64 c.chain.hold.lo] [] rfl rfl rfl rfl rfl).trans (Wk.sub ⟨(by first | rfl | (simp only [List.length_map]; rfl) | simp [PX.get]), (by first | rfl | (simp only [List.length_map]; rfl) | simp [PX.get]), (by first | rfl | (simp only [List.length_map]; rfl) | simp [PX.get]), (by first | rfl | (simp only [List.length_map]; rfl) | simp [PX.get]), (by first | rfl | (simp only [List.length_map]; rfl) | simp [PX.get]), trivial⟩ ⟨(by first | rfl | (simp only [List.length_map]; rfl) | simp [PX.get]), (by first | rfl | (simp only [List.length_map]; rfl) | simp [PX.get]), trivial⟩)) trivial ?_ ?_
  · intro i x r _ hx hi hr _
    have htk : th.take (i + 1) = th.take i ++ [x] := by rw [List.take_succ, hx]; rfl
    have hlt : (th.take i).length = i := by simp; omega
    have hlt2 : min i th.length = i := by simpa using hlt
    conv => whnf
    refine brk_i (fun _ => ?_) (fun h => absurd hi (by simpa using h))
    conv => whnf
    refine elemK_nat hx ?_
    conv => whnf
    refine chk_i (by simp [Els.len, hlt2]) ?_
    conv => whnf
    refine chk_i (by simp [Els.len, Els.part, Els.cons, V.cells, hlt2]; omega) ?_
    conv => whnf
    refine arith_in (wrap_i64 (by (try dsimp only); omega)) ?_
    conv => whnf
    refine ⟨(), trivial, Wk.sub ⟨rfl, rfl, rfl, rfl, rfl, trivial⟩ ⟨?_, ?_, trivial⟩⟩
    · show some (Obj.box (.vv [.d (i64 w.depth.hi), .d (i64 w.wind.hi), .d (i64 w.current.hi), .d (i64 w.swell.hi), .d (i64 c.chain.hold.lo), .sl 41 1 0 (((((th.take i).map loC).drop 0).take i).length + 1)])) = _
      rw [List.drop_zero, List.take_of_length_le (by simp; omega)]; simp only [List.length_map, hlt]
    · show some (Obj.arr 1 (.dd ((((th.take i).map loC).drop 0).take i ++ [loC x]))) = _
      rw [List.drop_zero, List.take_of_length_le (by simp; omega), htk]; simp
  · intro _ _
    conv => whnf
    refine brk_i (fun h => absurd h (by simp)) (fun _ => ?_)
    conv => whnf
    have htl : th.take th.length = th := List.take_of_length_le (by simp)
    refine RetA_view 3 (ds := [.agg (worstT c th w).cells]) (viewL_cons (viewV_agg (viewL_cons rfl (viewL_cons rfl (viewL_cons rfl (viewL_cons rfl (viewL_cons rfl (viewL_cons (viewV_sl' (es' := (th.map Span.lo).map fun n => [i64 n]) rfl ?_ (by simp)) rfl))))))) rfl) ⟨⟨rfl, rfl⟩, rfl⟩
    rw [htl]
    simp [loC]
end Go.PX
