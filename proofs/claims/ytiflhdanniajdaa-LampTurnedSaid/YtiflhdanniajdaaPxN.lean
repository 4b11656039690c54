import Derived.Test.YtiflhdanniajdaaPxM
import Derived.Test.YtiflhdanniajdaaPxL
set_option linter.all false
set_option maxRecDepth 10000
namespace Go.PX
open Go.Proofs

/- Lamp: Range (the program). -/

def spreadS (s : Span) (n : Int) : Span := ⟨min s.lo n, max s.hi n⟩

theorem la77 (s : Span) (n : Int) : FnV Try.prog 77 [s.d, i64 n] (spreadS s n).d := by
  refine fnV_of mixed tysOk Try.func77 rfl (ft := ft77) 2 (by decide +kernel) (by rfl) fun {σ} Y st => ?_
  conv => whnf
  exact RetA_view 0 rfl ⟨⟨rfl, rfl⟩, rfl⟩

def rangeStep (acc : Option (Span × List Span)) (t : LTruth) : Option (Span × List Span) := match acc with
  | none => some (⟨t.start, t.start⟩, t.speeds.map fun n => ⟨n, n⟩)
  | some (a, l) => some (spreadS a t.start, List.zipWith spreadS l t.speeds)

def rangeO (l : List (LTruth × List Bool)) : Option (Span × List Span) := l.foldl (fun acc p => rangeStep acc p.1) none

theorem zip_step {l : List Span} {sp : List Int} {i : Nat} {v : Int} {y : Span} (hs : sp[i]? = some v) (hx : l[i]? = some y) :
    (List.zipWith spreadS (l.take i) (sp.take i) ++ l.drop i).set i (spreadS y v) = List.zipWith spreadS (l.take (i + 1)) (sp.take (i + 1)) ++ l.drop (i + 1) := by
  have hi : i < l.length := (List.getElem?_eq_some_iff.1 hx).1
  have hj : i < sp.length := (List.getElem?_eq_some_iff.1 hs).1
  have hd : l.drop i = y :: l.drop (i + 1) := by
    rw [List.drop_eq_getElem_cons hi]
    rw [List.getElem?_eq_getElem hi] at hx
    rw [Option.some.inj hx]
  have hlen : (List.zipWith spreadS (l.take i) (sp.take i)).length = i := by simp; omega
  rw [hd, List.take_succ, List.take_succ, hs, hx, List.zipWith_append (by simp; omega), List.set_append_right _ _ (by omega), hlen, Nat.sub_self]
  simp

theorem zip_get {l : List Span} {sp : List Int} {i : Nat} {y : Span} (hl : i < sp.length) (hx : l[i]? = some y) : (List.zipWith spreadS (l.take i) (sp.take i) ++ l.drop i)[i]? = some y := by
  have hi : i < l.length := (List.getElem?_eq_some_iff.1 hx).1
  have hlen : (List.zipWith spreadS (l.take i) (sp.take i)).length = i := by simp; omega
  rw [List.getElem?_append_right (by omega), hlen, Nat.sub_self, List.getElem?_drop, Nat.add_zero]
  exact hx

def rangeE (c : LCase) : Int := if (checkL c).2.2 = 0 then (match rangeO (agL c) with | none => 9 | some _ => 0) else (checkL c).2.2
def rangeA (c : LCase) : Span := if (checkL c).2.2 = 0 then (match rangeO (agL c) with | none => ⟨0, 0⟩ | some (a, _) => a) else ⟨0, 0⟩
def rangeB' (c : LCase) : List Span := if (checkL c).2.2 = 0 then (match rangeO (agL c) with | none => [] | some (_, l) => l) else []

def rangeH (c : LCase) (o : Option (Span × List Span)) : Heap := match o with
  | none => [(1500000, .box (.dd c.cells)), (1500001, .box (.dd [i64 0, i64 0])), (1500002, .box (.dd [.nils]))]
  | some (a, l) => [(1500000, .box (.dd c.cells)), (1500001, .box (.dd a.cells)), (1500002, .box (.vv [.sl 45 2 0 l.length])), (45, .arr 2 (.dd (l.map Span.cells)))]

theorem spread_self (n : Int) : spreadS ⟨n, n⟩ n = ⟨n, n⟩ := by simp [spreadS]

set_option maxHeartbeats 1000000 in
theorem la23 (c : LCase) : FnV Try.prog 23 [c.d] (.tup [(rangeA c).d, spansD (rangeB' c), i64 (rangeE c)]) := by
  refine fnV_of mixed tysOk Try.func23 rfl (ft := ft23) 1 (by decide +kernel) (by rfl) fun {σ} Y st => ?_
  conv => whnf
  refine CallA_v (la15 c) rfl rfl ?_
  conv => whnf
  by_cases h0 : (checkL c).2.2 = 0
  case neg =>
    have he : rangeE c = (checkL c).2.2 := by unfold rangeE; rw [if_neg h0]
    have hv : rangeA c = ⟨0, 0⟩ := by unfold rangeA; rw [if_neg h0]
    have hb : rangeB' c = [] := by unfold rangeB'; rw [if_neg h0]
    rw [he, hv, hb]
    refine brk_i (fun _ => ?_) (fun h1 => absurd h1 (by simp [h0]))
    conv => whnf
    exact RetA_viewR 0 rfl rfl ⟨⟨rfl, rfl⟩, rfl⟩
  have hR := checkL_ok h0
  have hn := hR.lamp.night
  have he : rangeE c = match rangeO (agL c) with | none => 9 | some _ => 0 := by unfold rangeE; rw [if_pos h0]
  have hv : rangeA c = match rangeO (agL c) with | none => ⟨0, 0⟩ | some (a, _) => a := by unfold rangeA; rw [if_pos h0]
  have hb : rangeB' c = match rangeO (agL c) with | none => [] | some (_, l) => l := by unfold rangeB'; rw [if_pos h0]
  refine brk_i (fun h1 => absurd h1 (by simp [h0])) (fun _ => ?_)
  conv => whnf
  refine CallA_v (la76 c hR) rfl rfl ?_
  conv => whnf
  refine RangeA_list tysOk (by exact drawsB_spec mixed tysOk (by decide +kernel)) (by exact drawsB_spec mixed tysOk (by decide +kernel)) rfl 1500000 1600000 [1, 2, 3] (by exact yields_agree h0)
    (fun (o : Option (Span × List Span)) => (rangeH c o, st))
    (fun (rest : List (LTruth × List Bool)) (o : Option (Span × List Span)) => rangeO (agL c) = rest.foldl (fun acc p => rangeStep acc p.1) o ∧ (∀ a l, o = some (a, l) → l.length = c.windings.length + 1) ∧ ∀ p ∈ rest, p.1.speeds.length = c.windings.length + 1) none rfl rfl rfl ⟨rfl, ⟨fun a l (h : none = some (a, l)) => (by cases h), fun p hp => (agL_ok h0 hp).1.len⟩⟩ ?_ ?_
  · rintro ⟨t, lit⟩ rest o ⟨hk, hol, hl⟩ Q hQ1 -
    refine ⟨⟨rfl, rfl⟩, ?_⟩
    have htl := hl (t, lit) (by simp)
    have hw := hR.winds
    simp only at htl
    rw [List.foldl_cons] at hk
    have hrest : ∀ p ∈ rest, p.1.speeds.length = c.windings.length + 1 := fun p hp => hl p (by simp [hp])
    cases o with
    | none =>
      conv => whnf
      refine ⟨fun b hb2 => ?_⟩
      cases hb2 trivial
      conv => whnf
      refine LoopA_i (T := tys) tysOk (by exact drawsB_spec mixed tysOk (by decide +kernel)) t.speeds (fun i (acc : List Span) => ⟨[(1, .ptr 1500000 0), (2, .ptr 1500001 0), (3, .ptr 1500002 0), (5, .ptr 5 0), (34, .d (intsD t.speeds)), (35, .d (i64 t.speeds.length)), (36, .d (i64 i))], [(1500000, .box (.dd c.cells)), (1500001, .box (.dd [i64 t.start, i64 t.start])), (5, .box (.dd [i64 t.start, intsD t.speeds, boolsD lit])), (1500002, .box (.vv [.sl 45 2 0 acc.length])), (45, .arr 2 (.dd (acc.map Span.cells)))], st⟩)
        (fun i r acc => (t.speeds.map fun n => (⟨n, n⟩ : Span)) = acc ++ r.map fun n => ⟨n, n⟩) [] ((Wk.bornBox 1500002 45 2 rfl rfl rfl rfl).trans (Wk.sub ⟨(by first | rfl | (simp only [List.length_map]; rfl) | simp [PX.get]), (by first | rfl | (simp only [List.length_map]; rfl) | simp [PX.get]), (by first | rfl | (simp only [List.length_map]; rfl) | simp [PX.get]), (by first | rfl | (simp only [List.length_map]; rfl) | simp [PX.get]), (by first | rfl | (simp only [List.length_map]; rfl) | simp [PX.get]), (by first | rfl | (simp only [List.length_map]; rfl) | simp [PX.get]), (by first | rfl | (simp only [List.length_map]; rfl) | simp [PX.get]), trivial⟩ ⟨(by first | rfl | (simp only [List.length_map]; rfl) | simp [PX.get]), (by first | rfl | (simp only [List.length_map]; rfl) | simp [PX.get]), (by first | rfl | (simp only [List.length_map]; rfl) | simp [PX.get]), (by first | rfl | (simp only [List.length_map]; rfl) | simp [PX.get]), (by first | rfl | (simp only [List.length_map]; rfl) | simp [PX.get]), trivial⟩)) rfl ?_ ?_
      · intro i v r acc hx hi hr hj
        conv => whnf
        refine brk_i (fun _ => ?_) (fun h => absurd hi (by simpa using h))
        conv => whnf
        refine elemK_nat hx ?_
        conv => whnf
        refine ownK_whole rfl ?_
        conv => whnf
        refine ownK_whole (by simp [Els.len]) ?_
        conv => whnf
        have hal : acc.length ≤ 1000 := by
          have := congrArg List.length hj
          simp at this; omega
        refine chk_i (decide_eq_true (by
          show ((acc.map Span.cells).length + 1) * 16 ≤ 140737488355328
          rw [List.length_map]; omega)) ?_
        conv => whnf
        refine arith_in (wrap_i64 (by (try dsimp only); omega)) ?_
        conv => whnf
        refine ⟨acc ++ [⟨v, v⟩], by rw [hj]; simp, Wk.sub ⟨rfl, rfl, rfl, rfl, rfl, rfl, rfl, trivial⟩ ⟨rfl, rfl, rfl, ?_, ?_, trivial⟩⟩
        · simp [PX.get, Els.len]
        · simp [PX.get, Els.app, Span.cells]
      intro acc hj
      simp only [List.map_nil, List.append_nil] at hj
      conv => whnf
      refine brk_i (fun h => absurd h (by simp)) (fun _ => ?_)
      conv => whnf
      refine CallA_v (la77 ⟨t.start, t.start⟩ t.start) rfl rfl ?_
      conv => whnf
      rw [spread_self]
      have hll : acc.length = t.speeds.length := by rw [← hj, List.length_map]
      have hfin : rangeStep none t = some (⟨t.start, t.start⟩, List.zipWith spreadS acc t.speeds) := by
        have : List.zipWith spreadS acc t.speeds = acc := by
          rw [← hj]
          apply List.ext_getElem?
          intro i
          simp only [List.getElem?_zipWith, List.getElem?_map]
          cases t.speeds[i]? with
          | none => rfl
          | some n => simp [spread_self]
        rw [this, ← hj]; rfl
      conv => whnf
      refine LoopA_i (T := tys) tysOk (by exact drawsB_spec mixed tysOk (by decide +kernel)) t.speeds (fun i (g : List Span) => ⟨[(1, .ptr 1500000 0), (2, .ptr 1500001 0), (3, .ptr 1500002 0), (5, .ptr 5 0), (54, .d (intsD t.speeds)), (55, .d (i64 t.speeds.length)), (56, .d (i64 i))], [(1500000, .box (.dd c.cells)), (1500001, .box (.dd (Span.cells (⟨t.start, t.start⟩ : Span)))), (1500002, .box (.vv [.sl 45 2 0 g.length])), (45, .arr 2 (.dd (g.map Span.cells)))], st⟩)
        (fun i r g => g = List.zipWith spreadS ((acc).take i) (t.speeds.take i) ++ (acc).drop i) (acc) (Wk.sub ⟨(by first | rfl | (simp only [List.length_map]; rfl) | simp [PX.get]), (by first | rfl | (simp only [List.length_map]; rfl) | simp [PX.get]), (by first | rfl | (simp only [List.length_map]; rfl) | simp [PX.get]), (by first | rfl | (simp only [List.length_map]; rfl) | simp [PX.get]), (by first | rfl | (simp only [List.length_map]; rfl) | simp [PX.get]), (by first | rfl | (simp only [List.length_map]; rfl) | simp [PX.get]), (by first | rfl | (simp only [List.length_map]; rfl) | simp [PX.get]), trivial⟩ ⟨(by first | rfl | (simp only [List.length_map]; rfl) | simp [PX.get]), (by first | rfl | (simp only [List.length_map]; rfl) | simp [PX.get]), (by first | rfl | (simp only [List.length_map]; rfl) | simp [PX.get]), (by first | rfl | (simp only [List.length_map]; rfl) | simp [PX.get]), trivial⟩) (by simp) ?_ ?_
      · intro i v r g hx hi hr hj
        have hgl : g.length = t.speeds.length := by rw [hj]; simp; omega
        have hyl : i < (acc).length := by omega
        obtain ⟨y, hy⟩ : ∃ y, (acc)[i]? = some y := ⟨_, List.getElem?_eq_getElem hyl⟩
        have hgi : g[i]? = some y := by rw [hj]; exact zip_get hi hy
        have hst := zip_step hx hy
        rw [← hj] at hst
        conv => whnf
        refine brk_i (fun _ => ?_) (fun h => absurd hi (by simpa using h))
        conv => whnf
        refine elemK_nat hx ?_
        conv => whnf
        refine chk_i (by simp; omega) ?_
        conv => whnf
        refine cellK_i (Span.cells y) (by simp [hgi]) ?_
        conv => whnf
        refine DrawCall_v (la77 y v) rfl rfl ?_
        conv => whnf
        refine chk_i (by simp; omega) ?_
        conv => whnf
        refine cellK_i (Span.cells y) (by simp [hgi]) ?_
        conv => whnf
        refine arith_in (wrap_i64 (by (try dsimp only); omega)) ?_
        conv => whnf
        refine ⟨g.set i (spreadS y v), hst, Wk.sub ⟨rfl, rfl, rfl, rfl, rfl, rfl, rfl, trivial⟩ ⟨rfl, rfl, ?_, ?_, trivial⟩⟩
        · simp [PX.get]
        · show some (Obj.arr 2 (Els.dd ((g.map Span.cells).set (0 + (i : Int).toNat) [i64 (spreadS y v).lo, i64 (spreadS y v).hi]))) = some (Obj.arr 2 (Els.dd ((g.set i (spreadS y v)).map Span.cells)))
          rw [List.map_set]
          simp [Span.cells]
      intro g hj
      have hg : g = List.zipWith spreadS (acc) t.speeds := by rw [hj, List.drop_eq_nil_of_le (by omega), List.append_nil, List.take_of_length_le (by omega), List.take_of_length_le (by omega)]
      have hgl : g.length = c.windings.length + 1 := by rw [hg]; simp; omega
      rw [← hg] at hfin
      conv => whnf
      refine brk_i (fun h => absurd h (by simp)) (fun _ => ?_)
      conv => whnf
      simp only [hfin] at hk
      exact ⟨some ((⟨t.start, t.start⟩ : Span), g), (Wk.sub trivial ⟨(by first | rfl | (simp only [List.length_map]; rfl) | simp [PX.get]), (by first | rfl | (simp only [List.length_map]; rfl) | simp [PX.get]), (by first | rfl | (simp only [List.length_map]; rfl) | simp [PX.get]), (by first | rfl | (simp only [List.length_map]; rfl) | simp [PX.get]), trivial⟩), rfl, hQ1 _ ⟨hk, ⟨fun a' l' h' => (by cases h'; exact hgl), hrest⟩⟩⟩
    | some al =>
      obtain ⟨a, l⟩ := al
      have hll := hol a l rfl
      conv => whnf
      refine ⟨fun b hb2 => ?_⟩
      cases hb2 (by omega)
      conv => whnf
      refine CallA_v (la77 a t.start) rfl rfl ?_
      conv => whnf
      have hll : l.length = t.speeds.length := by omega
      have hfin : rangeStep (some (a, l)) t = some (spreadS a t.start, List.zipWith spreadS l t.speeds) := rfl
      conv => whnf
      refine LoopA_i (T := tys) tysOk (by exact drawsB_spec mixed tysOk (by decide +kernel)) t.speeds (fun i (g : List Span) => ⟨[(1, .ptr 1500000 0), (2, .ptr 1500001 0), (3, .ptr 1500002 0), (5, .ptr 5 0), (54, .d (intsD t.speeds)), (55, .d (i64 t.speeds.length)), (56, .d (i64 i))], [(1500000, .box (.dd c.cells)), (1500001, .box (.dd (Span.cells (spreadS a t.start)))), (1500002, .box (.vv [.sl 45 2 0 g.length])), (45, .arr 2 (.dd (g.map Span.cells)))], st⟩)
        (fun i r g => g = List.zipWith spreadS ((l).take i) (t.speeds.take i) ++ (l).drop i) (l) (Wk.sub ⟨(by first | rfl | (simp only [List.length_map]; rfl) | simp [PX.get]), (by first | rfl | (simp only [List.length_map]; rfl) | simp [PX.get]), (by first | rfl | (simp only [List.length_map]; rfl) | simp [PX.get]), (by first | rfl | (simp only [List.length_map]; rfl) | simp [PX.get]), (by first | rfl | (simp only [List.length_map]; rfl) | simp [PX.get]), (by first | rfl | (simp only [List.length_map]; rfl) | simp [PX.get]), (by first | rfl | (simp only [List.length_map]; rfl) | simp [PX.get]), trivial⟩ ⟨(by first | rfl | (simp only [List.length_map]; rfl) | simp [PX.get]), (by first | rfl | (simp only [List.length_map]; rfl) | simp [PX.get]), (by first | rfl | (simp only [List.length_map]; rfl) | simp [PX.get]), (by first | rfl | (simp only [List.length_map]; rfl) | simp [PX.get]), trivial⟩) (by simp) ?_ ?_
      · intro i v r g hx hi hr hj
        have hgl : g.length = t.speeds.length := by rw [hj]; simp; omega
        have hyl : i < (l).length := by omega
        obtain ⟨y, hy⟩ : ∃ y, (l)[i]? = some y := ⟨_, List.getElem?_eq_getElem hyl⟩
        have hgi : g[i]? = some y := by rw [hj]; exact zip_get hi hy
        have hst := zip_step hx hy
        rw [← hj] at hst
        conv => whnf
        refine brk_i (fun _ => ?_) (fun h => absurd hi (by simpa using h))
        conv => whnf
        refine elemK_nat hx ?_
        conv => whnf
        refine chk_i (by simp; omega) ?_
        conv => whnf
        refine cellK_i (Span.cells y) (by simp [hgi]) ?_
        conv => whnf
        refine DrawCall_v (la77 y v) rfl rfl ?_
        conv => whnf
        refine chk_i (by simp; omega) ?_
        conv => whnf
        refine cellK_i (Span.cells y) (by simp [hgi]) ?_
        conv => whnf
        refine arith_in (wrap_i64 (by (try dsimp only); omega)) ?_
        conv => whnf
        refine ⟨g.set i (spreadS y v), hst, Wk.sub ⟨rfl, rfl, rfl, rfl, rfl, rfl, rfl, trivial⟩ ⟨rfl, rfl, ?_, ?_, trivial⟩⟩
        · simp [PX.get]
        · show some (Obj.arr 2 (Els.dd ((g.map Span.cells).set (0 + (i : Int).toNat) [i64 (spreadS y v).lo, i64 (spreadS y v).hi]))) = some (Obj.arr 2 (Els.dd ((g.set i (spreadS y v)).map Span.cells)))
          rw [List.map_set]
          simp [Span.cells]
      intro g hj
      have hg : g = List.zipWith spreadS (l) t.speeds := by rw [hj, List.drop_eq_nil_of_le (by omega), List.append_nil, List.take_of_length_le (by omega), List.take_of_length_le (by omega)]
      have hgl : g.length = c.windings.length + 1 := by rw [hg]; simp; omega
      rw [← hg] at hfin
      conv => whnf
      refine brk_i (fun h => absurd h (by simp)) (fun _ => ?_)
      conv => whnf
      simp only [hfin] at hk
      exact ⟨some ((spreadS a t.start), g), (Wk.sub trivial ⟨(by first | rfl | (simp only [List.length_map]; rfl) | simp [PX.get]), (by first | rfl | (simp only [List.length_map]; rfl) | simp [PX.get]), (by first | rfl | (simp only [List.length_map]; rfl) | simp [PX.get]), (by first | rfl | (simp only [List.length_map]; rfl) | simp [PX.get]), trivial⟩), rfl, hQ1 _ ⟨hk, ⟨fun a' l' h' => (by cases h'; exact hgl), hrest⟩⟩⟩
  · rintro o ⟨hk, hol, _⟩
    simp only [List.foldl_nil] at hk
    rw [hk] at he hv hb
    cases o with
    | none =>
      simp only at he hv hb
      rw [he, hv, hb]
      conv => whnf
      refine ⟨fun b hb2 => ?_⟩
      cases hb2 trivial
      conv => whnf
      exact RetA_viewR 0 rfl rfl ⟨⟨rfl, rfl⟩, rfl⟩
    | some al =>
      obtain ⟨a, l⟩ := al
      simp only at he hv hb
      rw [he, hv, hb]
      have hll := hol a l rfl
      conv => whnf
      refine ⟨fun b hb2 => ?_⟩
      cases hb2 (by omega)
      conv => whnf
      exact RetA_view 1 (ds := [a.d, spansD l, i64 0]) (viewL_cons rfl (viewL_cons (viewV_sl rfl (by simp)) rfl)) ⟨⟨rfl, rfl⟩, rfl⟩
end Go.PX

namespace Go.PX
open Go.Proofs

/- Lamp: comparing lists, the least of what is yielded (the program). -/

theorem la123 (n : Int) : FnV Try.prog 123 [i64 n] (.bool false) := by
  refine fnV_of mixed tysOk Try.func123 rfl (ft := ft123) 1 (by decide +kernel) (by rfl) fun {σ} Y st => ?_
  conv => whnf
  refine RetA_view 0 rfl ⟨⟨?_, rfl⟩, rfl⟩
  simp [packD]

def cmpI (a b : Int) : Int := if a < b then -1 else if a > b then 1 else 0

theorem la116 (a b : Int) : FnV Try.prog 116 [i64 a, i64 b] (i64 (cmpI a b)) := by
  refine fnV_of mixed tysOk Try.func116 rfl (ft := ft116) 2 (by decide +kernel) (by rfl) fun {σ} Y st => ?_
  conv => whnf
  refine CallA_v (la123 a) rfl rfl ?_
  conv => whnf
  refine CallA_v (la123 b) rfl rfl ?_
  conv => whnf
  unfold cmpI
  refine brk_i (fun h1 => ?_) (fun h1 => ?_)
  · have h1 : a < b := by simpa using h1
    conv => whnf
    rw [if_pos h1]
    exact RetA_view 0 rfl ⟨⟨rfl, rfl⟩, rfl⟩
  have h1 : ¬ a < b := by simpa using h1
  rw [if_neg h1]
  conv => whnf
  refine brk_i (fun h2 => ?_) (fun h2 => ?_)
  · have h2 : a > b := by simpa using h2
    conv => whnf
    rw [if_pos h2]
    exact RetA_view 0 rfl ⟨⟨rfl, rfl⟩, rfl⟩
  · have h2 : ¬ a > b := by simpa using h2
    conv => whnf
    rw [if_neg h2]
    exact RetA_view 0 rfl ⟨⟨rfl, rfl⟩, rfl⟩

def compareL : List Int → List Int → Int
  | [], [] => 0
  | [], _ :: _ => -1
  | _ :: _, [] => 1
  | a :: r, b :: s => if a < b then -1 else if a > b then 1 else compareL r s

theorem la85 (a b : List Int) (ha : a.length < 1000000) (hb : b.length < 1000000) : FnV Try.prog 85 [intsD a, intsD b] (i64 (compareL a b)) := by
  refine fnV_of mixed tysOk Try.func85 rfl (ft := ft85) 2 (by decide +kernel) (by rfl) fun {σ} Y st => ?_
  conv => whnf
  refine LoopA_i (T := tys) tysOk (by exact drawsB_spec mixed tysOk (by decide +kernel)) a (fun i (_ : Unit) => ⟨[(0, .d (intsD a)), (1, .d (intsD b)), (9, .d (intsD a)), (10, .d (i64 a.length)), (11, .d (i64 i))], [], st⟩) (fun i r _ => compareL a b = compareL r (b.drop i) ∧ i ≤ b.length) () (Wk.sub ⟨(by first | rfl | (simp only [List.length_map]; rfl) | simp [PX.get]), (by first | rfl | (simp only [List.length_map]; rfl) | simp [PX.get]), (by first | rfl | (simp only [List.length_map]; rfl) | simp [PX.get]), (by first | rfl | (simp only [List.length_map]; rfl) | simp [PX.get]), (by first | rfl | (simp only [List.length_map]; rfl) | simp [PX.get]), trivial⟩ trivial) ⟨rfl, Nat.zero_le _⟩ ?_ ?_
  · intro i x r _ hx hi hr ⟨he, hib⟩
    conv => whnf
    refine brk_i (fun _ => ?_) (fun h => absurd hi (by simpa using h))
    conv => whnf
    refine elemK_nat hx ?_
    conv => whnf
    refine brk_i (fun h1 => ?_) (fun h1 => ?_)
    · have h1 : b.length ≤ i := by simpa using h1
      rw [List.drop_eq_nil_of_le h1, compareL] at he
      conv => whnf
      rw [he]
      exact RetA_view 0 rfl ⟨⟨rfl, rfl⟩, rfl⟩
    have h1 : i < b.length := by simp at h1; omega
    obtain ⟨y, hy⟩ : ∃ y, b[i]? = some y := ⟨_, List.getElem?_eq_getElem h1⟩
    have hd : b.drop i = y :: b.drop (i + 1) := by
      rw [List.drop_eq_getElem_cons h1]
      rw [List.getElem?_eq_getElem h1] at hy
      rw [Option.some.inj hy]
    rw [hd, compareL] at he
    conv => whnf
    refine elemK_i [i64 y] ⟨by omega, by simp [hy]⟩ ?_
    conv => whnf
    refine CallA_v (la116 x y) rfl rfl ?_
    conv => whnf
    unfold cmpI
    by_cases h2 : x < y
    · rw [if_pos h2] at he
      rw [if_pos h2]
      conv => whnf
      rw [he]
      exact RetA_view 0 rfl ⟨⟨rfl, rfl⟩, rfl⟩
    rw [if_neg h2] at he
    rw [if_neg h2]
    by_cases h3 : x > y
    · rw [if_pos h3] at he
      rw [if_pos h3]
      conv => whnf
      rw [he]
      exact RetA_view 0 rfl ⟨⟨rfl, rfl⟩, rfl⟩
    rw [if_neg h3] at he
    rw [if_neg h3]
    conv => whnf
    refine arith_in (wrap_i64 (by (try dsimp only); omega)) ?_
    conv => whnf
    exact ⟨(), ⟨he, by omega⟩, (Wk.sub ⟨(by first | rfl | (simp only [List.length_map]; rfl) | simp [PX.get]), (by first | rfl | (simp only [List.length_map]; rfl) | simp [PX.get]), (by first | rfl | (simp only [List.length_map]; rfl) | simp [PX.get]), (by first | rfl | (simp only [List.length_map]; rfl) | simp [PX.get]), (by first | rfl | (simp only [List.length_map]; rfl) | simp [PX.get]), trivial⟩ trivial)⟩
  · intro _ ⟨he, hib⟩
    conv => whnf
    refine brk_i (fun h => absurd h (by simp)) (fun _ => ?_)
    conv => whnf
    refine brk_i (fun h1 => ?_) (fun h1 => ?_)
    · have h1 : a.length < b.length := by simpa using h1
      rw [List.drop_eq_getElem_cons h1, compareL] at he
      conv => whnf
      rw [he]
      exact RetA_view 0 rfl ⟨⟨rfl, rfl⟩, rfl⟩
    · have h1 : b.length ≤ a.length := by simpa using h1
      rw [List.drop_eq_nil_of_le h1, compareL] at he
      conv => whnf
      rw [he]
      exact RetA_view 0 rfl ⟨⟨rfl, rfl⟩, rfl⟩

def cmpW (a b : List Int) : Int := if a.length = b.length then compareL a b else a.length - b.length

theorem la84 (a b : List Int) (ha : a.length < 1000000) (hb : b.length < 1000000) : FnV Try.prog 84 [intsD a, intsD b] (i64 (cmpW a b)) := by
  refine fnV_of mixed tysOk Try.func84 rfl (ft := ft84) 2 (by decide +kernel) (by rfl) fun {σ} Y st => ?_
  conv => whnf
  unfold cmpW
  refine brk_i (fun h1 => ?_) (fun h1 => ?_)
  · have h1 : ¬ a.length = b.length := by simp at h1; omega
    rw [if_neg h1]
    conv => whnf
    refine arith_to ((a.length : Int) - b.length) (by simp) (wrap_i64 (by omega)) ?_
    conv => whnf
    exact RetA_view 0 rfl ⟨⟨rfl, rfl⟩, rfl⟩
  · have h1 : a.length = b.length := by simp at h1; omega
    rw [if_pos h1]
    conv => whnf
    refine CallA_v (la85 a b ha hb) rfl rfl ?_
    conv => whnf
    exact RetA_view 0 rfl ⟨⟨rfl, rfl⟩, rfl⟩

def leastStep (acc : Option (List Int)) (y : List Int) : Option (List Int) := match acc with
  | none => some y
  | some x => if cmpW y x < 0 then some y else some x
def leastW (l : List (List Int)) : Option (List Int) := l.foldl leastStep none

def leastV (o : Option (List Int)) : D := match o with
  | none => .tup [.nils, .bool false]
  | some x => .tup [intsD x, .bool true]

theorem la83 {f : FuncId} {caps : List D} {items : List (List Int)} (hy : Yields Try.prog f caps (items.map fun l => ([.d (intsD l)], []))) (hl : ∀ l ∈ items, l.length < 1000000) : FnV Try.prog 83 [.clo f caps, .clo 84 []] (leastV (leastW items)) := by
  refine fnV_of mixed tysOk Try.func83 rfl (ft := ft83) 2 (by decide +kernel) (by rfl) fun {σ} Y st => ?_
  conv => whnf
  refine RangeA_list tysOk (by exact drawsB_spec mixed tysOk (by decide +kernel)) (by exact drawsB_spec mixed tysOk (by decide +kernel)) rfl 1500000 1600000 [3, 4, 5] (by exact hy)
    (fun (o : Option (List Int)) => (match o with
      | none => [(1500000, .box (.dd [.clo 84 []])), (1500001, .box (.dd [.nils])), (1500002, .box (.dd [.bool false]))]
      | some x => [(1500000, .box (.dd [.clo 84 []])), (1500001, .box (.dd [intsD x])), (1500002, .box (.dd [.bool true]))], st))
    (fun (rest : List (List Int)) (o : Option (List Int)) => leastW items = rest.foldl leastStep o ∧ (∀ x, o = some x → x.length < 1000000) ∧ ∀ l ∈ rest, l.length < 1000000) none rfl rfl rfl ⟨rfl, ⟨fun x (h : none = some x) => (by cases h), hl⟩⟩ ?_ ?_
  · rintro y rest o ⟨hk, ho, hr⟩ Q hQ1 -
    refine ⟨⟨rfl, rfl⟩, ?_⟩
    rw [List.foldl_cons] at hk
    have hy := hr y (by simp)
    have hrest : ∀ l ∈ rest, l.length < 1000000 := fun l h => hr l (by simp [h])
    cases o with
    | none =>
      conv => whnf
      exact ⟨some y, (Wk.sub trivial ⟨(by first | rfl | (simp only [List.length_map]; rfl) | simp [PX.get]), (by first | rfl | (simp only [List.length_map]; rfl) | simp [PX.get]), (by first | rfl | (simp only [List.length_map]; rfl) | simp [PX.get]), trivial⟩), rfl, hQ1 _ ⟨hk, ⟨fun x h => (by cases h; exact hy), hrest⟩⟩⟩
    | some x =>
      have hx := ho x rfl
      conv => whnf
      refine CallA_v (la84 y x hy hx) rfl rfl ?_
      conv => whnf
      rw [leastStep] at hk
      refine brk_i (fun h1 => ?_) (fun h1 => ?_)
      · have h1 : cmpW y x < 0 := by simpa using h1
        rw [if_pos h1] at hk
        conv => whnf
        exact ⟨some y, (Wk.sub trivial ⟨(by first | rfl | (simp only [List.length_map]; rfl) | simp [PX.get]), (by first | rfl | (simp only [List.length_map]; rfl) | simp [PX.get]), (by first | rfl | (simp only [List.length_map]; rfl) | simp [PX.get]), trivial⟩), rfl, hQ1 _ ⟨hk, ⟨fun x h => (by cases h; exact hy), hrest⟩⟩⟩
      · have h1 : ¬ cmpW y x < 0 := by simpa using h1
        rw [if_neg h1] at hk
        conv => whnf
        exact ⟨some x, (Wk.sub trivial ⟨(by first | rfl | (simp only [List.length_map]; rfl) | simp [PX.get]), (by first | rfl | (simp only [List.length_map]; rfl) | simp [PX.get]), (by first | rfl | (simp only [List.length_map]; rfl) | simp [PX.get]), trivial⟩), rfl, hQ1 _ ⟨hk, ⟨ho, hrest⟩⟩⟩
  · rintro o ⟨hk, ho, _⟩
    simp only [List.foldl_nil] at hk
    rw [hk]
    cases o with
    | none =>
      conv => whnf
      exact RetA_view 0 rfl ⟨⟨rfl, rfl⟩, rfl⟩
    | some x =>
      conv => whnf
      exact RetA_view 0 rfl ⟨⟨rfl, rfl⟩, rfl⟩
end Go.PX

namespace Go.PX
open Go.Proofs

/- Lamp: Wrong (the program). -/

def wrongF (lit : List Bool) : List LSight → Int → List Int
  | [], _ => []
  | s :: r, i => if lit.getD s.second.toNat false = s.lit then wrongF lit r (i + 1) else i :: wrongF lit r (i + 1)

def trueF : Int → Bool → Bool := fun _ _ => true

theorem la82 (s : Int) (b : Bool) : FnV Try.prog 82 [i64 s, .bool b] (.bool true) := by
  refine fnV_of mixed tysOk Try.func82 rfl (ft := ft82) 2 (by decide +kernel) (by rfl) fun {σ} Y st => ?_
  conv => whnf
  exact RetA_view 0 rfl ⟨⟨rfl, rfl⟩, rfl⟩

def allC (c : LCase) : List (LTruth × List Bool) := truL c.lamp c.windings trueF
def wrongsL (c : LCase) : List (List Int) := (allC c).map fun p => wrongF p.2 c.sights 0

theorem okW_true : ∀ (l : List Bool) (s : Int), okW trueF s l = true
  | [], _ => rfl
  | b :: r, s => by rw [okW, okW_true]; rfl

theorem allC_eq {c : LCase} (h0 : (checkL c).2.2 = 0) : allC c = (allT c.lamp c.windings).map fun t => (t, courseL c.lamp c.windings t) := by
  unfold allC
  rw [truL_all (CaseL.up h0).1]
  congr 1
  rw [List.filter_eq_self]
  intro t _
  exact okW_true _ _

theorem allC_ok {c : LCase} (h0 : (checkL c).2.2 = 0) {p : LTruth × List Bool} (hp : p ∈ allC c) : TruthR c p.1 ∧ p.2 = courseL c.lamp c.windings p.1 ∧ p.2.length = c.lamp.night.toNat := by
  rw [allC_eq h0] at hp
  obtain ⟨t, ht, rfl⟩ := List.mem_map.1 hp
  exact ⟨mem_allT.1 ht, rfl, by simp only [courseL, courseF_len]⟩

theorem wrongF_len {lit : List Bool} : ∀ {l : List LSight} {i : Int}, (wrongF lit l i).length ≤ l.length
  | [], _ => Nat.le_refl _
  | s :: r, i => by
    rw [wrongF]
    have := wrongF_len (lit := lit) (l := r) (i := i + 1)
    split <;> simp <;> omega

set_option maxHeartbeats 1000000 in
theorem yields79 (c : LCase) (h0 : (checkL c).2.2 = 0) : Yields Try.prog 79 [.ref c.cells] ((wrongsL c).map fun l => ([.d (intsD l)], [])) := by
  intro γ Y g0 Q hit
  have hR := checkL_ok h0
  have hn := hR.lamp.night
  refine fnC_of mixed tysOk Try.func79 rfl (ft := ft79) (args := [.yld, .d (.ref c.cells)]) (show fnB ft79 Try.f79 2 = true from by decide +kernel) ?_
  conv => whnf
  refine DrawCall_v (la80 c.lamp hR.lamp) rfl rfl ?_
  conv => whnf
  refine DrawCall_v (la81 c.lamp c.windings 82 []) rfl rfl ?_
  conv => whnf
  unfold wrongsL at hit
  refine RangeA_list tysOk (by exact drawsB_spec mixed tysOk (by decide +kernel)) (by exact drawsB_spec mixed tysOk (by decide +kernel)) rfl 1500000 1600000 [2] (by exact fun {γ} => yields112 hR.lamp hR.winds hR.wind (CaseL.up h0).2 (fun s b _ => la82 s b))
    (fun (g : γ) => ([(1500000, .box (.vv [.yld]))], g))
    (fun (rest : List (LTruth × List Bool)) (g : γ) => iterate Y ((rest.map fun p => wrongF p.2 c.sights 0).map fun l => ([.d (intsD l)], [])) g Q ∧ ∀ p ∈ rest, p.2.length = c.lamp.night.toNat) g0 rfl rfl rfl ⟨hit, fun p hp => (allC_ok h0 hp).2.2⟩ ?_ ?_
  · clear hit
    rintro ⟨t, lit⟩ rest g ⟨hit, hl⟩ Q' hQ1 hQ2
    refine ⟨⟨rfl, rfl⟩, ?_⟩
    have hll := hl (t, lit) (by simp)
    simp only at hll
    rw [List.map_cons, List.map_cons] at hit
    have hs8 := hR.sights
    have hsg := hR.sight
    have hrest : ∀ p ∈ rest, p.2.length = c.lamp.night.toNat := fun p hp => hl p (by simp [hp])
    conv => whnf
    refine LoopA_i (T := tys) tysOk (by exact drawsB_spec mixed tysOk (by decide +kernel)) c.sights (fun i (acc : List Int) => ⟨[(1, .d (.ref c.cells)), (2, .ptr 1500000 0), (3, .ptr 3 0), (4, .sl 34 1 0 acc.length), (15, .d (sightsD c.sights)), (16, .d (i64 c.sights.length)), (17, .d (i64 i))], [(1500000, .box (.vv [.yld])), (3, .box (.dd [i64 t.start, intsD t.speeds, boolsD lit])), (34, .arr 1 (.dd (acc.map fun n => [i64 n])))], g⟩)
      (fun i r acc => wrongF lit c.sights 0 = acc ++ wrongF lit r i ∧ acc.length ≤ i ∧ ∀ s ∈ r, s ∈ c.sights) [] ((Wk.born 4 34 1 rfl rfl rfl).trans (Wk.sub ⟨(by first | rfl | (simp only [List.length_map]; rfl) | simp [PX.get]), (by first | rfl | (simp only [List.length_map]; rfl) | simp [PX.get]), (by first | rfl | (simp only [List.length_map]; rfl) | simp [PX.get]), (by first | rfl | (simp only [List.length_map]; rfl) | simp [PX.get]), (by first | rfl | (simp only [List.length_map]; rfl) | simp [PX.get]), (by first | rfl | (simp only [List.length_map]; rfl) | simp [PX.get]), (by first | rfl | (simp only [List.length_map]; rfl) | simp [PX.get]), trivial⟩ ⟨(by first | rfl | (simp only [List.length_map]; rfl) | simp [PX.get]), (by first | rfl | (simp only [List.length_map]; rfl) | simp [PX.get]), (by first | rfl | (simp only [List.length_map]; rfl) | simp [PX.get]), trivial⟩)) ⟨rfl, ⟨by simp, fun s h => h⟩⟩ ?_ ?_
    · intro i s r acc hx hi hr ⟨he, hal, hsub⟩
      rw [wrongF] at he
      obtain ⟨hs1, hs2⟩ := hsg s (hsub s (by simp))
      have hsl : s.second.toNat < lit.length := by omega
      obtain ⟨b, hb⟩ : ∃ b, lit[s.second.toNat]? = some b := ⟨_, List.getElem?_eq_getElem hsl⟩
      have hg : lit.getD s.second.toNat false = b := by simp [List.getD_eq_getElem?_getD, hb]
      rw [hg] at he
      conv => whnf
      refine brk_i (fun _ => ?_) (fun h => absurd hi (by simpa using h))
      conv => whnf
      refine elemK_nat hx ?_
      conv => whnf
      refine elemK_i [.bool b] ⟨hs1, by simp [hb]⟩ ?_
      conv => whnf
      by_cases hbs : b = s.lit
      · rw [if_pos hbs] at he
        rw [show (!b == s.lit) = false from by rw [hbs]; cases s.lit <;> rfl]
        conv => whnf
        refine arith_in (wrap_i64 (by (try dsimp only); omega)) ?_
        conv => whnf
        exact ⟨acc, ⟨he, by omega, fun s hs => hsub s (by simp [hs])⟩, (Wk.sub ⟨(by first | rfl | (simp only [List.length_map]; rfl) | simp [PX.get]), (by first | rfl | (simp only [List.length_map]; rfl) | simp [PX.get]), (by first | rfl | (simp only [List.length_map]; rfl) | simp [PX.get]), (by first | rfl | (simp only [List.length_map]; rfl) | simp [PX.get]), (by first | rfl | (simp only [List.length_map]; rfl) | simp [PX.get]), (by first | rfl | (simp only [List.length_map]; rfl) | simp [PX.get]), (by first | rfl | (simp only [List.length_map]; rfl) | simp [PX.get]), trivial⟩ ⟨(by first | rfl | (simp only [List.length_map]; rfl) | simp [PX.get]), (by first | rfl | (simp only [List.length_map]; rfl) | simp [PX.get]), (by first | rfl | (simp only [List.length_map]; rfl) | simp [PX.get]), trivial⟩)⟩
      · rw [if_neg hbs] at he
        rw [show (!b == s.lit) = true from by cases b <;> cases hl2 : s.lit <;> simp_all]
        conv => whnf
        refine ownK_whole rfl ?_
        conv => whnf
        refine ownK_whole (by simp [Els.len]) ?_
        conv => whnf
        refine chk_i (decide_eq_true (by
          show ((acc.map fun n => [i64 n]).length + 1) * 8 ≤ 140737488355328
          rw [List.length_map]; omega)) ?_
        conv => whnf
        refine arith_in (wrap_i64 (by (try dsimp only); omega)) ?_
        conv => whnf
        refine ⟨acc ++ [(i : Int)], ⟨by rw [he]; simp, by simp; omega, fun s hs => hsub s (by simp [hs])⟩, Wk.sub ⟨rfl, rfl, rfl, ?_, rfl, rfl, rfl, trivial⟩ ⟨rfl, rfl, ?_, trivial⟩⟩
        · simp [PX.get, Els.len]
        · simp [PX.get, Els.app]
    intro acc ⟨he, hal, _⟩
    rw [wrongF, List.append_nil] at he
    rw [he] at hit
    conv => whnf
    refine brk_i (fun h => absurd h (by simp)) (fun _ => ?_)
    conv => whnf
    refine YldA_frz 1 [34] (ds := [intsD acc]) (viewL_cons (viewV_sl rfl (by simp)) rfl) rfl ?_
    refine YldA_v (ds := [intsD acc]) hit rfl rfl (fun g1 hi => ?_) (fun g1 hq => ?_)
    · conv => whnf
      exact ⟨g1, (Wk.sub trivial ⟨(by first | rfl | (simp only [List.length_map]; rfl) | simp [PX.get]), trivial⟩), rfl, hQ1 _ ⟨hi, hrest⟩⟩
    · conv => whnf
      exact ⟨[(1500000, .box (.vv [.yld]))], g1, (Wk.sub trivial ⟨(by first | rfl | (simp only [List.length_map]; rfl) | simp [PX.get]), trivial⟩), rfl, hQ2 _ _ _ (RetA_view 0 rfl ⟨rfl, hq⟩)⟩
  · rintro g ⟨hit, _⟩
    conv => whnf
    exact RetA_view 0 rfl ⟨rfl, hit⟩

def wrongO (c : LCase) : List Int := match leastW (wrongsL c) with
  | none => []
  | some l => l
def wrongV (c : LCase) : List Int := if (checkL c).2.2 = 0 then wrongO c else []

theorem la27 (c : LCase) : FnV Try.prog 27 [c.d] (.tup [intsD (wrongV c), i64 (checkL c).2.2]) := by
  refine fnV_of mixed tysOk Try.func27 rfl (ft := ft27) 1 (by decide +kernel) (by rfl) fun {σ} Y st => ?_
  conv => whnf
  refine CallA_v (la15 c) rfl rfl ?_
  conv => whnf
  by_cases h0 : (checkL c).2.2 = 0
  case neg =>
    have hv : wrongV c = [] := by unfold wrongV; rw [if_neg h0]
    rw [hv]
    refine brk_i (fun _ => ?_) (fun h1 => absurd h1 (by simp [h0]))
    conv => whnf
    exact RetA_viewR 0 rfl rfl ⟨⟨rfl, rfl⟩, rfl⟩
  have hR := checkL_ok h0
  have hv : wrongV c = wrongO c := by unfold wrongV; rw [if_pos h0]
  rw [hv]
  refine brk_i (fun h1 => absurd h1 (by simp [h0])) (fun _ => ?_)
  conv => whnf
  refine CallA_fz (la83 (fun {γ} => yields79 c h0) ?_) 2 [1] rfl rfl ?_
  · intro l hl
    obtain ⟨p, _, rfl⟩ := List.mem_map.1 hl
    have := wrongF_len (lit := p.2) (l := c.sights) (i := 0)
    have := hR.sights
    omega
  unfold wrongO
  cases hL : leastW (wrongsL c) with
  | none =>
    conv => whnf
    rw [h0]
    exact RetA_viewR 0 rfl rfl ⟨⟨rfl, rfl⟩, rfl⟩
  | some l =>
    conv => whnf
    rw [h0]
    exact RetA_view 0 rfl ⟨⟨rfl, rfl⟩, rfl⟩
end Go.PX

/- PX: maps of counts by keys that are told apart; methods by their receivers' types. -/
namespace Go.PX
open Go.RowKit

section
variable {κ : Type} [DecidableEq κ] (kd : κ → D)

/-- A map from keys to integers. -/
def kvG (m : List (κ × Int)) : List (D × D) := m.map fun p => (kd p.1, .int .i64 p.2)

def getM : List (κ × Int) → κ → Option Int
  | [], _ => none
  | (u, x) :: r, t => if t = u then some x else getM r t

def putM : List (κ × Int) → κ → Int → List (κ × Int)
  | [], t, v => [(t, v)]
  | (u, x) :: r, t, v => if t = u then (t, v) :: r else (u, x) :: putM r t v

variable {kd}

theorem findG_none (hs : ∀ a b, sameD (kd a) (kd b) = some (decide (a = b))) {t : κ} : ∀ {m : List (κ × Int)}, getM m t = none → ∀ n, findD (kd t) (kvG kd m) n = some none
  | [], _, n => rfl
  | (u, x) :: r, h, n => by
    rw [getM] at h
    split at h
    · cases h
    · rename_i hu
      show (match sameD (kd t) (kd u) with
        | some true => some (some (n, D.int .i64 x))
        | some false => findD (kd t) (kvG kd r) (n + 1)
        | none => none) = _
      rw [hs, decide_eq_false hu]
      exact findG_none hs h (n + 1)

theorem findG_some (hs : ∀ a b, sameD (kd a) (kd b) = some (decide (a = b))) {t : κ} {v : Int} : ∀ {m : List (κ × Int)}, getM m t = some v → ∀ n, ∃ i, i < m.length ∧ findD (kd t) (kvG kd m) n = some (some (n + i, .int .i64 v)) ∧ (∀ y, (kvG kd m).set i (kd t, .int .i64 y) = kvG kd (putM m t y)) ∧ setKey (kvG kd m) i (kd t) = kvG kd m ∧ ∀ y, setVal (kvG kd m) i (.int .i64 y) = kvG kd (putM m t y)
  | [], h, n => by cases h
  | (u, x) :: r, h, n => by
    rw [getM] at h
    split at h
    · rename_i hu
      cases h
      subst hu
      refine ⟨0, by simp, ?_, fun y => ?_, rfl, fun y => ?_⟩
      · show (match sameD (kd t) (kd t) with
          | some true => some (some (n, D.int .i64 v))
          | some false => findD (kd t) (kvG kd r) (n + 1)
          | none => none) = _
        rw [hs, decide_eq_true rfl]; rfl
      · rw [putM, if_pos rfl]; rfl
      · rw [putM, if_pos rfl]; rfl
    · rename_i hu
      obtain ⟨i, h0, h1, h2, h3, h4⟩ := findG_some hs h (n + 1)
      refine ⟨i + 1, by simp; omega, ?_, fun y => ?_, ?_, fun y => ?_⟩
      · show (match sameD (kd t) (kd u) with
          | some true => some (some (n, D.int .i64 x))
          | some false => findD (kd t) (kvG kd r) (n + 1)
          | none => none) = _
        rw [hs, decide_eq_false hu]
        show findD (kd t) (kvG kd r) (n + 1) = _
        rw [h1, show n + 1 + i = n + (i + 1) by omega]
      · rw [putM, if_neg hu]
        show (kd u, D.int .i64 x) :: (kvG kd r).set i (kd t, .int .i64 y) = (kd u, D.int .i64 x) :: kvG kd (putM r t y)
        rw [h2 y]
      · show (kd u, D.int .i64 x) :: setKey (kvG kd r) i (kd t) = _
        rw [h3]; rfl
      · rw [putM, if_neg hu]
        show (kd u, D.int .i64 x) :: setVal (kvG kd r) i (.int .i64 y) = (kd u, D.int .i64 x) :: kvG kd (putM r t y)
        rw [h4 y]

theorem putG_none {t : κ} (y : Int) : ∀ {m : List (κ × Int)}, getM m t = none → kvG kd m ++ [(kd t, .int .i64 y)] = kvG kd (putM m t y)
  | [], _ => rfl
  | (u, x) :: r, h => by
    rw [getM] at h
    split at h
    · cases h
    · rename_i hu
      rw [putM, if_neg hu]
      show (kd u, D.int .i64 x) :: (kvG kd r ++ [(kd t, .int .i64 y)]) = _
      rw [putG_none y h]; rfl

theorem findG_last (hs : ∀ a b, sameD (kd a) (kd b) = some (decide (a = b))) {t : κ} {z : D} : ∀ {m : List (κ × Int)}, getM m t = none → ∀ n, findD (kd t) (kvG kd m ++ [(kd t, z)]) n = some (some (n + (kvG kd m).length, z))
  | [], _, n => by
    show (match sameD (kd t) (kd t) with
      | some true => some (some (n, z))
      | some false => findD (kd t) [] (n + 1)
      | none => none) = _
    rw [hs, decide_eq_true rfl]; rfl
  | (u, x) :: r, h, n => by
    rw [getM] at h
    split at h
    · cases h
    · rename_i hu
      show (match sameD (kd t) (kd u) with
        | some true => some (some (n, D.int .i64 x))
        | some false => findD (kd t) (kvG kd r ++ [(kd t, z)]) (n + 1)
        | none => none) = _
      rw [hs, decide_eq_false hu]
      show findD (kd t) (kvG kd r ++ [(kd t, z)]) (n + 1) = _
      rw [findG_last hs h (n + 1)]
      show some (some (n + 1 + (kvG kd r).length, z)) = some (some (n + ((kvG kd r).length + 1), z))
      rw [show n + 1 + (kvG kd r).length = n + ((kvG kd r).length + 1) by omega]

theorem setVal_end {k x y : D} : ∀ (l : List (D × D)), setVal (l ++ [(k, x)]) l.length y = l ++ [(k, y)]
  | [] => rfl
  | p :: r => by
    show p :: setVal (r ++ [(k, x)]) r.length y = _
    rw [setVal_end r]; rfl

theorem getM_put (m : List (κ × Int)) (t u : κ) (y : Int) : getM (putM m t y) u = if u = t then some y else getM m u := by
  induction m with
  | nil => rfl
  | cons p r ih =>
    obtain ⟨w, x⟩ := p
    rw [putM]
    split
    · rename_i h
      subst h
      simp only [getM]
      split <;> rfl
    · rename_i h
      simp only [getM]
      split
      · rename_i h2
        subst h2
        rw [if_neg (fun e => h e.symm)]
      · exact ih

theorem putM_len (m : List (κ × Int)) (t : κ) (y : Int) : (putM m t y).length ≤ m.length + 1 := by
  induction m with
  | nil => simp [putM]
  | cons p r ih =>
    obtain ⟨w, x⟩ := p
    rw [putM]
    split
    · simp
    · simp; omega

theorem getM_isSome {m : List (κ × Int)} {t : κ} : (getM m t).isSome = true ↔ t ∈ m.map (·.1) := by
  induction m with
  | nil => simp [getM]
  | cons p r ih =>
    obtain ⟨w, x⟩ := p
    rw [getM]
    split
    · rename_i h; subst h; simp
    · rename_i h; simp [ih, h]

theorem kvG_length (m : List (κ × Int)) : (kvG kd m).length = m.length := by simp [kvG]
end

/-- Whether a method of a type is this function, without a way to it. -/
def methB (P : Program) (t : TypeId) (name : String) (g : FuncId) : Bool :=
  match P.info? t, P.underlying t with
  | some i, some d => (match d with
    | .pointer _ => false
    | _ => true) && (match i.methods.find? (·.name == name) with
    | some m => m.path.isEmpty && (match m.func with
      | some (g', false) => g' == g
      | _ => false)
    | none => false)
  | _, _ => false

theorem meth_of {P : Program} {t : TypeId} {name : String} {g : FuncId} (h : methB P t name g = true) (v : Value) (w : World) : (method (P.types.size + Made.depth) t v name).run P w = .ok (g, v) w := by
  unfold methB at h
  split at h
  case h_2 => cases h
  rename_i i d hi hd
  rw [Bool.and_eq_true] at h
  obtain ⟨hp, h⟩ := h
  split at h
  case h_2 => cases h
  rename_i m hm
  rw [Bool.and_eq_true] at h
  obtain ⟨hpath, h⟩ := h
  split at h
  case h_2 => cases h
  rename_i g' hf
  have : g' = g := by simpa using h
  subst this
  obtain ⟨n, hn⟩ : ∃ n, P.types.size + Made.depth = n + 1 := ⟨P.types.size + 99, rfl⟩
  have hpl : m.path.toList = [] := by
    have : m.path = #[] := by simpa using hpath
    rw [this]
  rw [hn, method]
  have h1 : (typeInfo t).run P w = .ok i w := by simp [typeInfo, hi]
  have hu : (underlying t).run P w = .ok d w := run_underlying hd w
  simp only [Sem.run_bind, h1, Result.andThen_ok, hm, hpl, follow, Sem.run_pure, hf]
  cases d <;> first | (simp at hp; done) | simp [receiverAt, hu, Sem.run_bind, Place.get]

theorem InvA_b {P : Program} {t : TypeId} {name : String} {K : FuncId → Prop} (g : FuncId) (h : methB P t name g = true) (hk : K g) : InvA P t name K := ⟨g, meth_of h, hk⟩

end Go.PX

namespace Go.PX
open Go.Proofs

/- Lamp: the states of a character (the program). -/

structure LState where
  fl : Bool
  k : Int
  long : Int
  first : Bool
  deriving DecidableEq

def stageD (fl : Bool) (k : Int) : D := .ifc (if fl then 165 else 170) (i64 k)
def LState.cells (x : LState) : List D := [stageD x.fl x.k, i64 x.long, .bool x.first]
def LState.d (x : LState) : D := .agg x.cells

theorem same_stage (a b : Bool) (k j : Int) : sameI (stageD a k) (stageD b j) = some (decide (a = b) && decide (k = j)) := by
  cases a <;> cases b <;> simp [stageD, sameI, sameN, i64]

theorem same_i64 (a b : Int) : sameI (i64 a) (i64 b) = some (decide (a = b)) := by simp [sameI, i64]
theorem same_bool (a b : Bool) : sameI (.bool a) (.bool b) = some (a == b) := rfl

theorem same_state (x y : LState) : sameD x.d y.d = some (decide (x = y)) := by
  show sameL x.cells y.cells = _
  simp only [LState.cells, sameL, same_stage, same_i64, same_bool]
  cases x; cases y
  congr 1
  rw [Bool.eq_iff_iff]
  simp [and_assoc]

theorem key_state (x : LState) {kt : TypeId} (h : kt = 169) : fitB tys 9 kt x.cells = true := by
  subst h
  cases x with | mk fl k long first =>
  cases fl <;> rfl

def spanOf (l : List LPhase) (x : LState) : Span := match l[x.k.toNat]? with
  | some p => if x.fl then p.flash else p.dark
  | none => ⟨0, 0⟩

theorem la139 (l : List LPhase) (k : Int) (p : LPhase) (hk : 0 ≤ k) (hp : l[k.toNat]? = some p) : FnV Try.prog 139 [i64 k, phasesD l] p.flash.d := by
  refine fnV_of mixed tysOk Try.func139 rfl (ft := ft139) 2 (by decide +kernel) (by rfl) fun {σ} Y st => ?_
  conv => whnf
  refine elemK_i p.cells ⟨hk, by simp [hp]⟩ ?_
  conv => whnf
  exact RetA_view 0 rfl ⟨⟨rfl, rfl⟩, rfl⟩

theorem la140 (l : List LPhase) (k : Int) (p : LPhase) (hk : 0 ≤ k) (hp : l[k.toNat]? = some p) : FnV Try.prog 140 [i64 k, phasesD l] p.dark.d := by
  refine fnV_of mixed tysOk Try.func140 rfl (ft := ft140) 2 (by decide +kernel) (by rfl) fun {σ} Y st => ?_
  conv => whnf
  refine elemK_i p.cells ⟨hk, by simp [hp]⟩ ?_
  conv => whnf
  exact RetA_view 0 rfl ⟨⟨rfl, rfl⟩, rfl⟩

theorem la118 (fl : Bool) (k many : Int) (hk : 0 ≤ k ∧ k ≤ 1000) (hm : 1 ≤ many ∧ many ≤ 1000) : FnV Try.prog 118 [stageD fl k, i64 many] (stageD (!fl) (if fl then k else (k + 1) % many)) := by
  cases fl with
  | true =>
    refine fnV_of mixed tysOk Try.func118 rfl (ft := ft118) 2 (by decide +kernel) (by rfl) fun {σ} Y st => ?_
    conv => whnf
    exact RetA_view 0 rfl ⟨⟨rfl, rfl⟩, rfl⟩
  | false =>
    refine fnV_of mixed tysOk Try.func118 rfl (ft := ft118) 2 (by decide +kernel) (by rfl) fun {σ} Y st => ?_
    conv => whnf
    refine arith_in (wrap_i64 (by (try dsimp only); omega)) ?_
    conv => whnf
    refine chk_i (by simp; omega) ?_
    conv => whnf
    refine RetA_view 0 rfl ⟨⟨?_, rfl⟩, rfl⟩
    have e : (k + 1).tmod many = (k + 1) % many := Int.tmod_eq_emod_of_nonneg (by omega)
    simp [packD, e, stageD, i64]

def behindS (many : Int) (x : LState) : LState := ⟨!x.fl, if x.fl then x.k else (x.k + 1) % many, 1, false⟩

/-- One second of one state: none, if the character is not kept. -/
def stepS (l : List LPhase) (ch : Bool) (x : LState) : Option LState :=
  if ch && (!x.first && decide (x.long < (spanOf l x).lo)) then none
  else if (if ch then behindS l.length x else ⟨x.fl, x.k, x.long + 1, x.first⟩).long ≤ (spanOf l (if ch then behindS l.length x else ⟨x.fl, x.k, x.long + 1, x.first⟩)).hi then some (if ch then behindS l.length x else ⟨x.fl, x.k, x.long + 1, x.first⟩) else none

def initA (b : Bool) (n : Nat) : List LState := (List.range n).map fun (k : Nat) => ⟨b, k, 1, true⟩

def failsF (l : List LPhase) : List Bool → Bool → List LState → Int → Int
  | [], _, _, _ => -1
  | b :: r, prev, A, s => if A.filterMap (stepS l (b != prev)) = [] then s else failsF l r b (A.filterMap (stepS l (b != prev))) (s + 1)

def failsL (lit : List Bool) (l : List LPhase) : Int := match lit with
  | [] => -1
  | b :: r => failsF l r b (initA b l.length) 1

abbrev Ms := List (LState × Int)

def incM (m : Ms) (y : LState) : Ms := putM m y ((getM m y).getD 0 + 1)

structure Cnt (m : Ms) (n : Nat) : Prop where
  len : m.length ≤ n
  bd : ∀ y v, getM m y = some v → 0 ≤ v ∧ v ≤ n

theorem Cnt.inc {m : Ms} {n : Nat} (h : Cnt m n) (y : LState) : Cnt (incM m y) (n + 1) := by
  refine ⟨Nat.le_trans (putM_len _ _ _) (by have := h.len; omega), fun u v hv => ?_⟩
  unfold incM at hv
  rw [getM_put] at hv
  split at hv
  · cases hv
    cases hg : getM m y with
    | none => simp; omega
    | some z => have := h.bd y z hg; simp; omega
  · have := h.bd u v hv; omega

theorem inc_some {m : Ms} {y u : LState} : (getM (incM m y) u).isSome = true ↔ u = y ∨ (getM m u).isSome = true := by
  unfold incM
  rw [getM_put]
  by_cases h : u = y
  · simp [h]
  · simp [h]

theorem RegionA_k {P : Program} {ft : FT} {σ : Type} {Y : Hd σ} {id : Nat} {ops : Array Oper} {st st' : St σ} {K : AExit → St σ → Prop} (h1 : ∀ K' : AExit → St σ → Prop, K' .normal st' → RegionA P ft Y id ops st K') (h2 : K .normal st') : RegionA P ft Y id ops st K := h1 K h2

/-- The values that are known of m[y]++. -/
theorem incs {m : Ms} {n : Nat} (h : Cnt m n) (y : LState) : (getM m y = none ∧ findD y.d (kvG LState.d m) 0 = some none ∧ findD y.d (kvG LState.d m ++ [(y.d, i64 0)]) 0 = some (some ((kvG LState.d m).length, i64 0)) ∧ setVal (kvG LState.d m ++ [(y.d, i64 0)]) (kvG LState.d m).length (i64 1) = kvG LState.d (incM m y)) ∨
    (∃ v i, getM m y = some v ∧ (0 ≤ v ∧ v ≤ n) ∧ i < (kvG LState.d m).length ∧ findD y.d (kvG LState.d m) 0 = some (some (i, i64 v)) ∧ setKey (kvG LState.d m) i y.d = kvG LState.d m ∧ setVal (kvG LState.d m) i (i64 (v + 1)) = kvG LState.d (incM m y)) := by
  cases hg : getM m y with
  | none =>
    left
    refine ⟨rfl, findG_none same_state hg 0, by rw [findG_last same_state hg 0]; simp, ?_⟩
    rw [setVal_end]
    have := putG_none (kd := LState.d) 1 hg
    rw [show i64 1 = D.int .i64 1 from rfl, this, incM, hg]; rfl
  | some v =>
    right
    obtain ⟨i, h0, h1, h2, h3, h4⟩ := findG_some (kd := LState.d) same_state hg 0
    refine ⟨v, i, rfl, h.bd y v hg, by rw [kvG_length]; exact h0, by rw [h1]; simp [i64], h3, ?_⟩
    rw [show i64 (v + 1) = D.int .i64 (v + 1) from rfl, h4, incM, hg]; rfl

end Go.PX

/- PX: a region that draws its order, by a state for each set of its operations. -/
namespace Go.PX
open Go.RowKit

def eqLs : List Bool → List Bool → Bool
  | [], [] => true
  | a :: r, b :: s => (match a, b with
    | true, true => true
    | false, false => true
    | _, _ => false) && eqLs r s
  | _, _ => false

theorem eqLs_iff : ∀ {a b : List Bool}, eqLs a b = true ↔ a = b
  | [], [] => by simp [eqLs]
  | [], _ :: _ => by simp [eqLs]
  | _ :: _, [] => by simp [eqLs]
  | a :: r, b :: s => by
    have := eqLs_iff (a := r) (b := s)
    cases a <;> cases b <;> simp [eqLs, this]

def inLs (l : List (List Bool)) (a : List Bool) : Bool := match l with
  | [] => false
  | b :: r => eqLs a b || inLs r a

def addLs (l : List (List Bool)) (a : List Bool) : List (List Bool) := match inLs l a with
  | true => l
  | false => a :: l

def addsLs : List (List Bool) → List (List Bool) → List (List Bool)
  | l, [] => l
  | l, a :: r => addsLs (addLs l a) r

def inLs_mem : ∀ {l : List (List Bool)} {a : List Bool}, inLs l a = true → a ∈ l
  | [], a, h => by simp [inLs] at h
  | b :: r, a, h => by
    simp only [inLs, Bool.or_eq_true] at h
    rcases h with h | h
    · rw [eqLs_iff.1 h]; simp
    · exact List.mem_cons_of_mem _ (inLs_mem h)

theorem mem_addLs {l : List (List Bool)} {a b : List Bool} (h : b ∈ l ∨ b = a) : b ∈ addLs l a := by
  unfold addLs
  split
  · rename_i hi
    rcases h with h | rfl
    · exact h
    · exact inLs_mem hi
  · rcases h with h | rfl
    · exact List.mem_cons_of_mem _ h
    · simp

theorem mem_addsLs : ∀ {r l : List (List Bool)} {b : List Bool}, b ∈ l ∨ b ∈ r → b ∈ addsLs l r
  | [], l, b, h => by
    rcases h with h | h
    · exact h
    · cases h
  | a :: r, l, b, h => by
    rw [addsLs]
    refine mem_addsLs ?_
    rcases h with h | h
    · exact .inl (mem_addLs (.inl h))
    · rcases List.mem_cons.1 h with rfl | h
      · exact .inl (mem_addLs (.inr rfl))
      · exact .inr h

/-- The sets that can have been done after so many operations. -/
def levelL (deps : List (List Nat)) : Nat → List (List Bool)
  | 0 => [deps.map fun _ => false]
  | k + 1 => addsLs [] ((levelL deps k).flatMap fun ls => (readyL ls 0 deps ls).map (setT ls))

def pairsL (deps : List (List Nat)) : Nat → List (List Bool × Nat)
  | 0 => []
  | k + 1 => pairsL deps k ++ (levelL deps k).flatMap fun ls => (readyL ls 0 deps ls).map fun i => (ls, i)

theorem mem_pairsL {deps : List (List Nat)} : ∀ {n k : Nat} {ls : List Bool} {i : Nat}, k < n → ls ∈ levelL deps k → i ∈ readyL ls 0 deps ls → (ls, i) ∈ pairsL deps n
  | 0, k, _, _, h, _, _ => by omega
  | n + 1, k, ls, i, h, h1, h2 => by
    rw [pairsL, List.mem_append]
    by_cases hk : k = n
    · subst hk
      right
      exact List.mem_flatMap.2 ⟨ls, h1, List.mem_map.2 ⟨i, h2, rfl⟩⟩
    · exact .inl (mem_pairsL (by omega) h1 h2)

noncomputable def allP {α : Type} (l : List α) (f : α → Prop) : Prop :=
  List.rec (motive := fun _ => Prop) True (fun a _ ih => f a ∧ ih) l
theorem allP_mem {α : Type} {f : α → Prop} : ∀ {l : List α}, allP l f → ∀ a ∈ l, f a
  | [], _, a, h => by cases h
  | b :: r, h, a, ha => by
    obtain ⟨h1, h2⟩ := (show f b ∧ allP r f from h)
    rcases List.mem_cons.1 ha with rfl | ha
    · exact h1
    · exact allP_mem h2 a ha

section
variable {P : Program} {T : Tys} {σ : Type} {Y : Hd σ} {cx : Cx σ} {r : Option Nat} {m : List Nat}

theorem wpInv_sound (hT : TysOk P T) (hY : Handles P Y cx) {ops : Array Oper} {deps : List (List Nat)} (hback : okBack 0 ops.toList = true) (hdeps : depsOk ops.toList deps = true) {F0 : Nat → Nat} {w0 : World} {n0 : Nat} (hd : ∀ o ∈ ops.toList, ∀ d, o.dst = some d → d < n0) {K : Env → Heap → σ → Prop} {I : List Bool → Env × Heap} {s : σ}
    {N : Nat} (hk : ∀ (k : Nat) (ls : List Bool), k < N → ls ∈ levelL deps k → ∀ i ∈ readyL ls 0 deps ls, stepAt P T Y ops.toList ops.toList[i]? (I ls).1 (I ls).2 s fun e h s' => Wk (⟨e, h, s'⟩ : St σ) ⟨(I (setT ls i)).1, (I (setT ls i)).2, s⟩)
    (hfin : ∀ ls, unl ls = 0 → ls.length = ops.size → K (I ls).1 (I ls).2 s) :
    ∀ (n : Nat) {ls : List Bool} {k : Nat} {L : Loc} {F : Nat → Nat} {a : Act} {w : World}, n + k = N → ls ∈ levelL deps k → ls.length = ops.size → unl ls = n → Good cx r m L F ⟨(I ls).1, (I ls).2, s⟩ a w → a.tmps.size = n0 → Tr F0 w0 F w →
      wpAnyIn (fr r) 0 P .any ops (OpsPost cx r m F0 w0 n0 K) n ls.toArray a w := by
  obtain ⟨hdl, hds⟩ := depsOk_spec hdeps
  have hdl : ops.size = deps.length := by simpa using hdl
  intro n
  induction n with
  | zero =>
    intro ls k L F a w hnk hlev hl hu hg hs tr
    refine ⟨?_, (I ls).1, (I ls).2, s, L, F, rfl, hfin ls hu hl, hg, tr, hs⟩
    cases hr : Region.ready .any ops ls.toArray with
    | nil => rfl
    | cons i _ =>
      have : i ∈ Region.ready .any ops ls.toArray := by rw [hr]; exact List.mem_cons_self ..
      have := getD_true_at.1 (mem_ready.1 this).1
      exact absurd this (unl_zero hu i)
  | succ n ih =>
    intro ls k L F a w hnk hlev hl hu hg hs tr
    refine ⟨fun hr => ?_, fun i hi => ?_⟩
    · exfalso
      obtain ⟨i, h1, h2⟩ := unl_pos (ls := ls) (by omega)
      have his : i < ops.size := by rw [← hl]; exact (List.getElem?_eq_some_iff.1 h1).1
      have : i ∈ Region.ready .any ops ls.toArray := by
        rw [mem_ready]
        refine ⟨getD_true_at.2 h1, ops[i], Array.getElem?_eq_getElem his, fun e he hb => ?_⟩
        have hlt := okBack_spec hback i ops[i] (by simp) e he hb
        exact getD_false_at.2 (h2 e.on (by omega))
      rw [hr] at this
      cases this
    · obtain ⟨hjl, oj, hoj, hedges⟩ := mem_ready.1 hi
      have his : i < ops.size := (Array.getElem?_eq_some_iff.1 hoj).1
      have hli := getD_true_at.1 hjl
      have hdi : deps[i]? = some (deps[i]'(by omega)) := List.getElem?_eq_getElem _
      have hrdy : i ∈ readyL ls 0 deps ls := by
        have := mem_readyL (ls := ls) (ds := deps) (bs := ls) (k := 0) (i := i) hdi hli (allTrue_of fun j hj => by
          obtain ⟨e, he, hb, rfl⟩ := hds i oj _ (by simpa using hoj) hdi j hj
          have := hedges e he hb
          rw [isTrue_iff]
          have := getD_false_at.1 this
          rw [Array.getD_eq_getD_getElem?]
          simp [this])
        simpa using this
      have hki := hk k ls (by omega) hlev i hrdy
      have hot : ops.toList[i]? = some oj := by simpa using hoj
      rw [hot] at hki
      obtain ⟨dst, op, ty, pos, after, guard⟩ := oj
      refine wpOp_sound hT hY hoj hg (fun d hdst => by rw [hs]; exact hd _ (List.mem_of_getElem? hot) d hdst) hki fun e' h' s' L' F' a' w' hg' hs' tr' hk' => ?_
      have hset : ls.toArray.setIfInBounds i true = (setT ls i).toArray := by rw [setT_eq]; simp
      rw [hset]
      obtain ⟨L2, F2, hg2, tr2⟩ := hk' cx r m L' F' a' w' hg'
      refine ih (k := k + 1) (by omega) ?_ (by rw [setT_eq]; simpa using hl) ?_ hg2 (hs'.trans hs) (Tr.trans tr (Tr.trans tr' tr2))
      · rw [levelL]
        exact mem_addsLs (.inr (List.mem_flatMap.2 ⟨ls, hlev, List.mem_map.2 ⟨i, hrdy, rfl⟩⟩))
      · rw [setT_eq]
        have := unl_set hli
        omega

variable {ft : FT}

/-- A region that draws, by a state for each set of its operations. -/
theorem RegionA_inv (hm : P.follows .mixedOrders = true) (hT : TysOk P T) (deps : List (List Nat)) (I : List Bool → Env × Heap) {id : Nat} {ops : Array Oper} (hst : (okBack 0 ops.toList && depsOk ops.toList deps) = true) {e : Env} {h : Heap} {s : σ} {K : AExit → St σ → Prop}
    (h0 : Wk (⟨e, h, s⟩ : St σ) ⟨(I (deps.map fun _ => false)).1, (I (deps.map fun _ => false)).2, s⟩)
    (hk : allP (pairsL deps deps.length) fun p => stepAt P T Y ops.toList ops.toList[p.2]? (I p.1).1 (I p.1).2 s fun e h s' => Wk (⟨e, h, s'⟩ : St σ) ⟨(I (setT p.1 p.2)).1, (I (setT p.1 p.2)).2, s⟩)
    (hfin : K .normal ⟨keepT ft.ks (I (deps.map fun _ => true)).1, (I (deps.map fun _ => true)).2, s⟩) : RegionA P ft Y id ops ⟨e, h, s⟩ K := by
  refine ⟨fun cx hY r m L F a w hg hc => ?_⟩
  rw [Bool.and_eq_true] at hst
  obtain ⟨hdl, _⟩ := depsOk_spec hst.2
  have hdl : ops.size = deps.length := by simpa using hdl
  obtain ⟨L0, F0, hg0, tr0⟩ := h0 cx r m L F a w hg
  refine wpIn_mono (wpIn_region_any (id := id) (Q := OpsPost cx r m F w a.tmps.size (fun e h s' => e = (I (deps.map fun _ => true)).1 ∧ h = (I (deps.map fun _ => true)).2 ∧ s' = s)) hm ?_) fun ex a' w' hq => ?_
  · have hrep : Array.replicate ops.size false = (deps.map fun _ => false).toArray := by
      rw [hdl]
      have : ∀ l : List (List Nat), (l.map fun _ => false) = List.replicate l.length false := by
        intro l
        induction l with
        | nil => rfl
        | cons x r ih => rw [List.map_cons, ih]; rfl
      rw [this]; simp
    have hunl : ∀ l : List (List Nat), unl (l.map fun _ => false) = l.length := by
      intro l
      induction l with
      | nil => rfl
      | cons x r ih => simp [unl, ih]
    have hall : ∀ (ds : List (List Nat)) (ls : List Bool), unl ls = 0 → ls.length = ds.length → ls = ds.map fun _ => true := by
      intro ds
      induction ds with
      | nil => intro ls _ h; exact List.length_eq_zero_iff.1 h
      | cons d ds ih =>
        intro ls hu h
        cases ls with
        | nil => simp at h
        | cons b ls =>
          cases b with
          | false => simp [unl] at hu
          | true => rw [List.map_cons, ← ih ls (by simpa [unl] using hu) (by simpa using h)]
    rw [hrep, hdl]
    refine wpInv_sound (I := I) (s := s) (N := deps.length) hT hY hst.1 hst.2 (opsOk_of hc) (fun k ls hk2 hlev i hi => allP_mem hk (ls, i) (mem_pairsL hk2 hlev hi)) (fun ls hu hl => ?_) deps.length (k := 0) rfl (by simp [levelL]) (by simp [hdl]) (hunl deps) (hg0.same (w' := { w with drawn := w.drawn + 1 }) rfl rfl rfl rfl) rfl (Tr.trans tr0 (Tr.drew _))
    rw [hall deps ls hu (by rw [hl, hdl])]
    exact ⟨rfl, rfl, rfl⟩
  · obtain ⟨e', h', s', L', F', hex, ⟨rfl, rfl, rfl⟩, hg', tr, hs⟩ := hq
    exact ⟨.normal, _, m, L', F', hex, hfin, hg'.sub (sub_keepT ft.ks _) (fun _ _ h => h), tr, hs⟩
end
end Go.PX

namespace Go.PX
open Go.Proofs

/- Lamp: what a round over the states does (plain), and the slots of a region that draws. -/

/-- The slots that have been written. -/
def selE : List Bool → List (Option (Nat × V)) → Env
  | true :: ls, some p :: r => p :: selE ls r
  | true :: ls, none :: r => selE ls r
  | false :: ls, _ :: r => selE ls r
  | _, _ => []

def sel3 (ls : List Bool) (a b : Nat) (x y z : List (D × D)) : List (D × D) :=
  match isTrue ls b with
  | true => z
  | false => match isTrue ls a with
    | true => y
    | false => x

/-- What is in the next map, when some states are still to come. -/
def Nxt (l : List LPhase) (ch : Bool) (m : Ms) (todo : List Nat) (next : Ms) : Prop :=
  ∀ y, (getM next y).isSome = true ↔ ∃ j x v, j ∉ todo ∧ m[j]? = some (x, v) ∧ stepS l ch x = some y

theorem not_mem_filter {todo : List Nat} {i j : Nat} : j ∉ (todo.filter fun k => !Nat.beq k i) ↔ j ∉ todo ∨ j = i := by
  rw [List.mem_filter]
  have : (!Nat.beq j i) = true ↔ j ≠ i := by
    rw [Bool.not_eq_true', Bool.eq_false_iff]
    exact ⟨fun h e => h (by subst e; simp), fun h e => h (Nat.eq_of_beq_eq_true e)⟩
  rw [this]
  by_cases h : j = i <;> simp [h]

theorem Nxt.none {l : List LPhase} {ch : Bool} {m : Ms} {todo : List Nat} {next : Ms} (h : Nxt l ch m todo next) {i : Nat} {x : LState} {v : Int} (hi : m[i]? = some (x, v)) (hs : stepS l ch x = none) : Nxt l ch m (todo.filter fun k => !Nat.beq k i) next := by
  intro y
  rw [h y]
  constructor
  · rintro ⟨j, x', v', h1, h2, h3⟩
    exact ⟨j, x', v', not_mem_filter.2 (.inl h1), h2, h3⟩
  · rintro ⟨j, x', v', h1, h2, h3⟩
    rcases not_mem_filter.1 h1 with h1 | rfl
    · exact ⟨j, x', v', h1, h2, h3⟩
    · rw [hi] at h2; cases h2
      rw [hs] at h3; cases h3

theorem Nxt.some {l : List LPhase} {ch : Bool} {m : Ms} {todo : List Nat} {next : Ms} (h : Nxt l ch m todo next) {i : Nat} {x y0 : LState} {v : Int} (hi : m[i]? = some (x, v)) (hs : stepS l ch x = some y0) : Nxt l ch m (todo.filter fun k => !Nat.beq k i) (incM next y0) := by
  intro y
  rw [inc_some, h y]
  constructor
  · rintro (rfl | ⟨j, x', v', h1, h2, h3⟩)
    · exact ⟨i, x, v, not_mem_filter.2 (.inr rfl), hi, hs⟩
    · exact ⟨j, x', v', not_mem_filter.2 (.inl h1), h2, h3⟩
  · rintro ⟨j, x', v', h1, h2, h3⟩
    rcases not_mem_filter.1 h1 with h1 | rfl
    · exact .inr ⟨j, x', v', h1, h2, h3⟩
    · rw [hi] at h2; cases h2
      rw [hs] at h3; cases h3
      exact .inl rfl

/-- A map holds just these states. -/
def MapOf (m : Ms) (A : List LState) : Prop := ∀ y, (getM m y).isSome = true ↔ y ∈ A

theorem Nxt.fin {l : List LPhase} {ch : Bool} {m : Ms} {next : Ms} {A : List LState} (hm : MapOf m A) (h : Nxt l ch m [] next) : MapOf next (A.filterMap (stepS l ch)) := by
  intro y
  rw [h y, List.mem_filterMap]
  constructor
  · rintro ⟨j, x, v, _, h2, h3⟩
    exact ⟨x, (hm x).1 (getM_isSome.2 (List.mem_map.2 ⟨(x, v), List.mem_of_getElem? h2, rfl⟩)), h3⟩
  · rintro ⟨x, hx, h3⟩
    have h4 := getM_isSome.1 ((hm x).2 hx)
    obtain ⟨⟨x', v⟩, h5, rfl⟩ := List.mem_map.1 h4
    obtain ⟨j, h6⟩ := List.mem_iff_getElem?.1 h5
    exact ⟨j, x', v, by simp, h6, h3⟩

theorem MapOf.empty {m : Ms} {A : List LState} (hm : MapOf m A) : m.length = 0 ↔ A = [] := by
  rw [List.length_eq_zero_iff]
  constructor
  · rintro rfl
    rw [List.eq_nil_iff_forall_not_mem]
    intro y hy
    have := (hm y).2 hy
    simp [getM] at this
  · rintro rfl
    cases m with
    | nil => rfl
    | cons p r =>
      have := (hm p.1).1 (getM_isSome.2 (by simp))
      cases this

theorem MapOf.get {m : Ms} {A : List LState} (hm : MapOf m A) {i : Nat} {x : LState} {v : Int} (h : m[i]? = some (x, v)) : x ∈ A :=
  (hm x).1 (getM_isSome.2 (List.mem_map.2 ⟨(x, v), List.mem_of_getElem? h, rfl⟩))

theorem filter_lt {todo : List Nat} {i : Nat} (h : i ∈ todo) : (todo.filter fun k => !Nat.beq k i).length < todo.length := by
  rcases Nat.lt_or_ge (todo.filter fun k => !Nat.beq k i).length todo.length with h1 | h1
  · exact h1
  · exfalso
    have h2 := (List.filter_sublist (l := todo) (p := fun k => !Nat.beq k i)).eq_of_length_le h1
    have : i ∈ todo.filter fun k => !Nat.beq k i := by rw [h2]; exact h
    rw [List.mem_filter] at this
    simp at this

theorem kvG_get {m : Ms} {i : Nat} {kv : D × D} (h : (kvG LState.d m)[i]? = some kv) : ∃ x v, m[i]? = some (x, v) ∧ kv = (x.d, i64 v) := by
  unfold kvG at h
  rw [List.getElem?_map, Option.map_eq_some_iff] at h
  obtain ⟨⟨x, v⟩, h1, h2⟩ := h
  exact ⟨x, v, h1, h2.symm⟩

/-- What is known of the states at a second. -/
structure StR (l : List LPhase) (n : Int) (x : LState) : Prop where
  k : 0 ≤ x.k ∧ x.k < l.length
  long : 1 ≤ x.long ∧ x.long ≤ n

theorem step_ok {l : List LPhase} {n : Int} (hp : 1 ≤ l.length) {ch : Bool} {x y : LState} (hn : 1 ≤ n) (h : StR l n x) (hs : stepS l ch x = some y) : StR l (n + 1) y := by
  have hk := h.k
  have hl := h.long
  have hy : y = if ch then behindS l.length x else ⟨x.fl, x.k, x.long + 1, x.first⟩ := by
    unfold stepS at hs
    by_cases h1 : (ch && (!x.first && decide (x.long < (spanOf l x).lo))) = true
    · rw [if_pos h1] at hs; cases hs
    · rw [if_neg h1] at hs
      by_cases h2 : (if ch then behindS l.length x else ⟨x.fl, x.k, x.long + 1, x.first⟩).long ≤ (spanOf l (if ch then behindS l.length x else ⟨x.fl, x.k, x.long + 1, x.first⟩)).hi
      · rw [if_pos h2] at hs; exact (Option.some.inj hs).symm
      · rw [if_neg h2] at hs; cases hs
  subst hy
  cases ch with
  | true =>
    simp only [if_true, behindS]
    constructor
    · simp only
      split
      · exact hk
      · exact ⟨Int.emod_nonneg _ (by omega), Int.emod_lt_of_pos _ (by omega)⟩
    · simp only; omega
  | false => exact ⟨hk, by show 1 ≤ x.long + 1 ∧ x.long + 1 ≤ n + 1; omega⟩

theorem init_ok {l : List LPhase} {b : Bool} : ∀ x ∈ initA b l.length, StR l 1 x := by
  intro x hx
  obtain ⟨k, hk, rfl⟩ := List.mem_map.1 hx
  have := List.mem_range.1 hk
  exact ⟨by simp only; omega, by simp only; omega⟩
end Go.PX
