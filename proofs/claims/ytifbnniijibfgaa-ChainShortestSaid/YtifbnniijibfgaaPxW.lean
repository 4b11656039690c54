import Derived.Test.YtifbnniijibfgaaPxV
set_option linter.all false
set_option maxRecDepth 10000
namespace Go.PX
open Go.Proofs

/-- The first shot that breaks. -/
def judgeL (heavy pull out : Int) : List Shot → List Int → Int → Int → Int × Int
  | s :: r, t :: ts, n, i => if n ≥ out then (0, 0) else if strongF t < pull + heavy * min (n + s.links) out then (2, i) else judgeL heavy pull out r ts (n + s.links) (i + 1)
  | _, _, _, _ => (0, 0)

def judgeF (c : Case) (t : Truth) (out : Int) : Int × Int :=
  if pullF c.ship t out * 1000 > t.hold * (rowF c t out).holds then (1, 0) else judgeL c.chain.heavy (pullF c.ship t out) out c.chain.shots t.thick 0 0

theorem fn81 (c : Case) (th : List Span) (fr : List (D × D)) (t : Truth) (out : Int) (hc : CaseR c) (ht : ForceOk c.ship t) (ho : 0 ≤ out ∧ out ≤ 1000) (hl : t.thick.length = c.chain.shots.length) (hb : ∀ n ∈ t.thick, bd n) :
    FnV Try.prog 81 [mD c th fr, t.d, i64 out] (.tup [i64 (judgeF c t out).1, i64 (judgeF c t out).2]) := by
  refine fnV_of mixed tysOk Try.func81 rfl (ft := ft81) 3 (by decide +kernel) (by rfl) fun {σ} Y st => ?_
  conv => whnf
  obtain ⟨_, _, _, _, _, _, hp⟩ := pull_bds ht ho
  have hrow := (rowF_ok hc t out).2
  have hhold := prod_bd 200000 1000 ht.thold hrow
  have hlen := hc.lens
  have hheavy := hc.heavy
  refine DrawCall_v (ds := [forceD c.ship t, i64 out]) (fn73 c.ship t out ht ho) rfl rfl ?_
  conv => whnf
  unfold judgeF
  generalize pullF c.ship t out = pull at *
  refine arith_in (wrap_i64 (by (try dsimp only); omega)) ?_
  conv => whnf
  refine DrawCall_v (ds := [mD c th fr, t.d, i64 out]) (fn108 c th fr t out hc ht ho) rfl rfl ?_
  conv => whnf
  refine arith_in (wrap_i64 (by (try dsimp only); omega)) ?_
  conv => whnf
  refine brk_i (fun h1 => ?_) (fun h1 => ?_)
  · have h1 : pull * 1000 > t.hold * (rowF c t out).holds := by simpa using h1
    conv => whnf
    simp only [h1, if_true]
    exact RetA_view 0 rfl ⟨⟨rfl, rfl⟩, rfl⟩
  have h1 : ¬ pull * 1000 > t.hold * (rowF c t out).holds := by simpa using h1
  simp only [h1, if_false]
  conv => whnf
  refine LoopA_i (T := tys) tysOk (by exact drawsB_spec mixed tysOk (by decide +kernel)) c.chain.shots (fun i (n : Int) => ⟨[(0, .d (mD c th fr)), (2, .d (i64 out)), (4, .ptr 4 0), (8, .d (i64 pull)), (9, .d (i64 n)), (37, .d (shotsD c.chain.shots)), (38, .d (i64 c.chain.shots.length)), (39, .d (i64 i))],
      [(4, .box (.dd t.cells))], st⟩)
    (fun i r n => (0 ≤ n ∧ n ≤ i * 40) ∧ (∀ s ∈ r, ShotR s) ∧ judgeL c.chain.heavy pull out c.chain.shots t.thick 0 0 = judgeL c.chain.heavy pull out r (t.thick.drop i) n i) 0
    (Wk.sub ⟨(by first | rfl | (simp only [List.length_map]; rfl) | simp [PX.get]), (by first | rfl | (simp only [List.length_map]; rfl) | simp [PX.get]), (by first | rfl | (simp only [List.length_map]; rfl) | simp [PX.get]), (by first | rfl | (simp only [List.length_map]; rfl) | simp [PX.get]), (by first | rfl | (simp only [List.length_map]; rfl) | simp [PX.get]), (by first | rfl | (simp only [List.length_map]; rfl) | simp [PX.get]), (by first | rfl | (simp only [List.length_map]; rfl) | simp [PX.get]), (by first | rfl | (simp only [List.length_map]; rfl) | simp [PX.get]), trivial⟩ ⟨(by first | rfl | (simp only [List.length_map]; rfl) | simp [PX.get]), trivial⟩) ⟨by omega, fun s hs => (hc.shots s hs).1, rfl⟩ ?_ ?_
  · intro i x r n hx hi hr ⟨hn, hm, he⟩
    have hxl := (hm x (by simp)).links
    have hti : i < t.thick.length := by omega
    have htx : t.thick[i]? = some t.thick[i] := List.getElem?_eq_getElem hti
    have hbx := hb _ (List.getElem_mem hti)
    rw [List.drop_eq_getElem_cons hti, judgeL] at he
    generalize t.thick[i] = v at *
    have hi7 : i < 7 := by omega
    have hmn := prod_bd (a := c.chain.heavy) (b := min (n + x.links) out) 200 1000 hheavy (by omega)
    conv => whnf
    refine brk_i (fun _ => ?_) (fun h => absurd hi (by simpa using h))
    conv => whnf
    refine elemK_nat hx ?_
    conv => whnf
    refine brk_i (fun h2 => ?_) (fun h2 => ?_)
    · have h2 : n ≥ out := by simpa using h2
      simp only [h2, if_true] at he
      conv => whnf
      rw [he]
      exact RetA_view 0 rfl ⟨⟨rfl, rfl⟩, rfl⟩
    have h2 : ¬ n ≥ out := by simpa using h2
    simp only [h2, if_false] at he
    conv => whnf
    refine arith_in (wrap_i64 (by (try dsimp only); omega)) ?_
    conv => whnf
    refine elemK_nat htx ?_
    conv => whnf
    refine DrawCall_v (fn67 v hbx) rfl rfl ?_
    conv => whnf
    refine arith_in (wrap_i64 (by (try dsimp only); omega)) ?_
    conv => whnf
    refine arith_in (wrap_i64 (by (try dsimp only); omega)) ?_
    conv => whnf
    refine brk_i (fun h3 => ?_) (fun h3 => ?_)
    · have h3 : strongF v < pull + c.chain.heavy * min (n + x.links) out := by simpa using h3
      simp only [h3, if_true] at he
      conv => whnf
      rw [he]
      exact RetA_view 0 rfl ⟨⟨rfl, rfl⟩, rfl⟩
    · have h3 : ¬ strongF v < pull + c.chain.heavy * min (n + x.links) out := by simpa using h3
      simp only [h3, if_false] at he
      conv => whnf
      refine arith_in (wrap_i64 (by (try dsimp only); omega)) ?_
      conv => whnf
      exact ⟨n + x.links, ⟨by omega, fun s hs => hm s (by simp [hs]), he⟩, (Wk.sub ⟨(by first | rfl | (simp only [List.length_map]; rfl) | simp [PX.get]), (by first | rfl | (simp only [List.length_map]; rfl) | simp [PX.get]), (by first | rfl | (simp only [List.length_map]; rfl) | simp [PX.get]), (by first | rfl | (simp only [List.length_map]; rfl) | simp [PX.get]), (by first | rfl | (simp only [List.length_map]; rfl) | simp [PX.get]), (by first | rfl | (simp only [List.length_map]; rfl) | simp [PX.get]), (by first | rfl | (simp only [List.length_map]; rfl) | simp [PX.get]), (by first | rfl | (simp only [List.length_map]; rfl) | simp [PX.get]), trivial⟩ ⟨(by first | rfl | (simp only [List.length_map]; rfl) | simp [PX.get]), trivial⟩)⟩
  · rintro n ⟨_, _, he⟩
    rw [show ∀ ts n i, judgeL c.chain.heavy pull out [] ts n i = (0, 0) from fun ts n i => by cases ts <;> rfl] at he
    conv => whnf
    refine brk_i (fun h => absurd h (by simp)) (fun _ => ?_)
    conv => whnf
    rw [he]
    exact RetA_view 0 rfl ⟨⟨rfl, rfl⟩, rfl⟩

/-- The truth at the worst in a weather is a truth that can be judged. -/
theorem worst_ok {c : Case} {th : List Span} (h : MoorOk c th) {w : Weather} (hw : w ∈ c.weathers) : ForceOk c.ship (worstT c th w) := by
  obtain ⟨hd, hwi, hcu, hsw⟩ := h.case.weathers w hw
  obtain ⟨s1, s2, s3, s4⟩ := h.case.ship
  have hh := h.case.hold
  exact ⟨s1, s2, s3, s4, by simp only [worstT]; omega, by simp only [worstT]; omega, by simp only [worstT]; omega, by simp only [worstT]; omega, by simp only [worstT]; omega⟩

def judgeW (c : Case) (th : List Span) (out : Int) (w : Weather) : Int × Int := judgeF c (worstT c th w) out

/-- The first weather in which the mooring does not hold. -/
def breakL (c : Case) (th : List Span) (out : Int) : List Weather → Int → Int × Int × Int
  | [], _ => (0, 0, 0)
  | w :: r, i => if (judgeW c th out w).1 ≠ 0 then ((judgeW c th out w).1, i, (judgeW c th out w).2) else breakL c th out r (i + 1)
def breakF (c : Case) (th : List Span) (out : Int) : Int × Int × Int := breakL c th out c.weathers 0

theorem fn81w (c : Case) (th : List Span) (fr : List (D × D)) (w : Weather) (out : Int) (h : MoorOk c th) (hw : w ∈ c.weathers) (ho : 0 ≤ out ∧ out ≤ 1000) :
    FnV Try.prog 81 [mD c th fr, (worstT c th w).d, i64 out] (.tup [i64 (judgeW c th out w).1, i64 (judgeW c th out w).2]) :=
  fn81 c th fr (worstT c th w) out h.case (worst_ok h hw) ho (by simp [worstT, h.len]) (by
    intro n hn
    simp only [worstT, List.mem_map] at hn
    obtain ⟨s, hs, rfl⟩ := hn
    have := (h.th s hs).1
    exact ⟨by omega, by omega⟩)

theorem fn74 (c : Case) (th : List Span) (fr : List (D × D)) (out : Int) (h : MoorOk c th) (ho : 0 ≤ out ∧ out ≤ 1000) :
    FnV Try.prog 74 [mD c th fr, i64 out] (tri (breakF c th out)) := by
  refine fnV_of mixed tysOk Try.func74 rfl (ft := ft74) 2 (by decide +kernel) (by rfl) fun {σ} Y st => ?_
  conv => whnf
  have hwl := h.case.wlen
  have hsl := h.case.lens
  have htl := h.len
  refine LoopA_i (T := tys) tysOk (by exact drawsB_spec mixed tysOk (by decide +kernel)) c.weathers (fun i (_ : Unit) => ⟨[(0, .d (mD c th fr)), (1, .d (i64 out)), (13, .d (weathersD c.weathers)), (14, .d (i64 c.weathers.length)), (15, .d (i64 i))], [], st⟩)
    (fun i r _ => (∀ w ∈ r, w ∈ c.weathers) ∧ breakF c th out = breakL c th out r i) ()
    (Wk.sub ⟨(by first | rfl | (simp only [List.length_map]; rfl) | simp [PX.get]), (by first | rfl | (simp only [List.length_map]; rfl) | simp [PX.get]), (by first | rfl | (simp only [List.length_map]; rfl) | simp [PX.get]), (by first | rfl | (simp only [List.length_map]; rfl) | simp [PX.get]), (by first | rfl | (simp only [List.length_map]; rfl) | simp [PX.get]), trivial⟩ trivial) ⟨fun _ h => h, rfl⟩ ?_ ?_
  · intro i x r _ hx hi hr ⟨hm, he⟩
    have hxm := hm x (by simp)
    rw [breakL] at he
    conv => whnf
    refine brk_i (fun _ => ?_) (fun h => absurd hi (by simpa using h))
    conv => whnf
    refine elemK_nat hx ?_
    conv => whnf
    refine CallA_v (ds := [mD c th fr, x.d]) (fn80 c th fr x (by omega)) rfl rfl ?_
    conv => whnf
    refine CallA_v (ds := [mD c th fr, (worstT c th x).d, i64 out]) (fn81w c th fr x out h hxm ho) rfl rfl ?_
    conv => whnf
    refine brk_i (fun h2 => ?_) (fun h2 => ?_)
    · have h2 : (judgeW c th out x).1 ≠ 0 := by simpa using h2
      rw [if_pos h2] at he
      conv => whnf
      rw [he]
      exact RetA_view 0 rfl ⟨⟨rfl, rfl⟩, rfl⟩
    · have h2 : ¬ (judgeW c th out x).1 ≠ 0 := by simpa using h2
      rw [if_neg h2] at he
      conv => whnf
      refine arith_in (wrap_i64 (by (try dsimp only); omega)) ?_
      conv => whnf
      exact ⟨(), ⟨fun s hs => hm s (by simp [hs]), he⟩, (Wk.sub ⟨(by first | rfl | (simp only [List.length_map]; rfl) | simp [PX.get]), (by first | rfl | (simp only [List.length_map]; rfl) | simp [PX.get]), (by first | rfl | (simp only [List.length_map]; rfl) | simp [PX.get]), (by first | rfl | (simp only [List.length_map]; rfl) | simp [PX.get]), (by first | rfl | (simp only [List.length_map]; rfl) | simp [PX.get]), trivial⟩ trivial)⟩
  · rintro _ ⟨_, he⟩
    rw [breakL] at he
    conv => whnf
    refine brk_i (fun h => absurd h (by simp)) (fun _ => ?_)
    conv => whnf
    rw [he]
    exact RetA_view 0 rfl ⟨⟨rfl, rfl⟩, rfl⟩
end Go.PX

namespace Go.PX
open Go.Proofs

theorem fn51_nil (lo hi : Int) : FnV Try.prog 51 [i64 lo, i64 hi, .nils] (.bool false) := by
  refine fnV_of mixed tysOk Try.func51 rfl (ft := ft51) 3 (by decide +kernel) (by rfl) fun {σ} Y st => ?_
  conv => whnf
  refine CallA_nil0 ?_
  refine CallA_view (fn86 [] 87 [.ref [i64 lo], .ref [i64 hi]] (fun n => decide (n < lo) || decide (n > hi)) (by simp) (fun x _ => fn87 x lo hi)) rfl 1 rfl ?_
  conv => whnf
  exact RetA_view 0 rfl ⟨⟨rfl, rfl⟩, rfl⟩

/-- The error with which a case, a length and places are refused. -/
def goE (c : Case) (out : Int) (bad : Bool) : Int :=
  if (checkC c).2.2 ≠ 0 then (checkC c).2.2 else if bad then 4 else if inB out 1 (linksF c.chain.shots) then 0 else 7

theorem links_bd {c : Case} (h : CaseR c) : ∀ s ∈ c.chain.shots, bd s.links := fun s hs => by
  have := (h.shots s hs).1.links
  exact ⟨by omega, by omega⟩

theorem linksF_in : ∀ {l : List Shot}, (∀ s ∈ l, 1 ≤ s.links ∧ s.links ≤ 40) → (l.length : Int) ≤ linksF l ∧ linksF l ≤ 40 * l.length
  | [], _ => by simp [linksF]
  | s :: r, h => by
    have h1 := h s (by simp)
    have h2 := linksF_in (l := r) fun x hx => h x (by simp [hx])
    simp only [linksF, List.length_cons]
    omega

theorem links_ok {c : Case} (h : CaseR c) : 1 ≤ linksF c.chain.shots ∧ linksF c.chain.shots ≤ 280 := by
  have h1 := linksF_in fun s hs => (h.shots s hs).1.links
  have h2 := h.lens
  omega

theorem goE_zero {c : Case} {out : Int} {bad : Bool} (h : goE c out bad = 0) : CaseR c ∧ bad = false ∧ 1 ≤ out ∧ out ≤ linksF c.chain.shots ∧ out ≤ 1000 := by
  unfold goE at h
  split at h
  · rename_i h1; exact absurd h h1
  · rename_i h1
    have hR := case_ok (c := c) (by simpa using h1)
    have hl := links_ok hR
    split at h
    · cases h
    · rename_i h2
      split at h
      · rename_i h3
        rw [inB_iff] at h3
        exact ⟨hR, by simpa using h2, by omega, by omega, by omega⟩
      · cases h

theorem fn72 (c : Case) (out : Int) (d : D) (bad : Bool) (hd : FnV Try.prog 51 [i64 0, i64 ((c.weathers.length : Int) - 1), d] (.bool bad)) :
    FnV Try.prog 72 [c.d, i64 out, d] (i64 (goE c out bad)) := by
  refine fnV_of mixed tysOk Try.func72 rfl (ft := ft72) 3 (by decide +kernel) (by rfl) fun {σ} Y st => ?_
  conv => whnf
  refine CallA_v (fn13 c) rfl rfl ?_
  conv => whnf
  unfold goE
  by_cases h0 : (checkC c).2.2 = 0
  · have hR := case_ok h0
    have hw := hR.wlen
    rw [h0]
    conv => whnf
    refine arith_to ((c.weathers.length : Int) - 1) (by simp) (wrap_i64 (by omega)) ?_
    conv => whnf
    refine CallA_v (ds := [i64 0, i64 ((c.weathers.length : Int) - 1), d]) hd rfl rfl ?_
    conv => whnf
    cases bad with
    | true =>
      conv => whnf
      rw [if_neg (by simpa using h0), if_pos rfl]
      exact RetA_view 0 rfl ⟨⟨rfl, rfl⟩, rfl⟩
    | false =>
      have hk := links_bd hR
      rw [if_neg (by simpa using h0), if_neg (by simp)]
      conv => whnf
      refine CallA_v (fn84 c.chain (by have := hR.lens; omega) hk) rfl rfl ?_
      conv => whnf
      refine CallA_view (fn51_1 1 (linksF c.chain.shots) out) rfl 1 rfl ?_
      conv => whnf
      refine brk_i (fun h3 => ?_) (fun h3 => ?_)
      · have h3 : inB out 1 (linksF c.chain.shots) = false := by simpa using h3
        conv => whnf
        rw [if_neg (by simp [h3])]
        exact RetA_view 0 rfl ⟨⟨rfl, rfl⟩, rfl⟩
      · have h3 : inB out 1 (linksF c.chain.shots) = true := by simpa using h3
        conv => whnf
        rw [if_pos h3]
        exact RetA_view 0 rfl ⟨⟨rfl, rfl⟩, rfl⟩
  · conv => whnf
    refine brk_i (fun _ => ?_) (fun h => absurd h (by simpa using h0))
    conv => whnf
    rw [if_pos (by simpa using h0)]
    exact RetA_view 0 rfl ⟨⟨rfl, rfl⟩, rfl⟩
end Go.PX

namespace Go.PX
open Go.Proofs

theorem RepDL.nilAt {F : Nat → Nat} {w : World} {B : List D} : ∀ {A : List D} {l : List Value}, RepDL F w (A ++ .nils :: B) l → RepDL F w (A ++ .vs [] :: B) l
  | [], l, h => by
    obtain ⟨x, l', rfl, hx, hr⟩ := h
    have hx : x = .slice none 0 0 := hx
    subst hx
    exact ⟨_, l', rfl, ⟨none, 0, 0, rfl, rfl, Nat.le_refl _, fun h => absurd rfl h⟩, hr⟩
  | a :: A, l, h => by
    obtain ⟨x, l', rfl, hx, hr⟩ := h
    exact ⟨x, l', rfl, hx, RepDL.nilAt hr⟩

/-- A struct with a nil slice is passed as one with an empty list. -/
theorem CallA_nilAt {P : Program} {σ : Type} {Y : Hd σ} {st : St σ} {d : Option Nat} {f : FuncId} (A B : List D) {l : List D} {r : List V} {K : St σ → Prop} (hl : l = A ++ .nils :: B) (hc : CallA P Y st d f (.d (.agg (A ++ .vs [] :: B)) :: r) K) : CallA P Y st d f (.d (.agg l) :: r) K := by
  subst hl
  refine CallA_re (fun yv L F w l hv => ?_) hc
  obtain ⟨x, l', rfl, hx, hr⟩ := hv
  obtain ⟨a, rfl, ha⟩ := hx
  exact ⟨_, l', rfl, ⟨a, rfl, RepDL.nilAt ha⟩, hr⟩

def badAt (c : Case) (i : Int) : Bool := !inB i 0 ((c.weathers.length : Int) - 1)

def pullT (w : Weather) : Truth := ⟨0, w.wind.hi, w.current.hi, w.swell.hi, 0, []⟩

def pullE (c : Case) (i out : Int) : Int × Int :=
  if goE c out (badAt c i) = 0 then (match c.weathers[i.toNat]? with
    | some w => (pullF c.ship (pullT w) out, 0)
    | none => (0, 0)) else (0, goE c out (badAt c i))

theorem badAt_ok {c : Case} {i : Int} (h : badAt c i = false) : ∃ w, 0 ≤ i ∧ c.weathers[i.toNat]? = some w ∧ w ∈ c.weathers := by
  have h : inB i 0 ((c.weathers.length : Int) - 1) = true := by simpa [badAt] using h
  rw [inB_iff] at h
  have hl : i.toNat < c.weathers.length := by omega
  exact ⟨c.weathers[i.toNat], h.1, List.getElem?_eq_getElem hl, List.getElem_mem hl⟩

theorem pull_ok {c : Case} (h : CaseR c) {w : Weather} (hw : w ∈ c.weathers) : ForceOk c.ship (pullT w) := by
  obtain ⟨hd, hwi, hcu, hsw⟩ := h.weathers w hw
  obtain ⟨s1, s2, s3, s4⟩ := h.ship
  exact ⟨s1, s2, s3, s4, by simp only [pullT]; omega, by simp only [pullT]; omega, by simp only [pullT]; omega, by simp only [pullT]; omega, by simp only [pullT]; omega⟩

theorem fn24 (c : Case) (i out : Int) : FnV Try.prog 24 [c.d, i64 i, i64 out] (.tup [i64 (pullE c i out).1, i64 (pullE c i out).2]) := by
  refine fnV_of mixed tysOk Try.func24 rfl (ft := ft24) 3 (by decide +kernel) (by rfl) fun {σ} Y st => ?_
  conv => whnf
  refine CallA_view (fn72 c out (.vs [[i64 i]]) (badAt c i) (fn51_1 0 ((c.weathers.length : Int) - 1) i)) rfl 1 rfl ?_
  conv => whnf
  by_cases h0 : goE c out (badAt c i) = 0
  · obtain ⟨hR, hb, ho⟩ := goE_zero h0
    obtain ⟨w, hi, hw, hm⟩ := badAt_ok hb
    have hE : pullE c i out = (pullF c.ship (pullT w) out, 0) := by simp [pullE, h0, hw]
    rw [hE, h0]
    conv => whnf
    refine elemK_i w.cells ⟨hi, by rw [List.getElem?_map, hw]; rfl⟩ ?_
    conv => whnf
    refine CallA_nilAt (c.ship.cells ++ [i64 0, i64 w.wind.hi, i64 w.current.hi, i64 w.swell.hi, i64 0]) [] rfl ?_
    refine CallA_v (ds := [forceD c.ship (pullT w), i64 out]) (fn73 c.ship (pullT w) out (pull_ok hR hm) (by omega)) rfl rfl ?_
    conv => whnf
    exact RetA_view 0 rfl ⟨⟨rfl, rfl⟩, rfl⟩
  · have hE : pullE c i out = (0, goE c out (badAt c i)) := by simp [pullE, h0]
    rw [hE]
    conv => whnf
    refine brk_i (fun _ => ?_) (fun h => absurd h (by simpa using h0))
    conv => whnf
    exact RetA_view 0 rfl ⟨⟨rfl, rfl⟩, rfl⟩

theorem moor_ok {c : Case} (h : CaseR c) : MoorOk c (thickL c) := by
  refine ⟨h, by simp [thickL], fun s hs => ?_⟩
  simp only [thickL, List.mem_map] at hs
  obtain ⟨x, hx, rfl⟩ := hs
  exact rangeS_bd (h.look hx) (h.shots x hx).2

def whyE (c : Case) (out : Int) : (Int × Int × Int) × Int :=
  if lookE c (goE c out false) = 0 then (breakF c (thickL c) out, 0) else ((0, 0, 0), lookE c (goE c out false))

theorem lookE_ne {c : Case} {e : Int} (h : lookE c e ≠ 0) : (e = 0 ∧ soundE c ≠ 0 ∧ lookE c e = soundE c) ∨ (e ≠ 0 ∧ lookE c e = e) := by
  unfold lookE at *
  split
  · rename_i h0; left; rw [if_pos h0] at h; exact ⟨h0, h, rfl⟩
  · rename_i h0; right; exact ⟨h0, rfl⟩

/-- What a look at a case's shots gives. -/
def lookD (c : Case) (e : Int) : D := if lookE c e = 0 then moorD c else .nilp

theorem fn66' (c : Case) (e : Int) (hc : e = 0 → CaseR c) : FnV Try.prog 66 [c.d, i64 e] (.tup [lookD c e, i64 (lookE c e)]) := by
  refine FnV.cast (fn66 c e hc) ?_
  unfold lookD lookE
  by_cases h : e = 0
  · simp [h]
  · simp [h]

theorem fn25 (c : Case) (out : Int) : FnV Try.prog 25 [c.d, i64 out] (.tup [i64 (whyE c out).1.1, i64 (whyE c out).1.2.1, i64 (whyE c out).1.2.2, i64 (whyE c out).2]) := by
  refine fnV_of mixed tysOk Try.func25 rfl (ft := ft25) 2 (by decide +kernel) (by rfl) fun {σ} Y st => ?_
  conv => whnf
  refine DrawCall_v (ds := [c.d, i64 out, .nils]) (fn72 c out .nils false (fn51_nil 0 _)) rfl rfl ?_
  conv => whnf
  refine DrawCall_v (ds := [c.d, i64 (goE c out false)]) (fn66' c (goE c out false) (fun h => (goE_zero h).1)) rfl rfl ?_
  unfold lookD
  by_cases h1 : lookE c (goE c out false) = 0
  · obtain ⟨h0, hs⟩ := lookE_zero h1
    obtain ⟨hR, _, ho⟩ := goE_zero h0
    have hE : whyE c out = (breakF c (thickL c) out, 0) := by simp [whyE, h1]
    rw [hE, if_pos h1, h1]
    conv => whnf
    refine CallA_v (ds := [mD c (thickL c) (freshM c.chain.shots 0), i64 out]) (fn74 c (thickL c) (freshM c.chain.shots 0) out (moor_ok hR) (by omega)) rfl rfl ?_
    conv => whnf
    exact RetA_view 0 rfl ⟨⟨rfl, rfl⟩, rfl⟩
  · have hE : whyE c out = ((0, 0, 0), lookE c (goE c out false)) := by simp [whyE, h1]
    rw [hE, if_neg h1]
    conv => whnf
    refine brk_i (fun _ => ?_) (fun h => absurd h (by simpa using h1))
    conv => whnf
    exact RetA_view 0 rfl ⟨⟨rfl, rfl⟩, rfl⟩
end Go.PX

namespace Go.PX
open Go.Proofs

def noTruth : D := .agg [i64 0, i64 0, i64 0, i64 0, i64 0, .nils]

def showE (c : Case) (i out : Int) : D × (Int × Int) × Int :=
  if lookE c (goE c out (badAt c i)) = 0 then (match c.weathers[i.toNat]? with
    | some w => ((worstT c (thickL c) w).d, judgeW c (thickL c) out w, 0)
    | none => (noTruth, (0, 0), 0)) else (noTruth, (0, 0), lookE c (goE c out (badAt c i)))

theorem fn35 (c : Case) (i out : Int) : FnV Try.prog 35 [c.d, i64 i, i64 out] (.tup [(showE c i out).1, i64 (showE c i out).2.1.1, i64 (showE c i out).2.1.2, i64 (showE c i out).2.2]) := by
  refine fnV_of mixed tysOk Try.func35 rfl (ft := ft35) 3 (by decide +kernel) (by rfl) fun {σ} Y st => ?_
  conv => whnf
  refine DrawCall_view (fn72 c out (.vs [[i64 i]]) (badAt c i) (fn51_1 0 ((c.weathers.length : Int) - 1) i)) rfl 1 rfl ?_
  conv => whnf
  refine DrawCall_v (ds := [c.d, i64 (goE c out (badAt c i))]) (fn66' c (goE c out (badAt c i)) (fun h => (goE_zero h).1)) rfl rfl ?_
  unfold lookD
  by_cases h1 : lookE c (goE c out (badAt c i)) = 0
  · obtain ⟨h0, hs⟩ := lookE_zero h1
    obtain ⟨hR, hb, ho⟩ := goE_zero h0
    obtain ⟨w, hi, hw, hm⟩ := badAt_ok hb
    have hM := moor_ok hR
    have hlen : (thickL c).length < 1000000 := by have := hR.lens; rw [hM.len]; omega
    have hE : showE c i out = ((worstT c (thickL c) w).d, judgeW c (thickL c) out w, 0) := by simp [showE, h1, hw]
    rw [hE, if_pos h1, h1]
    conv => whnf
    refine elemK_i w.cells ⟨hi, by rw [List.getElem?_map, hw]; rfl⟩ ?_
    conv => whnf
    refine CallA_v (ds := [mD c (thickL c) (freshM c.chain.shots 0), w.d]) (fn80 c (thickL c) (freshM c.chain.shots 0) w hlen) rfl rfl ?_
    conv => whnf
    refine CallA_v (ds := [mD c (thickL c) (freshM c.chain.shots 0), (worstT c (thickL c) w).d, i64 out]) (fn81w c (thickL c) (freshM c.chain.shots 0) w out hM hm (by omega)) rfl rfl ?_
    conv => whnf
    exact RetA_view 0 rfl ⟨⟨rfl, rfl⟩, rfl⟩
  · have hE : showE c i out = (noTruth, (0, 0), lookE c (goE c out (badAt c i))) := by simp [showE, h1]
    rw [hE, if_neg h1]
    conv => whnf
    refine brk_i (fun _ => ?_) (fun h => absurd h (by simpa using h1))
    conv => whnf
    exact RetA_view 0 rfl ⟨⟨rfl, rfl⟩, rfl⟩

def bandsL (c : Case) (w : Weather) : List Span := [w.depth, w.wind, w.current, w.swell, c.chain.hold] ++ thickL c
def valsL (t : Truth) : List Int := [t.depth, t.wind, t.current, t.swell, t.hold] ++ t.thick

/-- Is a value outside its band? -/
def outL : List Span → List Int → Bool
  | s :: r, n :: l => !inB n s.lo s.hi || outL r l
  | _, _ => false

def inE (c : Case) (i out : Int) (t : Truth) : (Int × Int) × Int :=
  if lookE c (goE c out (badAt c i)) = 0 then (
    if t.thick.length = c.chain.shots.length then (match c.weathers[i.toNat]? with
    | some w => if outL (bandsL c w) (valsL t) then ((0, 0), 7) else (judgeF c t out, 0)
    | none => ((0, 0), 0)) else ((0, 0), 3)) else ((0, 0), lookE c (goE c out (badAt c i)))

theorem outL_mem : ∀ {l : List Span} {ts : List Int}, l.length = ts.length → outL l ts = false → ∀ n ∈ ts, ∃ s ∈ l, s.lo ≤ n ∧ n ≤ s.hi
  | [], [], _, _, n, hn => by cases hn
  | s :: l, m :: ts, hl, ho, n, hn => by
    simp only [outL, Bool.or_eq_false_iff, Bool.not_eq_false', inB_iff] at ho
    simp only [List.mem_cons] at hn
    rcases hn with rfl | hn
    · exact ⟨s, by simp, ho.1⟩
    · obtain ⟨s', h1, h2⟩ := outL_mem (by simpa using hl) ho.2 n hn
      exact ⟨s', by simp [h1], h2⟩

theorem bands_ok {c : Case} (h : CaseR c) {w : Weather} (hw : w ∈ c.weathers) {t : Truth} (hl : t.thick.length = c.chain.shots.length) (ho : outL (bandsL c w) (valsL t) = false) : ForceOk c.ship t ∧ ∀ n ∈ t.thick, bd n := by
  obtain ⟨hd, hwi, hcu, hsw⟩ := h.weathers w hw
  obtain ⟨s1, s2, s3, s4⟩ := h.ship
  have hh := h.hold
  simp only [bandsL, valsL, List.cons_append, List.nil_append, outL, Bool.or_eq_false_iff, Bool.not_eq_false', inB_iff] at ho
  obtain ⟨o1, o2, o3, o4, o5, o6⟩ := ho
  refine ⟨⟨s1, s2, s3, s4, by omega, by omega, by omega, by omega, by omega⟩, fun n hn => ?_⟩
  obtain ⟨s, hs, hn⟩ := outL_mem (by simp [thickL, hl]) o6 n hn
  have := (moor_ok h).th s hs
  exact ⟨by omega, by omega⟩

theorem fn39 (c : Case) (i out : Int) (t : Truth) : FnV Try.prog 39 [c.d, i64 i, i64 out, t.d] (.tup [i64 (inE c i out t).1.1, i64 (inE c i out t).1.2, i64 (inE c i out t).2]) := by
  refine fnV_of mixed tysOk Try.func39 rfl (ft := ft39) 4 (by decide +kernel) (by rfl) fun {σ} Y st => ?_
  conv => whnf
  refine DrawCall_view (fn72 c out (.vs [[i64 i]]) (badAt c i) (fn51_1 0 ((c.weathers.length : Int) - 1) i)) rfl 1 rfl ?_
  conv => whnf
  refine DrawCall_v (ds := [c.d, i64 (goE c out (badAt c i))]) (fn66' c (goE c out (badAt c i)) (fun h => (goE_zero h).1)) rfl rfl ?_
  unfold lookD
  by_cases h1 : lookE c (goE c out (badAt c i)) = 0
  · obtain ⟨h0, hs⟩ := lookE_zero h1
    obtain ⟨hR, hb, ho⟩ := goE_zero h0
    obtain ⟨w, hi, hw, hm⟩ := badAt_ok hb
    have hM := moor_ok hR
    have hlen : (thickL c).length < 1000000 := by have := hR.lens; rw [hM.len]; omega
    rw [if_pos h1]
    by_cases h2 : t.thick.length = c.chain.shots.length
    · have hE : inE c i out t = if outL (bandsL c w) (valsL t) then ((0, 0), 7) else (judgeF c t out, 0) := by simp [inE, h1, h2, hw]
      rw [hE, h1]
      conv => whnf
      refine brk_i (fun h => absurd h (by simp [h2])) (fun _ => ?_)
      conv => whnf
      refine elemK_i w.cells ⟨hi, by rw [List.getElem?_map, hw]; rfl⟩ ?_
      conv => whnf
      have hk : ∀ n, n = 2 → Els.ok n (.dd ((thickL c).map Span.cells)) = true := fun n hn => by
        subst hn
        exact lenAllD_map (fun x => ⟨rfl, rfl⟩) (thickL c)
      rw [hk]
      rotate_left
      · rfl
      conv => whnf
      refine chk_i (decide_eq_true (show (5 + ((thickL c).map Span.cells).length) * 16 ≤ 140737488355328 by simp; omega)) ?_
      conv => whnf
      have hk2 : ∀ n, n = 1 → Els.ok n (.dd (t.thick.map fun n => [i64 n])) = true := fun n hn => by
        subst hn
        exact lenAllD_map (fun x => ⟨rfl, rfl⟩) t.thick
      rw [hk2]
      rotate_left
      · rfl
      conv => whnf
      have hb1 : some (V.sl 60 2 0 (5 + ((thickL c).map Span.cells).length)) = some (V.sl 60 2 0 (bandsL c w).length) := by simp [bandsL]; omega
      have hb2 : some (V.sl 74 1 0 (5 + (t.thick.map fun n => [i64 n]).length)) = some (V.sl 74 1 0 (valsL t).length) := by simp [valsL]; omega
      have hb3 : some (V.d (i64 ((5 + (t.thick.map fun n => [i64 n]).length : Nat) : Int))) = some (V.d (i64 (valsL t).length)) := by simp [valsL]; omega
      have htk : t.thick.length ≤ 7 := by have := hR.lens; omega
      refine chk_i (decide_eq_true (show (5 + (t.thick.map fun n => [i64 n]).length) * 8 ≤ 140737488355328 by simp; omega)) ?_
      conv => whnf
      refine LoopA_i (T := tys) tysOk (by exact drawsB_spec mixed tysOk (by decide +kernel)) (valsL t) (fun i (_ : Unit) => ⟨[(2, .d (i64 out)), (7, .ptr 7 0), (11, .d (mD c (thickL c) (freshM c.chain.shots 0))), (13, .sl 60 2 0 (bandsL c w).length), (74, .sl 74 1 0 (valsL t).length), (75, .d (i64 (valsL t).length)), (76, .d (i64 i))],
          [(7, .box (.dd t.cells)), (60, .arr 2 (.dd ((bandsL c w).map Span.cells))), (74, .arr 1 (.dd ((valsL t).map fun n => [i64 n])))], st⟩)
        (fun i r _ => outL (bandsL c w) (valsL t) = outL ((bandsL c w).drop i) r) ()
        (Wk.sub ⟨rfl, rfl, rfl, hb1, hb2, hb3, rfl, trivial⟩ ⟨rfl, rfl, rfl, trivial⟩) rfl ?_ ?_
      · intro i x r _ hx hi hr he
        have hbl : (bandsL c w).length = (valsL t).length := by simp [bandsL, valsL, thickL, h2]
        have hib : i < (bandsL c w).length := by omega
        have hbx : (bandsL c w)[i]? = some (bandsL c w)[i] := List.getElem?_eq_getElem hib
        have hvl : (valsL t).length ≤ 12 := by simp [valsL]; omega
        rw [List.drop_eq_getElem_cons hib, outL] at he
        generalize (bandsL c w)[i] = b at *
        conv => whnf
        refine brk_i (fun _ => ?_) (fun h => absurd hi (by simpa using h))
        conv => whnf
        refine chk_i (by simp; omega) ?_
        conv => whnf
        refine cellK_i [i64 x] (by simp [hx]) ?_
        conv => whnf
        refine chk_i (by simp; omega) ?_
        conv => whnf
        refine cellK_i b.cells (by simp [hbx]) ?_
        conv => whnf
        refine chk_i (by simp; omega) ?_
        conv => whnf
        refine cellK_i b.cells (by simp [hbx]) ?_
        conv => whnf
        refine DrawCall_view (fn51_1 b.lo b.hi x) rfl 1 rfl ?_
        conv => whnf
        refine brk_i (fun h3 => ?_) (fun h3 => ?_)
        · have h3 : inB x b.lo b.hi = false := by simpa using h3
          simp only [h3, Bool.not_false, Bool.true_or] at he
          conv => whnf
          rw [if_pos he]
          exact RetA_view 0 rfl ⟨⟨rfl, rfl⟩, rfl⟩
        · have h3 : inB x b.lo b.hi = true := by simpa using h3
          simp only [h3, Bool.not_true, Bool.false_or] at he
          conv => whnf
          refine arith_in (wrap_i64 (by (try dsimp only); omega)) ?_
          conv => whnf
          exact ⟨(), he, (Wk.sub ⟨(by first | rfl | (simp only [List.length_map]; rfl) | simp [PX.get]), (by first | rfl | (simp only [List.length_map]; rfl) | simp [PX.get]), (by first | rfl | (simp only [List.length_map]; rfl) | simp [PX.get]), (by first | rfl | (simp only [List.length_map]; rfl) | simp [PX.get]), (by first | rfl | (simp only [List.length_map]; rfl) | simp [PX.get]), (by first | rfl | (simp only [List.length_map]; rfl) | simp [PX.get]), (by first | rfl | (simp only [List.length_map]; rfl) | simp [PX.get]), trivial⟩ ⟨(by first | rfl | (simp only [List.length_map]; rfl) | simp [PX.get]), (by first | rfl | (simp only [List.length_map]; rfl) | simp [PX.get]), (by first | rfl | (simp only [List.length_map]; rfl) | simp [PX.get]), trivial⟩)⟩
      · rintro _ he
        have he : outL (bandsL c w) (valsL t) = false := by rw [he]; cases (bandsL c w).drop (valsL t).length <;> rfl
        obtain ⟨hF, hbd⟩ := bands_ok hR hm h2 he
        rw [if_neg (by simp [he])]
        conv => whnf
        refine brk_i (fun h => absurd h (by simp)) (fun _ => ?_)
        conv => whnf
        refine CallA_v (ds := [mD c (thickL c) (freshM c.chain.shots 0), t.d, i64 out]) (fn81 c (thickL c) (freshM c.chain.shots 0) t out hR hF (by omega) h2 hbd) rfl rfl ?_
        conv => whnf
        exact RetA_view 0 rfl ⟨⟨rfl, rfl⟩, rfl⟩
    · have hE : inE c i out t = ((0, 0), 3) := by simp [inE, h1, h2]
      rw [hE, h1]
      conv => whnf
      refine brk_i (fun _ => ?_) (fun h => absurd h (by simp; omega))
      conv => whnf
      exact RetA_view 0 rfl ⟨⟨rfl, rfl⟩, rfl⟩
  · have hE : inE c i out t = ((0, 0), lookE c (goE c out (badAt c i))) := by simp [inE, h1]
    rw [hE, if_neg h1]
    conv => whnf
    refine brk_i (fun _ => ?_) (fun h => absurd h (by simpa using h1))
    conv => whnf
    exact RetA_view 0 rfl ⟨⟨rfl, rfl⟩, rfl⟩
end Go.PX
