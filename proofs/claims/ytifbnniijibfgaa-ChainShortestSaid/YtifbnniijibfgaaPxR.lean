import Derived.Test.YtifbnniijibfgaaPxQ
set_option linter.all false
set_option maxRecDepth 10000
namespace Go.PX
open Go.Proofs

/-- The first one with an error, and the error; behind the ones before it. -/
def firstE {α : Type} (f : List α → α → Int) : List α → List α → Int → Int × Int
  | _, [], _ => (0, 0)
  | b, x :: r, i => if f b x = 0 then firstE f (b ++ [x]) r (i + 1) else (i, f b x)

def shotE (b : List Shot) (x : Shot) : Int := if nameF x.name then (if b.any (fun y => decide (y.name = x.name)) then 5 else checkF x) else 6
def lastR (b : List Row) : Row := b.getLast?.getD ⟨0, 0⟩
def rowE (b : List Row) (r : Row) : Int :=
  if inB r.scope 1 200 && inB r.holds 1 1000 then (if r.scope ≤ (lastR b).scope ∨ r.holds ≤ (lastR b).holds then 2 else 0) else 7
def weatherE (_ : List Weather) (w : Weather) : Int :=
  if inB w.depth.lo 1 1000 && inB w.depth.hi 1 1000 && (inB w.wind.lo 0 80 && inB w.wind.hi 0 80 && (inB w.current.lo 0 80 && inB w.current.hi 0 80 && (inB w.swell.lo 0 150 && inB w.swell.hi 0 150))) then
    (if w.depth.lo > w.depth.hi ∨ w.wind.lo > w.wind.hi ∨ w.current.lo > w.current.hi ∨ w.swell.lo > w.swell.hi then 2 else 0) else 7

def restE (c : Case) : Int × Int × Int :=
  if inB c.ship.wind 0 10000 && (inB c.ship.current 0 10000 && inB c.ship.swell 0 10000) && inB c.ship.yaw 0 20 then
    (if inB c.day 0 40000 then
      (if c.chain.shots.any (fun s => decide (s.set > c.day)) then (5, 0, 2) else
        (if inB c.weathers.length 1 6 then
          (let p := firstE weatherE [] c.weathers 0
           if p.2 = 0 then (0, 0, 0) else (6, p.1, p.2))
        else (6, 0, 3)))
    else (5, 0, 7))
  else (4, 0, 7)

def rowsE (c : Case) : Int × Int × Int :=
  let p := firstE rowE [] c.chain.rows 0
  if p.2 = 0 then restE c else (3, p.1, p.2)

def checkC (c : Case) : Int × Int × Int :=
  if plainF c.chain = 0 then
    (let p := firstE shotE [] c.chain.shots 0
     if p.2 = 0 then rowsE c else (2, p.1, p.2))
  else (1, 0, plainF c.chain)

def tri (p : Int × Int × Int) : D := .tup [i64 p.1, i64 p.2.1, i64 p.2.2]

theorem fn53_4 (a b c d e f g h : Int) : FnV Try.prog 53 [.vs [[i64 a, i64 b], [i64 c, i64 d], [i64 e, i64 f], [i64 g, i64 h]]] (.bool (decide (a > b) || (decide (c > d) || (decide (e > f) || decide (g > h))))) :=
  FnV.cast (fn53 [⟨a, b⟩, ⟨c, d⟩, ⟨e, f⟩, ⟨g, h⟩] (by simp)) (by simp)

theorem any_take {l : List Shot} {i : Nat} {p : Shot → Bool} {q : Bool} (h : (l.take i).any p = q) : (((l.map Shot.cells).take i).drop 0) = ((l.take i).map Shot.cells) := by simp

theorem plain_lens {c : Chain} (h : plainF c = 0) : c.shots.length ≤ 7 ∧ c.rows.length ≤ 6 := by
  unfold plainF inB at h
  split at h
  · rename_i h1
    simp only [Bool.and_eq_true, decide_eq_true_eq] at h1
    omega
  · cases h

theorem restE_end {c : Case} (h1 : (inB c.ship.wind 0 10000 && (inB c.ship.current 0 10000 && inB c.ship.swell 0 10000)) = true) (h2 : inB c.ship.yaw 0 20 = true) (h3 : inB c.day 0 40000 = true) (h4 : (c.chain.shots.any fun s => decide (s.set > c.day)) = false) (h5 : inB c.weathers.length 1 6 = true) :
    restE c = (if (firstE weatherE [] c.weathers 0).2 = 0 then (0, 0, 0) else (6, (firstE weatherE [] c.weathers 0).1, (firstE weatherE [] c.weathers 0).2)) := by
  simp [restE, h1, h2, h3, h4, h5]

theorem fn13 (c : Case) : FnV Try.prog 13 [c.d] (tri (checkC c)) := by
  refine fnV_of mixed tysOk Try.func13 rfl (ft := ft13) 1 (by decide +kernel) (by rfl) fun {σ} Y st => ?_
  conv => whnf
  refine CallA_v (fn46 c.chain) rfl rfl ?_
  conv => whnf
  refine brk_i (fun h0 => ?_) (fun h0 => ?_)
  · conv => whnf
    refine RetA_view 0 rfl ⟨⟨?_, rfl⟩, rfl⟩
    have h0 : plainF c.chain ≠ 0 := by simpa using h0
    simp [checkC, h0, tri, packD]
  have h0 : plainF c.chain = 0 := by simpa using h0
  obtain ⟨hl1, hl2⟩ := plain_lens h0
  conv => whnf
  have hE : checkC c = (if (firstE shotE [] c.chain.shots 0).2 = 0 then rowsE c else (2, (firstE shotE [] c.chain.shots 0).1, (firstE shotE [] c.chain.shots 0).2)) := by simp [checkC, h0]
  rw [hE]
  refine LoopA_i (T := tys) tysOk (by exact drawsB_spec mixed tysOk (by decide +kernel)) c.chain.shots (fun i (_ : Unit) => ⟨[(1, .ptr 1 0), (20, .d (shotsD c.chain.shots)), (21, .d (i64 c.chain.shots.length)), (22, .d (i64 i))], [(1, .box (.dd c.cells))], st⟩) (fun i r _ => firstE shotE [] c.chain.shots 0 = firstE shotE (c.chain.shots.take i) r i) ()
    (Wk.sub ⟨(by first | rfl | (simp only [List.length_map]; rfl) | simp [PX.get]), (by first | rfl | (simp only [List.length_map]; rfl) | simp [PX.get]), (by first | rfl | (simp only [List.length_map]; rfl) | simp [PX.get]), (by first | rfl | (simp only [List.length_map]; rfl) | simp [PX.get]), trivial⟩ ⟨(by first | rfl | (simp only [List.length_map]; rfl) | simp [PX.get]), trivial⟩) rfl ?_ ?_
  · intro i x r _ hx hi hr he
    rw [firstE] at he
    have htk : c.chain.shots.take (i + 1) = c.chain.shots.take i ++ [x] := by rw [List.take_succ, hx]; rfl
    conv => whnf
    refine brk_i (fun _ => ?_) (fun h => absurd hi (by simpa using h))
    conv => whnf
    refine elemK_nat hx ?_
    conv => whnf
    refine CallA_v (fn47 x.name) rfl rfl ?_
    conv => whnf
    refine brk_i (fun h1 => ?_) (fun h1 => ?_)
    · conv => whnf
      refine RetA_view 0 rfl ⟨⟨?_, rfl⟩, rfl⟩
      have h1 : nameF x.name = false := by simpa using h1
      rw [he]
      simp [shotE, h1, packD, tri]
    have h1 : nameF x.name = true := by simpa using h1
    conv => whnf
    refine chk_i (by simp; omega) ?_
    conv => whnf
    refine chk_i (by cases c.chain.shots <;> rfl) ?_
    conv => whnf
    refine CallA_view (ds := [shotsD (c.chain.shots.take i), .clo 49 [.ref x.cells]]) (fn48 (c.chain.shots.take i) 49 [.ref x.cells] (fun y => decide (y.name = x.name)) (by simp; omega) fun y _ => fn49 y x) rfl 1 (by show some _ = some _; simp [shotsD, List.map_take]; rfl) ?_
    conv => whnf
    refine brk_i (fun h2 => ?_) (fun h2 => ?_)
    · conv => whnf
      refine RetA_view 0 rfl ⟨⟨?_, rfl⟩, rfl⟩
      rw [he]
      simp [shotE, h1, h2, packD, tri]
    conv => whnf
    refine CallA_v (fn50 x 0) rfl rfl ?_
    conv => whnf
    refine brk_i (fun h3 => ?_) (fun h3 => ?_)
    · conv => whnf
      refine RetA_view 0 rfl ⟨⟨?_, rfl⟩, rfl⟩
      have h3 : checkF x ≠ 0 := by simpa using h3
      rw [he]
      simp [shotE, h1, h2, h3, packD, tri]
    have h3 : checkF x = 0 := by simpa using h3
    conv => whnf
    refine arith_in (wrap_i64 (by (try dsimp only); omega)) ?_
    conv => whnf
    have hs : shotE (c.chain.shots.take i) x = 0 := by simp [shotE, h1, h2, h3]
    rw [if_pos hs, ← htk] at he
    exact ⟨(), he, (Wk.sub ⟨(by first | rfl | (simp only [List.length_map]; rfl) | simp [PX.get]), (by first | rfl | (simp only [List.length_map]; rfl) | simp [PX.get]), (by first | rfl | (simp only [List.length_map]; rfl) | simp [PX.get]), (by first | rfl | (simp only [List.length_map]; rfl) | simp [PX.get]), trivial⟩ ⟨(by first | rfl | (simp only [List.length_map]; rfl) | simp [PX.get]), trivial⟩)⟩
  intro _ he
  rw [List.take_length, firstE] at he
  rw [he]
  simp only [if_true]
  conv => whnf
  refine brk_i (fun h => absurd h (by simp)) (fun _ => ?_)
  conv => whnf
  have hR : rowsE c = (if (firstE rowE [] c.chain.rows 0).2 = 0 then restE c else (3, (firstE rowE [] c.chain.rows 0).1, (firstE rowE [] c.chain.rows 0).2)) := rfl
  rw [hR]
  refine LoopA_i (T := tys) tysOk (by exact drawsB_spec mixed tysOk (by decide +kernel)) c.chain.rows (fun i (last : Row) => ⟨[(1, .ptr 1 0), (7, .ptr 7 0), (53, .d (rowsD c.chain.rows)), (54, .d (i64 c.chain.rows.length)), (55, .d (i64 i))], [(1, .box (.dd c.cells)), (7, .box (.dd last.cells))], st⟩) (fun i r last => last = lastR (c.chain.rows.take i) ∧ firstE rowE [] c.chain.rows 0 = firstE rowE (c.chain.rows.take i) r i) ⟨0, 0⟩
    (Wk.sub ⟨(by first | rfl | (simp only [List.length_map]; rfl) | simp [PX.get]), (by first | rfl | (simp only [List.length_map]; rfl) | simp [PX.get]), (by first | rfl | (simp only [List.length_map]; rfl) | simp [PX.get]), (by first | rfl | (simp only [List.length_map]; rfl) | simp [PX.get]), (by first | rfl | (simp only [List.length_map]; rfl) | simp [PX.get]), trivial⟩ ⟨(by first | rfl | (simp only [List.length_map]; rfl) | simp [PX.get]), (by first | rfl | (simp only [List.length_map]; rfl) | simp [PX.get]), trivial⟩) ⟨rfl, rfl⟩ ?_ ?_
  · intro i x r last hx hi hr ⟨hla, he⟩
    rw [firstE] at he
    have htk : c.chain.rows.take (i + 1) = c.chain.rows.take i ++ [x] := by rw [List.take_succ, hx]; rfl
    conv => whnf
    refine brk_i (fun _ => ?_) (fun h => absurd hi (by simpa using h))
    conv => whnf
    refine elemK_nat hx ?_
    conv => whnf
    repeat' (first
      | (refine CallA_v (fn51_1 _ _ _) rfl rfl ?_; conv => whnf)
      | (refine CallA_view (fn51_1 _ _ _) rfl 1 rfl ?_; conv => whnf)
      | (refine DrawCall_v (fn51_1 _ _ _) rfl rfl ?_; conv => whnf)
      | (refine DrawCall_view (fn51_1 _ _ _) rfl 1 rfl ?_; conv => whnf)
      | (refine arith_in (wrap_i64 (by (try dsimp only); omega)) ?_; conv => whnf)
      | (refine brk_i (fun h => ?_) (fun h => ?_) <;> conv => whnf))
    all_goals first
      | (refine RetA_view 0 rfl ⟨⟨?_, rfl⟩, rfl⟩; rw [he]; grind [rowE, packD, tri])
      | (rw [if_pos (by grind [rowE]), ← htk] at he; exact ⟨x, ⟨by rw [htk]; simp [lastR], he⟩, (Wk.sub ⟨(by first | rfl | (simp only [List.length_map]; rfl) | simp [PX.get]), (by first | rfl | (simp only [List.length_map]; rfl) | simp [PX.get]), (by first | rfl | (simp only [List.length_map]; rfl) | simp [PX.get]), (by first | rfl | (simp only [List.length_map]; rfl) | simp [PX.get]), (by first | rfl | (simp only [List.length_map]; rfl) | simp [PX.get]), trivial⟩ ⟨(by first | rfl | (simp only [List.length_map]; rfl) | simp [PX.get]), (by first | rfl | (simp only [List.length_map]; rfl) | simp [PX.get]), trivial⟩)⟩)
  intro last ⟨_, he⟩
  rw [List.take_length, firstE] at he
  rw [he]
  simp only [if_true]
  conv => whnf
  refine brk_i (fun h => absurd h (by simp)) (fun _ => ?_)
  conv => whnf
  repeat' (first
    | (refine CallA_v (fn51_1 _ _ _) rfl rfl ?_; conv => whnf)
    | (refine CallA_view (fn51_1 _ _ _) rfl 1 rfl ?_; conv => whnf)
    | (refine DrawCall_v (fn51_1 _ _ _) rfl rfl ?_; conv => whnf)
    | (refine DrawCall_view (fn51_1 _ _ _) rfl 1 rfl ?_; conv => whnf)
    | (refine CallA_v (fn51_3 _ _ _ _ _) rfl rfl ?_; conv => whnf)
    | (refine CallA_view (fn51_3 _ _ _ _ _) rfl 1 rfl ?_; conv => whnf)
    | (refine DrawCall_v (fn51_3 _ _ _ _ _) rfl rfl ?_; conv => whnf)
    | (refine DrawCall_view (fn51_3 _ _ _ _ _) rfl 1 rfl ?_; conv => whnf)
    | (refine CallA_v (fn48 c.chain.shots 52 [.ref c.cells] (fun s => decide (s.set > c.day)) (by omega) (fun y _ => fn52 y c)) rfl rfl ?_; conv => whnf)
    | (refine CallA_view (fn48 c.chain.shots 52 [.ref c.cells] (fun s => decide (s.set > c.day)) (by omega) (fun y _ => fn52 y c)) rfl 1 rfl ?_; conv => whnf)
    | (refine DrawCall_v (fn48 c.chain.shots 52 [.ref c.cells] (fun s => decide (s.set > c.day)) (by omega) (fun y _ => fn52 y c)) rfl rfl ?_; conv => whnf)
    | (refine DrawCall_view (fn48 c.chain.shots 52 [.ref c.cells] (fun s => decide (s.set > c.day)) (by omega) (fun y _ => fn52 y c)) rfl 1 rfl ?_; conv => whnf)
    | (refine arith_in (wrap_i64 (by (try dsimp only); omega)) ?_; conv => whnf)
    | (refine brk_i (fun h => ?_) (fun h => ?_) <;> conv => whnf))
  all_goals first
    | (refine RetA_view 0 rfl ⟨⟨?_, rfl⟩, rfl⟩; grind [restE, packD, tri])
    | skip
  rename_i h1 h2 h3 h4 h5
  have hw : c.weathers.length ≤ 6 := by
    have : inB (c.weathers.length : Nat) 1 6 = true := by simp_all
    simp only [inB, Bool.and_eq_true, decide_eq_true_eq] at this
    omega
  have hE : restE c = (if (firstE weatherE [] c.weathers 0).2 = 0 then (0, 0, 0) else (6, (firstE weatherE [] c.weathers 0).1, (firstE weatherE [] c.weathers 0).2)) := by
    apply restE_end <;> simp_all
  rw [hE]
  refine LoopA_i (T := tys) tysOk (by exact drawsB_spec mixed tysOk (by decide +kernel)) c.weathers (fun i (_ : Unit) => ⟨[(125, .d (weathersD c.weathers)), (126, .d (i64 c.weathers.length)), (127, .d (i64 i))], [], st⟩) (fun i r _ => firstE weatherE [] c.weathers 0 = firstE weatherE (c.weathers.take i) r i) ()
    (Wk.sub ⟨(by first | rfl | (simp only [List.length_map]; rfl) | simp [PX.get]), (by first | rfl | (simp only [List.length_map]; rfl) | simp [PX.get]), (by first | rfl | (simp only [List.length_map]; rfl) | simp [PX.get]), trivial⟩ trivial) rfl ?_ ?_
  · intro i x r _ hx hi hr he
    rw [firstE] at he
    have htk : c.weathers.take (i + 1) = c.weathers.take i ++ [x] := by rw [List.take_succ, hx]; rfl
    conv => whnf
    refine brk_i (fun _ => ?_) (fun h => absurd hi (by simpa using h))
    conv => whnf
    refine elemK_nat hx ?_
    conv => whnf
    repeat' (first
      | (refine CallA_v (fn51_2 _ _ _ _) rfl rfl ?_; conv => whnf)
      | (refine CallA_view (fn51_2 _ _ _ _) rfl 1 rfl ?_; conv => whnf)
      | (refine DrawCall_v (fn51_2 _ _ _ _) rfl rfl ?_; conv => whnf)
      | (refine DrawCall_view (fn51_2 _ _ _ _) rfl 1 rfl ?_; conv => whnf)
      | (refine CallA_v (fn53_4 _ _ _ _ _ _ _ _) rfl rfl ?_; conv => whnf)
      | (refine CallA_view (fn53_4 _ _ _ _ _ _ _ _) rfl 1 rfl ?_; conv => whnf)
      | (refine DrawCall_v (fn53_4 _ _ _ _ _ _ _ _) rfl rfl ?_; conv => whnf)
      | (refine DrawCall_view (fn53_4 _ _ _ _ _ _ _ _) rfl 1 rfl ?_; conv => whnf)
      | (refine arith_in (wrap_i64 (by (try dsimp only); omega)) ?_; conv => whnf)
      | (refine brk_i (fun h => ?_) (fun h => ?_) <;> conv => whnf))
    all_goals first
      | (refine RetA_view 0 rfl ⟨⟨?_, rfl⟩, rfl⟩; rw [he]; grind [weatherE, packD, tri])
      | (rw [if_pos (by grind [weatherE]), ← htk] at he; exact ⟨(), he, (Wk.sub ⟨(by first | rfl | (simp only [List.length_map]; rfl) | simp [PX.get]), (by first | rfl | (simp only [List.length_map]; rfl) | simp [PX.get]), (by first | rfl | (simp only [List.length_map]; rfl) | simp [PX.get]), trivial⟩ trivial)⟩)
  · intro _ he
    rw [List.take_length, firstE] at he
    rw [he]
    conv => whnf
    refine brk_i (fun h => absurd h (by simp)) (fun _ => ?_)
    conv => whnf
    exact RetA_view 0 rfl ⟨⟨rfl, rfl⟩, rfl⟩
end Go.PX

namespace Go.PX
open Go.Proofs

theorem spread_one (lo hi : Int) (s : Span) : spread lo hi [s] 0 = if inB s.lo lo hi && inB s.hi lo hi then (if s.lo > s.hi then 2 else 0) else 7 := by
  simp [spread]

theorem gaugesF_some (set : Int) : ∀ (d : Int) (l : List Gauge), gaugesF set (some d) l = gaugesL set d l
  | d, [] => rfl
  | d, g :: r => by
    simp only [gaugesF, gaugesL, gaugesF_some set g.day r, decide_eq_true_eq]

theorem gaugesF_none (set : Int) : ∀ (l : List Gauge), gaugesF set none l = gaugesL set set l
  | [] => rfl
  | g :: r => by
    simp only [gaugesF, gaugesL, gaugesF_some set g.day r]
    by_cases h : (inB g.day set 40000 && inB g.shown 0 60000) = true
    · have : ¬ g.day < set := by
        simp only [inB, Bool.and_eq_true, decide_eq_true_eq] at h; omega
      simp [h, this]
    · simp [h]

theorem shotF_eq (s : Shot) : shotF s = checkF s := by
  unfold shotF checkF
  rw [spread_one, spread_one, gaugesF_none]
  grind

theorem weatherF_eq (b : List Weather) (w : Weather) : weatherF w = weatherE b w := by
  unfold weatherF weatherErrs weatherE
  simp only [worstErr, spread_one]
  grind

theorem shotE_eq (b : List Shot) (x : Shot) : shotE b x = if freshF x.name (b.map (·.name)) = 0 then shotF x else freshF x.name (b.map (·.name)) := by
  rw [shotF_eq]
  unfold shotE freshF
  simp only [List.any_map]
  have : ((fun y => decide (y = x.name)) ∘ fun s : Shot => s.name) = fun y : Shot => decide (y.name = x.name) := rfl
  rw [this]
  grind

/-- The part, the index and the error of a chain. -/
def chainE (c : Chain) : Int × Int × Int :=
  if plainF c = 0 then
    (let p := firstE shotE [] c.shots 0
     if p.2 = 0 then (let p := firstE rowE [] c.rows 0
      if p.2 = 0 then (0, 0, 0) else (3, p.1, p.2)) else (2, p.1, p.2))
  else (1, 0, plainF c)

theorem plainF_alt (c : Chain) : plainF c = if inB c.shots.length 1 7 && inB c.rows.length 1 6 then (if inB c.long 1 50 && (inB c.heavy 0 200 && inB c.err 0 2000) then spread 0 200000 [c.hold] 0 else 7) else 3 := by
  unfold plainF
  rw [spread_one]
  grind

theorem lastR_take {l : List Row} {i : Nat} {p : Row} (hi : i ≠ 0) (h : l[i - 1]? = some p) : lastR (l.take i) = p := by
  have : i = (i - 1) + 1 := by omega
  rw [this, List.take_succ, h]
  simp [lastR]

theorem prev_elem {l : List Row} {i : Nat} {p : Row} (hi : i ≠ 0) (h : l[i - 1]? = some p) : 0 ≤ (i : Int) - 1 ∧ (l.map Row.cells)[((i : Int) - 1).toNat]? = some p.cells := by
  have : ((i : Int) - 1).toNat = i - 1 := by omega
  rw [this]
  exact ⟨by omega, by simp [h]⟩

theorem fn54 (c : Chain) : FnV Try.prog 54 [c.d] (tri (chainE c)) := by
  refine fnV_of mixed tysOk Try.func54 rfl (ft := ft54) 1 (by decide +kernel) (by rfl) fun {σ} Y st => ?_
  conv => whnf
  repeat' (first
    | (refine CallA_v (fn55 _ _ _) rfl rfl ?_; conv => whnf)
    | (refine CallA_view (fn55 _ _ _) rfl 1 rfl ?_; conv => whnf)
    | (refine DrawCall_v (fn55 _ _ _) rfl rfl ?_; conv => whnf)
    | (refine DrawCall_view (fn55 _ _ _) rfl 1 rfl ?_; conv => whnf)
    | (refine CallA_v (fn90 c.hold 0 200000) rfl rfl ?_; conv => whnf)
    | (refine CallA_view (fn90 c.hold 0 200000) rfl 1 rfl ?_; conv => whnf)
    | (refine DrawCall_v (fn90 c.hold 0 200000) rfl rfl ?_; conv => whnf)
    | (refine DrawCall_view (fn90 c.hold 0 200000) rfl 1 rfl ?_; conv => whnf)
    | (refine arith_in (wrap_i64 (by (try dsimp only); omega)) ?_; conv => whnf)
    | (refine brk_i (fun h => ?_) (fun h => ?_) <;> conv => whnf))
  all_goals first
    | (refine RetA_view 0 rfl ⟨⟨?_, rfl⟩, rfl⟩; rw [chainE, plainF_alt]; grind [packD, tri])
    | skip
  have h0 : plainF c = 0 := by rw [plainF_alt]; simp_all
  obtain ⟨hl1, hl2⟩ := plain_lens h0
  have hE : chainE c = (if (firstE shotE [] c.shots 0).2 = 0 then (if (firstE rowE [] c.rows 0).2 = 0 then (0, 0, 0) else (3, (firstE rowE [] c.rows 0).1, (firstE rowE [] c.rows 0).2)) else (2, (firstE shotE [] c.shots 0).1, (firstE shotE [] c.shots 0).2)) := by simp [chainE, h0]
  rw [hE]
  refine LoopA_i (T := tys) tysOk (by exact drawsB_spec mixed tysOk (by decide +kernel)) c.shots (fun i (_ : Unit) => ⟨[(1, .ptr 1 0), (6, .sl 68 1 0 i), (7, .d (i64 i))], [(1, .box (.dd c.cells)), (68, .arr 1 (.dd (((c.shots.take i).map (·.name)).map fun s => [.str s])))], st⟩) (fun i r _ => firstE shotE [] c.shots 0 = firstE shotE (c.shots.take i) r i) ()
    ((Wk.born 6 68 1 rfl rfl rfl).trans (Wk.sub ⟨(by first | rfl | (simp only [List.length_map]; rfl) | simp [PX.get]), (by first | rfl | (simp only [List.length_map]; rfl) | simp [PX.get]), (by first | rfl | (simp only [List.length_map]; rfl) | simp [PX.get]), trivial⟩ ⟨(by first | rfl | (simp only [List.length_map]; rfl) | simp [PX.get]), (by first | rfl | (simp only [List.length_map]; rfl) | simp [PX.get]), trivial⟩)) rfl ?_ ?_
  · intro i x r _ hx hi hr he
    rw [firstE] at he
    have htk : c.shots.take (i + 1) = c.shots.take i ++ [x] := by rw [List.take_succ, hx]; rfl
    have hE := shotE_eq (c.shots.take i) x
    conv => whnf
    refine brk_i (fun _ => ?_) (fun h => absurd hi (by simpa using h))
    conv => whnf
    refine elemK_nat hx ?_
    conv => whnf
    refine CallA_view (ds := [.str x.name, strsD ((c.shots.take i).map (·.name))]) (fn91 x.name ((c.shots.take i).map (·.name)) (by simp; omega)) rfl 1 (viewL_cons rfl (viewL_cons (viewV_sl rfl (by simp; omega)) rfl)) ?_
    conv => whnf
    refine elemK_nat hx ?_
    conv => whnf
    refine chk_i (by simp [Els.len]; omega) ?_
    conv => whnf
    refine chk_i (by simp [Els.len, Els.part, Els.cons, V.cells]; omega) ?_
    conv => whnf
    have hmin : min i c.shots.length = i := by omega
    generalize freshF x.name ((c.shots.take i).map (·.name)) = F at hE ⊢
    have next : ∀ {st' : St σ}, shotE (c.shots.take i) x = 0 → Wk st' ⟨[(1, .ptr 1 0), (6, .sl 68 1 0 (i + 1)), (7, .d (i64 (i + 1 : Nat)))], [(1, .box (.dd c.cells)), (68, .arr 1 (.dd (((c.shots.take i).map (·.name)).map (fun s => [D.str s]) ++ [[.str x.name]])))], st⟩ →
        ∃ acc' : Unit, firstE shotE [] c.shots 0 = firstE shotE (c.shots.take (i + 1)) r ((i + 1 : Nat) : Int) ∧ Wk st' ⟨[(1, .ptr 1 0), (6, .sl 68 1 0 (i + 1)), (7, .d (i64 (i + 1 : Nat)))], [(1, .box (.dd c.cells)), (68, .arr 1 (.dd (((c.shots.take (i + 1)).map (·.name)).map fun s => [.str s])))], st⟩ := by
      intro st' hs hw
      rw [if_pos hs, ← htk] at he
      refine ⟨(), he, ?_⟩
      rw [htk]
      simpa using hw
    refine brk_i (fun h2 => ?_) (fun h2 => ?_)
    · have h2 : F = 0 := by simpa using h2
      rw [if_pos h2] at hE
      conv => whnf
      refine elemK_nat hx ?_
      conv => whnf
      refine CallA_v (fn92 x) rfl rfl ?_
      conv => whnf
      refine brk_i (fun h3 => ?_) (fun h3 => ?_)
      · have h3 : shotF x ≠ 0 := by simpa using h3
        conv => whnf
        refine RetA_view 0 rfl ⟨⟨?_, rfl⟩, rfl⟩
        rw [he, hE]
        simp [h3, packD, tri]
      · have h3 : shotF x = 0 := by simpa using h3
        conv => whnf
        refine arith_in (wrap_i64 (by (try dsimp only); omega)) ?_
        conv => whnf
        exact next (by rw [hE, h3]) (Wk.sub ⟨rfl, by simp [PX.get, Els.len, Els.part, Els.cons, V.cells, hmin], rfl, trivial⟩ ⟨rfl, by simp [PX.get, Els.app, Els.part, Els.cons, V.cells, hmin, List.take_take], trivial⟩)
    · have h2 : F ≠ 0 := by simpa using h2
      rw [if_neg h2] at hE
      conv => whnf
      refine brk_i (fun h3 => ?_) (fun h3 => absurd h2 (by simpa using h3))
      conv => whnf
      refine RetA_view 0 rfl ⟨⟨?_, rfl⟩, rfl⟩
      rw [he, hE]
      simp [h2, packD, tri]
  intro _ he
  rw [List.take_length, firstE] at he
  rw [he]
  simp only [if_true]
  conv => whnf
  refine brk_i (fun h => absurd h (by simp)) (fun _ => ?_)
  conv => whnf
  refine LoopA_i (T := tys) tysOk (by exact drawsB_spec mixed tysOk (by decide +kernel)) c.rows (fun i (_ : Unit) => ⟨[(1, .ptr 1 0), (9, .d (i64 i))], [(1, .box (.dd c.cells))], st⟩) (fun i r _ => firstE rowE [] c.rows 0 = firstE rowE (c.rows.take i) r i) ()
    (Wk.sub ⟨(by first | rfl | (simp only [List.length_map]; rfl) | simp [PX.get]), (by first | rfl | (simp only [List.length_map]; rfl) | simp [PX.get]), trivial⟩ ⟨(by first | rfl | (simp only [List.length_map]; rfl) | simp [PX.get]), trivial⟩) rfl ?_ ?_
  · intro i x r _ hx hi hr he
    rw [firstE] at he
    have htk : c.rows.take (i + 1) = c.rows.take i ++ [x] := by rw [List.take_succ, hx]; rfl
    conv => whnf
    refine brk_i (fun _ => ?_) (fun h => absurd hi (by simpa using h))
    conv => whnf
    refine elemK_nat hx ?_
    conv => whnf
    repeat' (first
      | (refine CallA_v (fn55 _ _ _) rfl rfl ?_; conv => whnf)
      | (refine CallA_view (fn55 _ _ _) rfl 1 rfl ?_; conv => whnf)
      | (refine DrawCall_v (fn55 _ _ _) rfl rfl ?_; conv => whnf)
      | (refine DrawCall_view (fn55 _ _ _) rfl 1 rfl ?_; conv => whnf)
      | (refine arith_in (wrap_i64 (by (try dsimp only); omega)) ?_; conv => whnf)
      | (refine brk_i (fun h => ?_) (fun h => ?_) <;> conv => whnf))
    all_goals first
      | (refine RetA_view 0 rfl ⟨⟨?_, rfl⟩, rfl⟩; rw [he]; grind [rowE, packD, tri])
      | skip
    · rename_i k1 k2
      have hi0 : i ≠ 0 := by simp at h; omega
      have hp := List.getElem?_eq_getElem (l := c.rows) (i := i - 1) (by omega)
      generalize c.rows[i - 1] = p at hp
      have hla := lastR_take hi0 hp
      repeat' (first
        | (refine CallA_v (fn55 _ _ _) rfl rfl ?_; conv => whnf)
        | (refine CallA_view (fn55 _ _ _) rfl 1 rfl ?_; conv => whnf)
        | (refine DrawCall_v (fn55 _ _ _) rfl rfl ?_; conv => whnf)
        | (refine DrawCall_view (fn55 _ _ _) rfl 1 rfl ?_; conv => whnf)
        | (refine elemK_i p.cells (prev_elem hi0 hp) ?_; conv => whnf)
        | (refine arith_in (wrap_i64 (by (try dsimp only); omega)) ?_; conv => whnf)
        | (refine brk_i (fun h => ?_) (fun h => ?_) <;> conv => whnf))
      all_goals first
        | (refine RetA_view 0 rfl ⟨⟨?_, rfl⟩, rfl⟩; rw [he]; grind [rowE, packD, tri])
        | (rw [if_pos (by grind [rowE]), ← htk] at he; exact ⟨(), he, (Wk.sub ⟨(by first | rfl | (simp only [List.length_map]; rfl) | simp [PX.get]), (by first | rfl | (simp only [List.length_map]; rfl) | simp [PX.get]), trivial⟩ ⟨(by first | rfl | (simp only [List.length_map]; rfl) | simp [PX.get]), trivial⟩)⟩)
    · rename_i k1 k2
      have hi0 : i = 0 := by simp at h; omega
      subst hi0
      rw [if_pos (by simp [rowE, lastR]; simp [inB] at k1 k2; simp [inB, k1, k2]; omega), ← htk] at he
      exact ⟨(), he, (Wk.sub ⟨(by first | rfl | (simp only [List.length_map]; rfl) | simp [PX.get]), (by first | rfl | (simp only [List.length_map]; rfl) | simp [PX.get]), trivial⟩ ⟨(by first | rfl | (simp only [List.length_map]; rfl) | simp [PX.get]), trivial⟩)⟩
  · intro _ he
    rw [List.take_length, firstE] at he
    rw [he]
    conv => whnf
    refine brk_i (fun h => absurd h (by simp)) (fun _ => ?_)
    conv => whnf
    exact RetA_view 0 rfl ⟨⟨rfl, rfl⟩, rfl⟩
end Go.PX

namespace Go.PX
open Go.Proofs

theorem checkC_alt (c : Case) : checkC c = if (chainE c.chain).2.2 = 0 then restE c else chainE c.chain := by
  unfold checkC chainE rowsE
  by_cases h0 : plainF c.chain = 0
  · simp only [h0, if_true]
    grind
  · simp [h0]

theorem chainE_lens {c : Chain} (h : (chainE c).2.2 = 0) : c.shots.length ≤ 7 ∧ c.rows.length ≤ 6 := by
  apply plain_lens
  unfold chainE at h
  by_cases h0 : plainF c = 0
  · exact h0
  · rw [if_neg h0] at h; exact h

theorem fn14 (c : Case) : FnV Try.prog 14 [c.d] (tri (checkC c)) := by
  refine fnV_of mixed tysOk Try.func14 rfl (ft := ft14) 1 (by decide +kernel) (by rfl) fun {σ} Y st => ?_
  conv => whnf
  refine CallA_v (ds := [c.chain.d]) (fn54 c.chain) rfl rfl ?_
  rw [checkC_alt]
  have hlen := chainE_lens (c := c.chain)
  generalize chainE c.chain = q at hlen ⊢
  obtain ⟨q1, q2, q3⟩ := q
  conv => whnf
  refine brk_i (fun h0 => ?_) (fun h0 => ?_)
  · conv => whnf
    refine RetA_view 0 rfl ⟨⟨?_, rfl⟩, rfl⟩
    have h0 : q3 ≠ 0 := by simpa using h0
    simp [h0, packD, tri]
  have h0 : q3 = 0 := by simpa using h0
  rw [if_pos h0]
  obtain ⟨hl1, hl2⟩ := hlen h0
  conv => whnf
  repeat' (first
    | (refine CallA_v (fn55 _ _ _) rfl rfl ?_; conv => whnf)
    | (refine CallA_view (fn55 _ _ _) rfl 1 rfl ?_; conv => whnf)
    | (refine DrawCall_v (fn55 _ _ _) rfl rfl ?_; conv => whnf)
    | (refine DrawCall_view (fn55 _ _ _) rfl 1 rfl ?_; conv => whnf)
    | (refine arith_in (wrap_i64 (by (try dsimp only); omega)) ?_; conv => whnf)
    | (refine brk_i (fun h => ?_) (fun h => ?_) <;> conv => whnf))
  all_goals first
    | (refine RetA_view 0 rfl ⟨⟨?_, rfl⟩, rfl⟩; grind [restE, packD, tri])
    | skip
  refine LoopA_i (T := tys) tysOk (by exact drawsB_spec mixed tysOk (by decide +kernel)) c.chain.shots (fun i (_ : Unit) => ⟨[(1, .ptr 1 0), (9, .d (i64 i))], [(1, .box (.dd c.cells))], st⟩) (fun i r _ => (c.chain.shots.any fun s => decide (s.set > c.day)) = r.any fun s => decide (s.set > c.day)) ()
    (Wk.sub ⟨(by first | rfl | (simp only [List.length_map]; rfl) | simp [PX.get]), (by first | rfl | (simp only [List.length_map]; rfl) | simp [PX.get]), trivial⟩ ⟨(by first | rfl | (simp only [List.length_map]; rfl) | simp [PX.get]), trivial⟩) rfl ?_ ?_
  · intro i x r _ hx hi hr he
    rw [List.any_cons] at he
    conv => whnf
    refine brk_i (fun _ => ?_) (fun h => absurd hi (by simpa using h))
    conv => whnf
    refine elemK_nat hx ?_
    conv => whnf
    refine brk_i (fun h1 => ?_) (fun h1 => ?_)
    · conv => whnf
      refine RetA_view 0 rfl ⟨⟨?_, rfl⟩, rfl⟩
      have h1 : x.set > c.day := by simpa using h1
      rw [decide_eq_true h1, Bool.true_or] at he
      simp_all [restE, packD, tri]
    · conv => whnf
      refine arith_in (wrap_i64 (by (try dsimp only); omega)) ?_
      conv => whnf
      have h1 : ¬ x.set > c.day := by simpa using h1
      rw [decide_eq_false h1, Bool.false_or] at he
      exact ⟨(), he, (Wk.sub ⟨(by first | rfl | (simp only [List.length_map]; rfl) | simp [PX.get]), (by first | rfl | (simp only [List.length_map]; rfl) | simp [PX.get]), trivial⟩ ⟨(by first | rfl | (simp only [List.length_map]; rfl) | simp [PX.get]), trivial⟩)⟩
  intro _ hany
  replace hany : (c.chain.shots.any fun s => decide (s.set > c.day)) = false := hany
  conv => whnf
  refine brk_i (fun h => absurd h (by simp)) (fun _ => ?_)
  conv => whnf
  repeat' (first
    | (refine CallA_v (fn55 _ _ _) rfl rfl ?_; conv => whnf)
    | (refine CallA_view (fn55 _ _ _) rfl 1 rfl ?_; conv => whnf)
    | (refine DrawCall_v (fn55 _ _ _) rfl rfl ?_; conv => whnf)
    | (refine DrawCall_view (fn55 _ _ _) rfl 1 rfl ?_; conv => whnf)
    | (refine arith_in (wrap_i64 (by (try dsimp only); omega)) ?_; conv => whnf)
    | (refine brk_i (fun h => ?_) (fun h => ?_) <;> conv => whnf))
  all_goals first
    | (refine RetA_view 0 rfl ⟨⟨?_, rfl⟩, rfl⟩; rw [restE, hany]; grind [packD, tri])
    | skip
  have hw : c.weathers.length ≤ 6 := by
    have : inB (c.weathers.length : Nat) 1 6 = true := by simp_all
    simp only [inB, Bool.and_eq_true, decide_eq_true_eq] at this
    omega
  have hE : restE c = (if (firstE weatherE [] c.weathers 0).2 = 0 then (0, 0, 0) else (6, (firstE weatherE [] c.weathers 0).1, (firstE weatherE [] c.weathers 0).2)) := by
    refine restE_end ?_ ?_ ?_ hany ?_ <;> simp_all
  rw [hE]
  refine LoopA_i (T := tys) tysOk (by exact drawsB_spec mixed tysOk (by decide +kernel)) c.weathers (fun i (_ : Unit) => ⟨[(1, .ptr 1 0), (10, .d (i64 i))], [(1, .box (.dd c.cells))], st⟩) (fun i r _ => firstE weatherE [] c.weathers 0 = firstE weatherE (c.weathers.take i) r i) ()
    (Wk.sub ⟨(by first | rfl | (simp only [List.length_map]; rfl) | simp [PX.get]), (by first | rfl | (simp only [List.length_map]; rfl) | simp [PX.get]), trivial⟩ ⟨(by first | rfl | (simp only [List.length_map]; rfl) | simp [PX.get]), trivial⟩) rfl ?_ ?_
  · intro i x r _ hx hi hr he
    rw [firstE, ← weatherF_eq] at he
    have htk : c.weathers.take (i + 1) = c.weathers.take i ++ [x] := by rw [List.take_succ, hx]; rfl
    conv => whnf
    refine brk_i (fun _ => ?_) (fun h => absurd hi (by simpa using h))
    conv => whnf
    refine elemK_nat hx ?_
    conv => whnf
    refine CallA_v (fn56 x) rfl rfl ?_
    conv => whnf
    refine brk_i (fun h1 => ?_) (fun h1 => ?_)
    · conv => whnf
      refine RetA_view 0 rfl ⟨⟨?_, rfl⟩, rfl⟩
      have h1 : weatherF x ≠ 0 := by simpa using h1
      rw [he]
      simp [h1, packD, tri]
    · conv => whnf
      refine arith_in (wrap_i64 (by (try dsimp only); omega)) ?_
      conv => whnf
      have h1 : weatherF x = 0 := by simpa using h1
      rw [if_pos h1, ← htk] at he
      exact ⟨(), he, (Wk.sub ⟨(by first | rfl | (simp only [List.length_map]; rfl) | simp [PX.get]), (by first | rfl | (simp only [List.length_map]; rfl) | simp [PX.get]), trivial⟩ ⟨(by first | rfl | (simp only [List.length_map]; rfl) | simp [PX.get]), trivial⟩)⟩
  · intro _ he
    rw [List.take_length, firstE] at he
    rw [he]
    conv => whnf
    refine brk_i (fun h => absurd h (by simp)) (fun _ => ?_)
    conv => whnf
    exact RetA_view 0 rfl ⟨⟨rfl, rfl⟩, rfl⟩
end Go.PX
