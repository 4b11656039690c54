import Derived.Test.YtifbnniijibfgaaPxI
import Derived.Test.YtifbnniijibfgaaPxG
set_option linter.all false
set_option maxRecDepth 10000
namespace Go.PX
open Go.Proofs

theorem spread_one (lo hi : Int) (s : Span) : spread lo hi [s] 0 = if inB s.lo lo hi && inB s.hi lo hi then (if s.lo > s.hi then 2 else 0) else 7 := by
  simp [spread]

theorem gaugesF_some (set : Int) : ∀ (d : Int) (l : List Gauge), gaugesF set (some d) l = gaugesL set d l
  | d, [] => rfl
  | d, g :: r => by
    simp only [gaugesF, gaugesL, gaugesF_some set g.day r, decide_eq_true_eq]

theorem gaugesF_none (set : Int) : ∀ (l : List Gauge), gaugesF set none l = gaugesL set set l
  | [] => rfl
  | g :: r => by
    simp only [gaugesF, gaugesL, gaugesF_some set g.day r]
    by_cases h : (inB g.day set 40000 && inB g.shown 0 60000) = true
    · have : ¬ g.day < set := by
        simp only [inB, Bool.and_eq_true, decide_eq_true_eq] at h; omega
      simp [h, this]
    · simp [h]

theorem shotF_eq (s : Shot) : shotF s = checkF s := by
  unfold shotF checkF
  rw [spread_one, spread_one, gaugesF_none]
  grind

theorem weatherF_eq (b : List Weather) (w : Weather) : weatherF w = weatherE b w := by
  unfold weatherF weatherErrs weatherE
  simp only [worstErr, spread_one]
  grind

theorem shotE_eq (b : List Shot) (x : Shot) : shotE b x = if freshF x.name (b.map (·.name)) = 0 then shotF x else freshF x.name (b.map (·.name)) := by
  rw [shotF_eq]
  unfold shotE freshF
  simp only [List.any_map]
  have : ((fun y => decide (y = x.name)) ∘ fun s : Shot => s.name) = fun y : Shot => decide (y.name = x.name) := rfl
  rw [this]
  grind

/-- The part, the index and the error of a chain. -/
def chainE (c : Chain) : Int × Int × Int :=
  if plainF c = 0 then
    (let p := firstE shotE [] c.shots 0
     if p.2 = 0 then (let p := firstE rowE [] c.rows 0
      if p.2 = 0 then (0, 0, 0) else (3, p.1, p.2)) else (2, p.1, p.2))
  else (1, 0, plainF c)

theorem plainF_alt (c : Chain) : plainF c = if inB c.shots.length 1 7 && inB c.rows.length 1 6 then (if inB c.long 1 50 && (inB c.heavy 0 200 && inB c.err 0 2000) then spread 0 200000 [c.hold] 0 else 7) else 3 := by
  unfold plainF
  rw [spread_one]
  grind

theorem lastR_take {l : List Row} {i : Nat} {p : Row} (hi : i ≠ 0) (h : l[i - 1]? = some p) : lastR (l.take i) = p := by
  have : i = (i - 1) + 1 := by omega
  rw [this, List.take_succ, h]
  simp [lastR]

theorem prev_elem {l : List Row} {i : Nat} {p : Row} (hi : i ≠ 0) (h : l[i - 1]? = some p) : 0 ≤ (i : Int) - 1 ∧ (l.map Row.cells)[((i : Int) - 1).toNat]? = some p.cells := by
  have : ((i : Int) - 1).toNat = i - 1 := by omega
  rw [this]
  exact ⟨by omega, by simp [h]⟩

theorem fn54 (c : Chain) : FnV Try.prog 54 [c.d] (tri (chainE c)) := by
  refine fnV_of mixed tysOk Try.func54 rfl (ft := ft54) 1 (by decide +kernel) (by rfl) fun {σ} Y st => ?_
  conv => whnf
  repeat' (first
    | (refine CallA_v (fn55 _ _ _) rfl rfl ?_; conv => whnf)
    | (refine CallA_view (fn55 _ _ _) rfl 1 rfl ?_; conv => whnf)
    | (refine DrawCall_v (fn55 _ _ _) rfl rfl ?_; conv => whnf)
    | (refine DrawCall_view (fn55 _ _ _) rfl 1 rfl ?_; conv => whnf)
    | (refine CallA_v (fn90 c.hold 0 200000) rfl rfl ?_; conv => whnf)
    | (refine CallA_view (fn90 c.hold 0 200000) rfl 1 rfl ?_; conv => whnf)
    | (refine DrawCall_v (fn90 c.hold 0 200000) rfl rfl ?_; conv => whnf)
    | (refine DrawCall_view (fn90 c.hold 0 200000) rfl 1 rfl ?_; conv => whnf)
    | (refine arith_in (wrap_i64 (by (try dsimp only); omega)) ?_; conv => whnf)
    | (refine brk_i (fun h => ?_) (fun h => ?_) <;> conv => whnf))
  all_goals first
    | (refine RetA_view 0 rfl ⟨⟨?_, rfl⟩, rfl⟩; rw [chainE, plainF_alt]; grind [packD, tri])
    | skip
  have h0 : plainF c = 0 := by rw [plainF_alt]; simp_all
  obtain ⟨hl1, hl2⟩ := plain_lens h0
  have hE : chainE c = (if (firstE shotE [] c.shots 0).2 = 0 then (if (firstE rowE [] c.rows 0).2 = 0 then (0, 0, 0) else (3, (firstE rowE [] c.rows 0).1, (firstE rowE [] c.rows 0).2)) else (2, (firstE shotE [] c.shots 0).1, (firstE shotE [] c.shots 0).2)) := by simp [chainE, h0]
  rw [hE]
  refine LoopA_i (T := tys) tysOk (by exact drawsB_spec mixed tysOk (by decide +kernel)) c.shots (fun i (_ : Unit) => ⟨[(1, .ptr 1 0), (6, .sl 68 1 0 i), (7, .d (i64 i))], [(1, .box (.dd c.cells)), (68, .arr 1 (.dd (((c.shots.take i).map (·.name)).map fun s => [.str s])))], st⟩) (fun i r _ => firstE shotE [] c.shots 0 = firstE shotE (c.shots.take i) r i) ()
    ((Wk.born 6 68 1 rfl rfl rfl).trans (Wk.sub ⟨(by first | rfl | (simp only [List.length_map]; rfl) | simp [PX.get]), (by first | rfl | (simp only [List.length_map]; rfl) | simp [PX.get]), (by first | rfl | (simp only [List.length_map]; rfl) | simp [PX.get]), trivial⟩ ⟨(by first | rfl | (simp only [List.length_map]; rfl) | simp [PX.get]), (by first | rfl | (simp only [List.length_map]; rfl) | simp [PX.get]), trivial⟩)) rfl ?_ ?_
  · intro i x r _ hx hi hr he
    rw [firstE] at he
    have htk : c.shots.take (i + 1) = c.shots.take i ++ [x] := by rw [List.take_succ, hx]; rfl
    have hE := shotE_eq (c.shots.take i) x
    conv => whnf
    refine brk_i (fun _ => ?_) (fun h => absurd hi (by simpa using h))
    conv => whnf
    refine elemK_nat hx ?_
    conv => whnf
    refine CallA_view (ds := [.str x.name, strsD ((c.shots.take i).map (·.name))]) (fn91 x.name ((c.shots.take i).map (·.name)) (by simp; omega)) rfl 1 (viewL_cons rfl (viewL_cons (viewV_sl rfl (by simp; omega)) rfl)) ?_
    conv => whnf
    refine elemK_nat hx ?_
    conv => whnf
    refine ownK_whole rfl ?_
    conv => whnf
    refine ownK.mk (by simp [Els.len]; omega) ?_
    conv => whnf
    refine chk_i (by simp [Els.len, Els.part, Els.cons, V.cells]; omega) ?_
    conv => whnf
    have hmin : min i c.shots.length = i := by omega
    generalize freshF x.name ((c.shots.take i).map (·.name)) = F at hE ⊢
    have next : ∀ {st' : St σ}, shotE (c.shots.take i) x = 0 → Wk st' ⟨[(1, .ptr 1 0), (6, .sl 68 1 0 (i + 1)), (7, .d (i64 (i + 1 : Nat)))], [(1, .box (.dd c.cells)), (68, .arr 1 (.dd (((c.shots.take i).map (·.name)).map (fun s => [D.str s]) ++ [[.str x.name]])))], st⟩ →
        ∃ acc' : Unit, firstE shotE [] c.shots 0 = firstE shotE (c.shots.take (i + 1)) r ((i + 1 : Nat) : Int) ∧ Wk st' ⟨[(1, .ptr 1 0), (6, .sl 68 1 0 (i + 1)), (7, .d (i64 (i + 1 : Nat)))], [(1, .box (.dd c.cells)), (68, .arr 1 (.dd (((c.shots.take (i + 1)).map (·.name)).map fun s => [.str s])))], st⟩ := by
      intro st' hs hw
      rw [if_pos hs, ← htk] at he
      refine ⟨(), he, ?_⟩
      rw [htk]
      simpa using hw
    refine brk_i (fun h2 => ?_) (fun h2 => ?_)
    · have h2 : F = 0 := by simpa using h2
      rw [if_pos h2] at hE
      conv => whnf
      refine elemK_nat hx ?_
      conv => whnf
      refine CallA_v (fn92 x) rfl rfl ?_
      conv => whnf
      refine brk_i (fun h3 => ?_) (fun h3 => ?_)
      · have h3 : shotF x ≠ 0 := by simpa using h3
        conv => whnf
        refine RetA_view 0 rfl ⟨⟨?_, rfl⟩, rfl⟩
        rw [he, hE]
        simp [h3, packD, tri]
      · have h3 : shotF x = 0 := by simpa using h3
        conv => whnf
        refine arith_in (wrap_i64 (by (try dsimp only); omega)) ?_
        conv => whnf
        exact next (by rw [hE, h3]) (Wk.sub ⟨rfl, by simp [PX.get, Els.len, Els.part, Els.cons, V.cells, hmin], rfl, trivial⟩ ⟨rfl, by simp [PX.get, Els.app, Els.part, Els.cons, V.cells, hmin, List.take_take], trivial⟩)
    · have h2 : F ≠ 0 := by simpa using h2
      rw [if_neg h2] at hE
      conv => whnf
      refine brk_i (fun h3 => ?_) (fun h3 => absurd h2 (by simpa using h3))
      conv => whnf
      refine RetA_view 0 rfl ⟨⟨?_, rfl⟩, rfl⟩
      rw [he, hE]
      simp [h2, packD, tri]
  intro _ he
  rw [List.take_length, firstE] at he
  rw [he]
  simp only [if_true]
  conv => whnf
  refine brk_i (fun h => absurd h (by simp)) (fun _ => ?_)
  conv => whnf
  refine LoopA_i (T := tys) tysOk (by exact drawsB_spec mixed tysOk (by decide +kernel)) c.rows (fun i (_ : Unit) => ⟨[(1, .ptr 1 0), (9, .d (i64 i))], [(1, .box (.dd c.cells))], st⟩) (fun i r _ => firstE rowE [] c.rows 0 = firstE rowE (c.rows.take i) r i) ()
    (Wk.sub ⟨(by first | rfl | (simp only [List.length_map]; rfl) | simp [PX.get]), (by first | rfl | (simp only [List.length_map]; rfl) | simp [PX.get]), trivial⟩ ⟨(by first | rfl | (simp only [List.length_map]; rfl) | simp [PX.get]), trivial⟩) rfl ?_ ?_
  · intro i x r _ hx hi hr he
    rw [firstE] at he
    have htk : c.rows.take (i + 1) = c.rows.take i ++ [x] := by rw [List.take_succ, hx]; rfl
    conv => whnf
    refine brk_i (fun _ => ?_) (fun h => absurd hi (by simpa using h))
    conv => whnf
    refine elemK_nat hx ?_
    conv => whnf
    repeat' (first
      | (refine CallA_v (fn55 _ _ _) rfl rfl ?_; conv => whnf)
      | (refine CallA_view (fn55 _ _ _) rfl 1 rfl ?_; conv => whnf)
      | (refine DrawCall_v (fn55 _ _ _) rfl rfl ?_; conv => whnf)
      | (refine DrawCall_view (fn55 _ _ _) rfl 1 rfl ?_; conv => whnf)
      | (refine arith_in (wrap_i64 (by (try dsimp only); omega)) ?_; conv => whnf)
      | (refine brk_i (fun h => ?_) (fun h => ?_) <;> conv => whnf))
    all_goals first
      | (refine RetA_view 0 rfl ⟨⟨?_, rfl⟩, rfl⟩; rw [he]; grind [rowE, packD, tri])
      | skip
    · rename_i k1 k2
      have hi0 : i ≠ 0 := by simp at h; omega
      have hp := List.getElem?_eq_getElem (l := c.rows) (i := i - 1) (by omega)
      generalize c.rows[i - 1] = p at hp
      have hla := lastR_take hi0 hp
      repeat' (first
        | (refine CallA_v (fn55 _ _ _) rfl rfl ?_; conv => whnf)
        | (refine CallA_view (fn55 _ _ _) rfl 1 rfl ?_; conv => whnf)
        | (refine DrawCall_v (fn55 _ _ _) rfl rfl ?_; conv => whnf)
        | (refine DrawCall_view (fn55 _ _ _) rfl 1 rfl ?_; conv => whnf)
        | (refine elemK_i p.cells (prev_elem hi0 hp) ?_; conv => whnf)
        | (refine arith_in (wrap_i64 (by (try dsimp only); omega)) ?_; conv => whnf)
        | (refine brk_i (fun h => ?_) (fun h => ?_) <;> conv => whnf))
      all_goals first
        | (refine RetA_view 0 rfl ⟨⟨?_, rfl⟩, rfl⟩; rw [he]; grind [rowE, packD, tri])
        | (rw [if_pos (by grind [rowE]), ← htk] at he; exact ⟨(), he, (Wk.sub ⟨(by first | rfl | (simp only [List.length_map]; rfl) | simp [PX.get]), (by first | rfl | (simp only [List.length_map]; rfl) | simp [PX.get]), trivial⟩ ⟨(by first | rfl | (simp only [List.length_map]; rfl) | simp [PX.get]), trivial⟩)⟩)
    · rename_i k1 k2
      have hi0 : i = 0 := by simp at h; omega
      subst hi0
      rw [if_pos (by simp [rowE, lastR]; simp [inB] at k1 k2; simp [inB, k1, k2]; omega), ← htk] at he
      exact ⟨(), he, (Wk.sub ⟨(by first | rfl | (simp only [List.length_map]; rfl) | simp [PX.get]), (by first | rfl | (simp only [List.length_map]; rfl) | simp [PX.get]), trivial⟩ ⟨(by first | rfl | (simp only [List.length_map]; rfl) | simp [PX.get]), trivial⟩)⟩
  · intro _ he
    rw [List.take_length, firstE] at he
    rw [he]
    conv => whnf
    refine brk_i (fun h => absurd h (by simp)) (fun _ => ?_)
    conv => whnf
    exact RetA_view 0 rfl ⟨⟨rfl, rfl⟩, rfl⟩
end Go.PX

namespace Go.PX
open Go.Proofs

theorem checkC_alt (c : Case) : checkC c = if (chainE c.chain).2.2 = 0 then restE c else chainE c.chain := by
  unfold checkC chainE rowsE
  by_cases h0 : plainF c.chain = 0
  · simp only [h0, if_true]
    grind
  · simp [h0]

theorem chainE_lens {c : Chain} (h : (chainE c).2.2 = 0) : c.shots.length ≤ 7 ∧ c.rows.length ≤ 6 := by
  apply plain_lens
  unfold chainE at h
  by_cases h0 : plainF c = 0
  · exact h0
  · rw [if_neg h0] at h; exact h

theorem fn14 (c : Case) : FnV Try.prog 14 [c.d] (tri (checkC c)) := by
  refine fnV_of mixed tysOk Try.func14 rfl (ft := ft14) 1 (by decide +kernel) (by rfl) fun {σ} Y st => ?_
  conv => whnf
  refine CallA_v (ds := [c.chain.d]) (fn54 c.chain) rfl rfl ?_
  rw [checkC_alt]
  have hlen := chainE_lens (c := c.chain)
  generalize chainE c.chain = q at hlen ⊢
  obtain ⟨q1, q2, q3⟩ := q
  conv => whnf
  refine brk_i (fun h0 => ?_) (fun h0 => ?_)
  · conv => whnf
    refine RetA_view 0 rfl ⟨⟨?_, rfl⟩, rfl⟩
    have h0 : q3 ≠ 0 := by simpa using h0
    simp [h0, packD, tri]
  have h0 : q3 = 0 := by simpa using h0
  rw [if_pos h0]
  obtain ⟨hl1, hl2⟩ := hlen h0
  conv => whnf
  repeat' (first
    | (refine CallA_v (fn55 _ _ _) rfl rfl ?_; conv => whnf)
    | (refine CallA_view (fn55 _ _ _) rfl 1 rfl ?_; conv => whnf)
    | (refine DrawCall_v (fn55 _ _ _) rfl rfl ?_; conv => whnf)
    | (refine DrawCall_view (fn55 _ _ _) rfl 1 rfl ?_; conv => whnf)
    | (refine arith_in (wrap_i64 (by (try dsimp only); omega)) ?_; conv => whnf)
    | (refine brk_i (fun h => ?_) (fun h => ?_) <;> conv => whnf))
  all_goals first
    | (refine RetA_view 0 rfl ⟨⟨?_, rfl⟩, rfl⟩; grind [restE, packD, tri])
    | skip
  refine LoopA_i (T := tys) tysOk (by exact drawsB_spec mixed tysOk (by decide +kernel)) c.chain.shots (fun i (_ : Unit) => ⟨[(1, .ptr 1 0), (9, .d (i64 i))], [(1, .box (.dd c.cells))], st⟩) (fun i r _ => (c.chain.shots.any fun s => decide (s.set > c.day)) = r.any fun s => decide (s.set > c.day)) ()
    (Wk.sub ⟨(by first | rfl | (simp only [List.length_map]; rfl) | simp [PX.get]), (by first | rfl | (simp only [List.length_map]; rfl) | simp [PX.get]), trivial⟩ ⟨(by first | rfl | (simp only [List.length_map]; rfl) | simp [PX.get]), trivial⟩) rfl ?_ ?_
  · intro i x r _ hx hi hr he
    rw [List.any_cons] at he
    conv => whnf
    refine brk_i (fun _ => ?_) (fun h => absurd hi (by simpa using h))
    conv => whnf
    refine elemK_nat hx ?_
    conv => whnf
    refine brk_i (fun h1 => ?_) (fun h1 => ?_)
    · conv => whnf
      refine RetA_view 0 rfl ⟨⟨?_, rfl⟩, rfl⟩
      have h1 : x.set > c.day := by simpa using h1
      rw [decide_eq_true h1, Bool.true_or] at he
      simp_all [restE, packD, tri]
    · conv => whnf
      refine arith_in (wrap_i64 (by (try dsimp only); omega)) ?_
      conv => whnf
      have h1 : ¬ x.set > c.day := by simpa using h1
      rw [decide_eq_false h1, Bool.false_or] at he
      exact ⟨(), he, (Wk.sub ⟨(by first | rfl | (simp only [List.length_map]; rfl) | simp [PX.get]), (by first | rfl | (simp only [List.length_map]; rfl) | simp [PX.get]), trivial⟩ ⟨(by first | rfl | (simp only [List.length_map]; rfl) | simp [PX.get]), trivial⟩)⟩
  intro _ hany
  replace hany : (c.chain.shots.any fun s => decide (s.set > c.day)) = false := hany
  conv => whnf
  refine brk_i (fun h => absurd h (by simp)) (fun _ => ?_)
  conv => whnf
  repeat' (first
    | (refine CallA_v (fn55 _ _ _) rfl rfl ?_; conv => whnf)
    | (refine CallA_view (fn55 _ _ _) rfl 1 rfl ?_; conv => whnf)
    | (refine DrawCall_v (fn55 _ _ _) rfl rfl ?_; conv => whnf)
    | (refine DrawCall_view (fn55 _ _ _) rfl 1 rfl ?_; conv => whnf)
    | (refine arith_in (wrap_i64 (by (try dsimp only); omega)) ?_; conv => whnf)
    | (refine brk_i (fun h => ?_) (fun h => ?_) <;> conv => whnf))
  all_goals first
    | (refine RetA_view 0 rfl ⟨⟨?_, rfl⟩, rfl⟩; rw [restE, hany]; grind [packD, tri])
    | skip
  have hw : c.weathers.length ≤ 6 := by
    have : inB (c.weathers.length : Nat) 1 6 = true := by simp_all
    simp only [inB, Bool.and_eq_true, decide_eq_true_eq] at this
    omega
  have hE : restE c = (if (firstE weatherE [] c.weathers 0).2 = 0 then (0, 0, 0) else (6, (firstE weatherE [] c.weathers 0).1, (firstE weatherE [] c.weathers 0).2)) := by
    refine restE_end ?_ ?_ ?_ hany ?_ <;> simp_all
  rw [hE]
  refine LoopA_i (T := tys) tysOk (by exact drawsB_spec mixed tysOk (by decide +kernel)) c.weathers (fun i (_ : Unit) => ⟨[(1, .ptr 1 0), (10, .d (i64 i))], [(1, .box (.dd c.cells))], st⟩) (fun i r _ => firstE weatherE [] c.weathers 0 = firstE weatherE (c.weathers.take i) r i) ()
    (Wk.sub ⟨(by first | rfl | (simp only [List.length_map]; rfl) | simp [PX.get]), (by first | rfl | (simp only [List.length_map]; rfl) | simp [PX.get]), trivial⟩ ⟨(by first | rfl | (simp only [List.length_map]; rfl) | simp [PX.get]), trivial⟩) rfl ?_ ?_
  · intro i x r _ hx hi hr he
    rw [firstE, ← weatherF_eq] at he
    have htk : c.weathers.take (i + 1) = c.weathers.take i ++ [x] := by rw [List.take_succ, hx]; rfl
    conv => whnf
    refine brk_i (fun _ => ?_) (fun h => absurd hi (by simpa using h))
    conv => whnf
    refine elemK_nat hx ?_
    conv => whnf
    refine CallA_v (fn56 x) rfl rfl ?_
    conv => whnf
    refine brk_i (fun h1 => ?_) (fun h1 => ?_)
    · conv => whnf
      refine RetA_view 0 rfl ⟨⟨?_, rfl⟩, rfl⟩
      have h1 : weatherF x ≠ 0 := by simpa using h1
      rw [he]
      simp [h1, packD, tri]
    · conv => whnf
      refine arith_in (wrap_i64 (by (try dsimp only); omega)) ?_
      conv => whnf
      have h1 : weatherF x = 0 := by simpa using h1
      rw [if_pos h1, ← htk] at he
      exact ⟨(), he, (Wk.sub ⟨(by first | rfl | (simp only [List.length_map]; rfl) | simp [PX.get]), (by first | rfl | (simp only [List.length_map]; rfl) | simp [PX.get]), trivial⟩ ⟨(by first | rfl | (simp only [List.length_map]; rfl) | simp [PX.get]), trivial⟩)⟩
  · intro _ he
    rw [List.take_length, firstE] at he
    rw [he]
    conv => whnf
    refine brk_i (fun h => absurd h (by simp)) (fun _ => ?_)
    conv => whnf
    exact RetA_view 0 rfl ⟨⟨rfl, rfl⟩, rfl⟩
end Go.PX

namespace Go.PX
open Go.Proofs

/-- The truths with which gaugings agree, wear by wear. -/
def truthsL (set off : Int) (new : Int × Int) (gs : List Gauge) : Nat → Int → List (Int × (Int × Int))
  | 0, _ => []
  | n + 1, wear => match fitsF set off wear new gs with
    | none => truthsL set off new gs n (wear + 1)
    | some f => (wear, f) :: truthsL set off new gs n (wear + 1)

def truthsS (s : Shot) (off : Int) (gs : List Gauge) : List (Int × (Int × Int)) := truthsL s.set off (s.new.lo, s.new.hi) gs (s.wear.hi + 1 - s.wear.lo).toNat s.wear.lo

def truthD (t : Int × (Int × Int)) : D := .agg [i64 t.1, i64 t.2.1, i64 t.2.2]

def sCells (s : Shot) (off : Int) : List D := s.cells ++ [i64 off]

/-- What is needed of a shot that is looked at. -/
structure LookOk (s : Shot) (off : Int) (gs : List Gauge) : Prop where
  off : 0 ≤ off ∧ off ≤ 1000000
  shot : ShotOk s
  gok : ∀ g ∈ gs, gaugeOk g
  len : gs.length < 1000000

theorem lost_bd {wear day set : Int} (hw : 0 ≤ wear ∧ wear ≤ 1000000) (hd : 0 ≤ day ∧ day ≤ 1000000) (hs : 0 ≤ set ∧ set ≤ 1000000) : -1000000000000 ≤ wear * (day - set) ∧ wear * (day - set) ≤ 1000000000000 := by
  have := mul_bd (a := wear) (b := day - set) 1000000 1000000 (by omega) (by omega)
  omega

theorem yields115 (s : Shot) (off : Int) (gs : List Gauge) (h : LookOk s off gs) : Yields Try.prog 115 [.ref (sCells s off), .ref [gaugesD gs]] ((truthsS s off gs).map fun t => ([.d (truthD t)], [])) := by
  intro γ Y g0 Q hit
  obtain ⟨hoff, ⟨hset, hnew, hwear⟩, hg, hlen⟩ := h
  refine fnC_of mixed tysOk Try.func115 rfl (ft := ft115) (args := [.yld, .d (.ref (sCells s off)), .d (.ref [gaugesD gs])]) (show fnB ft115 Try.f115 3 = true from by decide +kernel) ?_
  conv => whnf
  refine LoopA_p (T := tys) tysOk (by exact drawsB_spec mixed tysOk (by decide +kernel)) (α := Int × γ)
    (fun x => ⟨[(0, .yld), (1, .d (.ref (sCells s off))), (2, .d (.ref [gaugesD gs])), (4, .d (i64 x.1))], [], x.2⟩)
    (fun x => s.wear.lo ≤ x.1 ∧ x.1 ≤ max s.wear.lo (s.wear.hi + 1) ∧ iterate Y ((truthsL s.set off (s.new.lo, s.new.hi) gs (s.wear.hi + 1 - x.1).toNat x.1).map fun t => ([.d (truthD t)], [])) x.2 Q) (fun x => (s.wear.hi + 1 - x.1).toNat) (s.wear.lo, g0)
    (Wk.sub ⟨(by first | rfl | (simp only [List.length_map]; rfl) | simp [PX.get]), (by first | rfl | (simp only [List.length_map]; rfl) | simp [PX.get]), (by first | rfl | (simp only [List.length_map]; rfl) | simp [PX.get]), (by first | rfl | (simp only [List.length_map]; rfl) | simp [PX.get]), trivial⟩ trivial) ⟨by simp only; omega, by simp only; omega, hit⟩ ?_
  clear hit g0
  rintro ⟨wear, g0⟩ ⟨h1, h2, hit⟩
  simp only at h1 h2 hit
  conv => whnf
  refine brk_i (fun hb => ?_) (fun hb => ?_)
  · have hb : wear ≤ s.wear.hi := by simpa using hb
    obtain ⟨n, hn⟩ : ∃ n, (s.wear.hi + 1 - wear).toNat = n + 1 := ⟨(s.wear.hi - wear).toNat, by omega⟩
    have hn' : (s.wear.hi + 1 - (wear + 1)).toNat = n := by omega
    rw [hn, truthsL] at hit
    conv => whnf
    refine LoopA_i (T := tys) tysOk (by exact drawsB_spec mixed tysOk (by decide +kernel)) gs (fun i (p : Int × Int) => ⟨[(0, .yld), (1, .d (.ref (sCells s off))), (2, .d (.ref [gaugesD gs])), (4, .d (i64 wear)), (5, .ptr 5 0), (26, .d (gaugesD gs)), (27, .d (i64 gs.length)), (28, .d (i64 i))], [(5, .box (.dd [i64 wear, i64 p.1, i64 p.2]))], g0⟩)
      (fun i r p => (0 ≤ p.1 ∧ p.1 ≤ p.2 ∧ p.2 ≤ 1000000) ∧ (∀ g ∈ r, gaugeOk g) ∧ fitsF s.set off wear (s.new.lo, s.new.hi) gs = fitsF s.set off wear p r) (s.new.lo, s.new.hi)
      (Wk.sub ⟨(by first | rfl | (simp only [List.length_map]; rfl) | simp [PX.get]), (by first | rfl | (simp only [List.length_map]; rfl) | simp [PX.get]), (by first | rfl | (simp only [List.length_map]; rfl) | simp [PX.get]), (by first | rfl | (simp only [List.length_map]; rfl) | simp [PX.get]), (by first | rfl | (simp only [List.length_map]; rfl) | simp [PX.get]), (by first | rfl | (simp only [List.length_map]; rfl) | simp [PX.get]), (by first | rfl | (simp only [List.length_map]; rfl) | simp [PX.get]), (by first | rfl | (simp only [List.length_map]; rfl) | simp [PX.get]), trivial⟩ ⟨(by first | rfl | (simp only [List.length_map]; rfl) | simp [PX.get]), trivial⟩) ⟨by simp only; omega, hg, rfl⟩ ?_ ?_
    · rintro i x r ⟨p1, p2⟩ hx hi hr ⟨hp, hgr, he⟩
      simp only at hp
      obtain ⟨g1, g2, g3, g4⟩ := hgr x (by simp)
      have hlb := lost_bd (wear := wear) (day := x.day) (set := s.set) (by omega) (by omega) (by omega)
      rw [fitsF] at he
      simp only [fitStep] at he
      conv => whnf
      refine brk_i (fun _ => ?_) (fun h => absurd hi (by simpa using h))
      conv => whnf
      refine elemK_nat hx ?_
      conv => whnf
      refine arith_in (wrap_i64 (by (try dsimp only); omega)) ?_
      conv => whnf
      refine arith_in (wrap_i64 (by (try dsimp only); omega)) ?_
      conv => whnf
      refine brk_i (fun h3 => ?_) (fun h3 => ?_)
      · have h3 : x.shown > off := by simpa using h3
        simp only [h3, if_true] at he
        conv => whnf
        refine arith_in (wrap_i64 (by (try dsimp only); omega)) ?_
        conv => whnf
        refine arith_in (wrap_i64 (by (try dsimp only); omega)) ?_
        conv => whnf
        refine arith_in (wrap_i64 (by (try dsimp only); omega)) ?_
        conv => whnf
        refine arith_in (wrap_i64 (by (try dsimp only); omega)) ?_
        conv => whnf
        refine brk_i (fun h4 => ?_) (fun h4 => ?_)
        · have h4 : max p1 (x.shown - off + wear * (x.day - s.set)) > min p2 (x.shown + off + wear * (x.day - s.set)) := by simpa using h4
          simp only [h4, if_true] at he
          rw [he] at hit
          conv => whnf
          refine arith_in (wrap_i64 (by (try dsimp only); omega)) ?_
          conv => whnf
          exact ⟨(wear + 1, g0), by simp only; omega, ⟨by simp only; omega, by simp only; omega, by simp only; rw [hn']; exact hit⟩, (Wk.sub ⟨(by first | rfl | (simp only [List.length_map]; rfl) | simp [PX.get]), (by first | rfl | (simp only [List.length_map]; rfl) | simp [PX.get]), (by first | rfl | (simp only [List.length_map]; rfl) | simp [PX.get]), (by first | rfl | (simp only [List.length_map]; rfl) | simp [PX.get]), trivial⟩ trivial)⟩
        · have h4 : ¬ max p1 (x.shown - off + wear * (x.day - s.set)) > min p2 (x.shown + off + wear * (x.day - s.set)) := by simpa using h4
          simp only [h4, if_false] at he
          conv => whnf
          refine arith_in (wrap_i64 (by (try dsimp only); omega)) ?_
          conv => whnf
          exact ⟨(max p1 (x.shown - off + wear * (x.day - s.set)), min p2 (x.shown + off + wear * (x.day - s.set))), ⟨by simp only; omega, fun g hg => hgr g (by simp [hg]), he⟩, (Wk.sub ⟨(by first | rfl | (simp only [List.length_map]; rfl) | simp [PX.get]), (by first | rfl | (simp only [List.length_map]; rfl) | simp [PX.get]), (by first | rfl | (simp only [List.length_map]; rfl) | simp [PX.get]), (by first | rfl | (simp only [List.length_map]; rfl) | simp [PX.get]), (by first | rfl | (simp only [List.length_map]; rfl) | simp [PX.get]), (by first | rfl | (simp only [List.length_map]; rfl) | simp [PX.get]), (by first | rfl | (simp only [List.length_map]; rfl) | simp [PX.get]), (by first | rfl | (simp only [List.length_map]; rfl) | simp [PX.get]), trivial⟩ ⟨(by first | rfl | (simp only [List.length_map]; rfl) | simp [PX.get]), trivial⟩)⟩
      · have h3 : ¬ x.shown > off := by simpa using h3
        simp only [h3, if_false] at he
        conv => whnf
        refine arith_in (wrap_i64 (by (try dsimp only); omega)) ?_
        conv => whnf
        refine arith_in (wrap_i64 (by (try dsimp only); omega)) ?_
        conv => whnf
        refine brk_i (fun h4 => ?_) (fun h4 => ?_)
        · have h4 : p1 > min p2 (x.shown + off + wear * (x.day - s.set)) := by simpa using h4
          simp only [h4, if_true] at he
          rw [he] at hit
          conv => whnf
          refine arith_in (wrap_i64 (by (try dsimp only); omega)) ?_
          conv => whnf
          exact ⟨(wear + 1, g0), by simp only; omega, ⟨by simp only; omega, by simp only; omega, by simp only; rw [hn']; exact hit⟩, (Wk.sub ⟨(by first | rfl | (simp only [List.length_map]; rfl) | simp [PX.get]), (by first | rfl | (simp only [List.length_map]; rfl) | simp [PX.get]), (by first | rfl | (simp only [List.length_map]; rfl) | simp [PX.get]), (by first | rfl | (simp only [List.length_map]; rfl) | simp [PX.get]), trivial⟩ trivial)⟩
        · have h4 : ¬ p1 > min p2 (x.shown + off + wear * (x.day - s.set)) := by simpa using h4
          simp only [h4, if_false] at he
          conv => whnf
          refine arith_in (wrap_i64 (by (try dsimp only); omega)) ?_
          conv => whnf
          exact ⟨(p1, min p2 (x.shown + off + wear * (x.day - s.set))), ⟨by simp only; omega, fun g hg => hgr g (by simp [hg]), he⟩, (Wk.sub ⟨(by first | rfl | (simp only [List.length_map]; rfl) | simp [PX.get]), (by first | rfl | (simp only [List.length_map]; rfl) | simp [PX.get]), (by first | rfl | (simp only [List.length_map]; rfl) | simp [PX.get]), (by first | rfl | (simp only [List.length_map]; rfl) | simp [PX.get]), (by first | rfl | (simp only [List.length_map]; rfl) | simp [PX.get]), (by first | rfl | (simp only [List.length_map]; rfl) | simp [PX.get]), (by first | rfl | (simp only [List.length_map]; rfl) | simp [PX.get]), (by first | rfl | (simp only [List.length_map]; rfl) | simp [PX.get]), trivial⟩ ⟨(by first | rfl | (simp only [List.length_map]; rfl) | simp [PX.get]), trivial⟩)⟩
    · rintro ⟨p1, p2⟩ ⟨hp, _, he⟩
      rw [fitsF] at he
      rw [he] at hit
      simp only [List.map_cons] at hit
      conv => whnf
      refine brk_i (fun h => absurd h (by simp)) (fun _ => ?_)
      conv => whnf
      refine YldA_v (ds := [truthD (wear, (p1, p2))]) hit rfl rfl (fun s' hs' => ?_) (fun s' hs' => ?_)
      · conv => whnf
        refine arith_in (wrap_i64 (by (try dsimp only); omega)) ?_
        conv => whnf
        exact ⟨(wear + 1, s'), by simp only; omega, ⟨by simp only; omega, by simp only; omega, by simp only; rw [hn']; exact hs'⟩, (Wk.sub ⟨(by first | rfl | (simp only [List.length_map]; rfl) | simp [PX.get]), (by first | rfl | (simp only [List.length_map]; rfl) | simp [PX.get]), (by first | rfl | (simp only [List.length_map]; rfl) | simp [PX.get]), (by first | rfl | (simp only [List.length_map]; rfl) | simp [PX.get]), trivial⟩ trivial)⟩
      · conv => whnf
        exact RetA_view 0 rfl ⟨rfl, hs'⟩
  · have hb : ¬ wear ≤ s.wear.hi := by simpa using hb
    rw [show (s.wear.hi + 1 - wear).toNat = 0 by omega, truthsL] at hit
    conv => whnf
    exact RetA_view 0 rfl ⟨rfl, hit⟩

theorem fn93 (s : Shot) (off : Int) (gs : List Gauge) : FnV Try.prog 93 [.agg (sCells s off), gaugesD gs] (.clo 115 [.ref (sCells s off), .ref [gaugesD gs]]) := by
  refine fnV_of mixed tysOk Try.func93 rfl (ft := ft93) 2 (by decide +kernel) (by rfl) fun {σ} Y st => ?_
  conv => whnf
  exact RetA_view 1 rfl ⟨⟨rfl, rfl⟩, rfl⟩

theorem fn94 (t : Int × (Int × Int)) (s : Shot) (off day : Int) (h1 : 0 ≤ t.1 ∧ t.1 ≤ 1000000) (h2 : 0 ≤ t.2.1 ∧ t.2.1 ≤ 1000000) (h3 : 0 ≤ t.2.2 ∧ t.2.2 ≤ 1000000) (h4 : 0 ≤ day ∧ day ≤ 1000000) (h5 : 0 ≤ s.set ∧ s.set ≤ 1000000) :
    FnV Try.prog 94 [truthD t, .agg (sCells s off), i64 day] (Span.d ⟨onF s.set t.2.1 t.1 day, onF s.set t.2.2 t.1 day⟩) := by
  refine fnV_of mixed tysOk Try.func94 rfl (ft := ft94) 3 (by decide +kernel) (by rfl) fun {σ} Y st => ?_
  conv => whnf
  have hlb := lost_bd (wear := t.1) (day := day) (set := s.set) h1 h4 h5
  refine arith_in (wrap_i64 (by (try dsimp only); omega)) ?_
  conv => whnf
  refine arith_in (wrap_i64 (by (try dsimp only); omega)) ?_
  conv => whnf
  refine arith_in (wrap_i64 (by (try dsimp only); omega)) ?_
  conv => whnf
  refine arith_in (wrap_i64 (by (try dsimp only); omega)) ?_
  conv => whnf
  exact RetA_view 0 rfl ⟨⟨rfl, rfl⟩, rfl⟩

def thickStep (set day : Int) (acc : Span × Bool) (t : Int × (Int × Int)) : Span × Bool :=
  let out := if acc.2 then acc.1 else ⟨onF set t.2.1 t.1 day, onF set t.2.2 t.1 day⟩
  (⟨min out.lo (onF set t.2.1 t.1 day), max out.hi (onF set t.2.2 t.1 day)⟩, true)

theorem thick_eq (set off day : Int) (new : Int × Int) (gs : List Gauge) : ∀ (n : Nat) (wear : Int) (acc : Span × Bool), rangeF set off day new gs n wear acc = (truthsL set off new gs n wear).foldl (thickStep set day) acc
  | 0, wear, acc => rfl
  | n + 1, wear, acc => by
    simp only [rangeF, truthsL]
    cases fitsF set off wear new gs with
    | none => exact thick_eq set off day new gs n (wear + 1) acc
    | some f => exact thick_eq set off day new gs n (wear + 1) _

theorem rangeS_fold (s : Shot) (off : Int) (gs : List Gauge) (day : Int) : rangeS s off gs day = (truthsS s off gs).foldl (thickStep s.set day) (⟨0, 0⟩, false) := thick_eq _ _ _ _ _ _ _ _

theorem truthsL_ok {set off : Int} {new : Int × Int} {gs : List Gauge} (hn : 0 ≤ new.1 ∧ new.1 ≤ new.2 ∧ new.2 ≤ 1000000) : ∀ (n : Nat) (wear : Int), 0 ≤ wear → wear + n ≤ 1000000 → ∀ t ∈ truthsL set off new gs n wear, (0 ≤ t.1 ∧ t.1 ≤ 1000000) ∧ (0 ≤ t.2.1 ∧ t.2.1 ≤ 1000000) ∧ (0 ≤ t.2.2 ∧ t.2.2 ≤ 1000000)
  | 0, wear, h0, h1, t, ht => by cases ht
  | n + 1, wear, h0, h1, t, ht => by
    simp only [truthsL] at ht
    split at ht
    · exact truthsL_ok hn n (wear + 1) (by omega) (by omega) t ht
    · rename_i f hf
      rcases List.mem_cons.1 ht with rfl | ht
      · have := fitsF_le hn.2.1 hf
        simp only; omega
      · exact truthsL_ok hn n (wear + 1) (by omega) (by omega) t ht

theorem truthsS_ok {s : Shot} {off : Int} {gs : List Gauge} (h : LookOk s off gs) : ∀ t ∈ truthsS s off gs, (0 ≤ t.1 ∧ t.1 ≤ 1000000) ∧ (0 ≤ t.2.1 ∧ t.2.1 ≤ 1000000) ∧ (0 ≤ t.2.2 ∧ t.2.2 ≤ 1000000) := by
  obtain ⟨hoff, ⟨hset, hnew, hwear⟩, hg, hlen⟩ := h
  exact truthsL_ok (by simp only; omega) _ _ (by omega) (by omega)
end Go.PX

namespace Go.PX
open Go.Proofs

theorem fn58 (s : Shot) (off day : Int) (h : LookOk s off s.gauges) (hday : 0 ≤ day ∧ day ≤ 1000000) :
    FnV Try.prog 58 [.agg (sCells s off), i64 day] (.tup [(rangeS s off s.gauges day).1.d, .bool (rangeS s off s.gauges day).2]) := by
  refine fnV_of mixed tysOk Try.func58 rfl (ft := ft58) 2 (by decide +kernel) (by rfl) fun {σ} Y st => ?_
  conv => whnf
  refine CallA_v (fn93 s off s.gauges) rfl rfl ?_
  conv => whnf
  refine RangeA_list tysOk (by exact drawsB_spec mixed tysOk (by decide +kernel)) (by exact drawsB_spec mixed tysOk (by decide +kernel)) rfl 1500000 1600000 [2, 3, 4, 5] (yields115 s off s.gauges h)
    (fun (x : Span × Bool) => ([(1500000, .box (.dd (sCells s off))), (1500001, .box (.dd [i64 day])), (1500002, .box (.dd x.1.cells)), (1500003, .box (.dd [.bool x.2]))], st))
    (fun rest x => (∀ t ∈ rest, (0 ≤ t.1 ∧ t.1 ≤ 1000000) ∧ (0 ≤ t.2.1 ∧ t.2.1 ≤ 1000000) ∧ (0 ≤ t.2.2 ∧ t.2.2 ≤ 1000000)) ∧ rangeS s off s.gauges day = rest.foldl (thickStep s.set day) x) (⟨0, 0⟩, false)
    rfl rfl rfl ⟨truthsS_ok h, rangeS_fold s off s.gauges day⟩ ?_ ?_
  · rintro t rest ⟨out, is⟩ ⟨hok, he⟩ Q hQ _
    refine ⟨⟨rfl, rfl⟩, ?_⟩
    rw [List.foldl_cons] at he
    obtain ⟨h1, h2, h3⟩ := hok t (by simp)
    conv => whnf
    refine CallA_v (ds := [truthD t, .agg (sCells s off), i64 day]) (fn94 t s off day h1 h2 h3 hday h.shot.set) rfl rfl ?_
    conv => whnf
    have next : ∀ (x' : Span × Bool) {st' : St σ}, x' = thickStep s.set day (out, is) t → Wk st' ⟨[], [(1500000, .box (.dd (sCells s off))), (1500001, .box (.dd [i64 day])), (1500002, .box (.dd x'.1.cells)), (1500003, .box (.dd [.bool x'.2]))], st⟩ →
        ∃ x', Wk st' ⟨[], [(1500000, .box (.dd (sCells s off))), (1500001, .box (.dd [i64 day])), (1500002, .box (.dd x'.1.cells)), (1500003, .box (.dd [.bool x'.2]))], st⟩ ∧ true = true ∧ Q (.d (.bool true)) [] (.go x') := by
      intro x' st' hx hw
      exact ⟨x', hw, rfl, hQ x' ⟨fun u hu => hok u (by simp [hu]), by rw [hx]; exact he⟩⟩
    cases is with
    | false =>
      conv => whnf
      exact next (⟨min (onF s.set t.2.1 t.1 day) (onF s.set t.2.1 t.1 day), max (onF s.set t.2.2 t.1 day) (onF s.set t.2.2 t.1 day)⟩, true) rfl (Wk.sub trivial ⟨(by first | rfl | (simp only [List.length_map]; rfl) | simp [PX.get]), (by first | rfl | (simp only [List.length_map]; rfl) | simp [PX.get]), (by first | rfl | (simp only [List.length_map]; rfl) | simp [PX.get]), (by first | rfl | (simp only [List.length_map]; rfl) | simp [PX.get]), trivial⟩)
    | true =>
      conv => whnf
      refine brk_i (fun h5 => ?_) (fun h5 => ?_)
      · conv => whnf
        have h5 : onF s.set t.2.1 t.1 day = out.lo ∧ onF s.set t.2.2 t.1 day = out.hi := by simpa using h5
        refine next (⟨min (onF s.set t.2.1 t.1 day) (onF s.set t.2.1 t.1 day), max (onF s.set t.2.2 t.1 day) (onF s.set t.2.2 t.1 day)⟩, true) ?_ (Wk.sub trivial ⟨(by first | rfl | (simp only [List.length_map]; rfl) | simp [PX.get]), (by first | rfl | (simp only [List.length_map]; rfl) | simp [PX.get]), (by first | rfl | (simp only [List.length_map]; rfl) | simp [PX.get]), (by first | rfl | (simp only [List.length_map]; rfl) | simp [PX.get]), trivial⟩)
        simp only [thickStep, h5.1, h5.2, if_true]
      · conv => whnf
        exact next (⟨min out.lo (onF s.set t.2.1 t.1 day), max out.hi (onF s.set t.2.2 t.1 day)⟩, true) rfl (Wk.sub trivial ⟨(by first | rfl | (simp only [List.length_map]; rfl) | simp [PX.get]), (by first | rfl | (simp only [List.length_map]; rfl) | simp [PX.get]), (by first | rfl | (simp only [List.length_map]; rfl) | simp [PX.get]), (by first | rfl | (simp only [List.length_map]; rfl) | simp [PX.get]), trivial⟩)
  · rintro ⟨out, is⟩ ⟨_, he⟩
    conv => whnf
    rw [he]
    exact RetA_view 0 rfl ⟨⟨rfl, rfl⟩, rfl⟩
end Go.PX

namespace Go.PX
open Go.Proofs

theorem fn64 (s : Shot) (off : Int) (gs : List Gauge) (h : LookOk s off gs) : FnV Try.prog 64 [.agg (sCells s off), gaugesD gs] (.bool (!(truthsS s off gs).isEmpty)) := by
  refine fnV_of mixed tysOk Try.func64 rfl (ft := ft64) 2 (by decide +kernel) (by rfl) fun {σ} Y st => ?_
  conv => whnf
  refine CallA_v (fn93 s off gs) rfl rfl ?_
  conv => whnf
  refine RangeA_list tysOk (by exact drawsB_spec mixed tysOk (by decide +kernel)) (by exact drawsB_spec mixed tysOk (by decide +kernel)) rfl 1500000 1600000 [2, 4] (yields115 s off gs h)
    (fun (_ : Unit) => ([(1500000, .box (.dd (sCells s off))), (1500001, .box (.dd [.bool false]))], st))
    (fun rest _ => (truthsS s off gs).isEmpty = rest.isEmpty) () rfl rfl rfl rfl ?_ ?_
  · rintro t rest _ he Q _ hQ
    refine ⟨⟨rfl, rfl⟩, ?_⟩
    have he : (truthsS s off gs).isEmpty = false := he
    conv => whnf
    refine ⟨[(1500000, .box (.dd (sCells s off))), (1500001, .box (.dd [.bool true]))], st, (Wk.sub trivial ⟨(by first | rfl | (simp only [List.length_map]; rfl) | simp [PX.get]), (by first | rfl | (simp only [List.length_map]; rfl) | simp [PX.get]), trivial⟩), rfl, hQ _ _ _ ?_⟩
    conv => whnf
    rw [he]
    exact RetA_view 0 rfl ⟨⟨rfl, rfl⟩, rfl⟩
  · intro _ he
    have he : (truthsS s off gs).isEmpty = true := he
    conv => whnf
    rw [he]
    exact RetA_view 0 rfl ⟨⟨rfl, rfl⟩, rfl⟩

theorem rangeS_some (s : Shot) (off : Int) (gs : List Gauge) (day : Int) : (rangeS s off gs day).2 = !(truthsS s off gs).isEmpty := by
  rw [rangeS_fold]
  cases truthsS s off gs with
  | nil => rfl
  | cons t r =>
    rw [List.foldl_cons]
    have : ∀ (l : List (Int × (Int × Int))) (acc : Span × Bool), acc.2 = true → (l.foldl (thickStep s.set day) acc).2 = true := by
      intro l
      induction l with
      | nil => exact fun _ h => h
      | cons a l ih => exact fun acc _ => ih _ rfl
    exact this r _ rfl
end Go.PX

namespace Go.PX
open Go.Proofs

/-- The error of a case and the index of a shot. -/
def openE (c : Case) (i : Int) : Int :=
  if (checkC c).2.2 = 0 then (if inB i 0 ((c.chain.shots.length : Int) - 1) then 0 else 4) else (checkC c).2.2

theorem inB_get {l : List Shot} {i : Int} (h : inB i 0 ((l.length : Int) - 1) = true) : ∃ s, 0 ≤ i ∧ l[i.toNat]? = some s := by
  simp only [inB, Bool.and_eq_true, decide_eq_true_eq] at h
  exact ⟨_, h.1, List.getElem?_eq_getElem (by omega)⟩

/-- The cells of a shot that is asked for; none are, if there is an error. -/
def openD (c : Case) (i : Int) : D :=
  if openE c i = 0 then (match c.chain.shots[i.toNat]? with
    | some s => .agg (sCells s c.chain.err)
    | none => .nilp) else .agg [.str ⟨#[]⟩, i64 0, i64 0, i64 0, i64 0, i64 0, i64 0, .nils, i64 0]

theorem chainE_ok {c : Case} (h : (checkC c).2.2 = 0) : (chainE c.chain).2.2 = 0 := by
  rw [checkC_alt] at h
  by_cases h0 : (chainE c.chain).2.2 = 0
  · exact h0
  · rw [if_neg h0] at h; exact absurd h h0

theorem case_lens {c : Case} (h : (checkC c).2.2 = 0) : c.chain.shots.length ≤ 7 ∧ c.chain.rows.length ≤ 6 := chainE_lens (chainE_ok h)

theorem fn57 (c : Case) (i : Int) : FnV Try.prog 57 [c.d, i64 i] (.tup [openD c i, i64 (openE c i)]) := by
  refine fnV_of mixed tysOk Try.func57 rfl (ft := ft57) 2 (by decide +kernel) (by rfl) fun {σ} Y st => ?_
  conv => whnf
  refine CallA_v (fn13 c) rfl rfl ?_
  conv => whnf
  have hl := case_lens (c := c)
  refine brk_i (fun h0 => ?_) (fun h0 => ?_)
  · have h0 : (checkC c).2.2 ≠ 0 := by simpa using h0
    conv => whnf
    refine RetA_view 0 rfl ⟨⟨?_, rfl⟩, rfl⟩
    simp [openD, openE, h0, packD]
  have h0 : (checkC c).2.2 = 0 := by simpa using h0
  obtain ⟨hl, _⟩ := hl h0
  conv => whnf
  refine arith_in (wrap_i64 (by simp; omega)) ?_
  conv => whnf
  refine CallA_view (fn51_1 _ _ _) rfl 1 rfl ?_
  conv => whnf
  have hlen : ((c.chain.shots.map Shot.cells).length : Int) = c.chain.shots.length := by simp
  refine brk_i (fun h1 => ?_) (fun h1 => ?_)
  · have h1 : inB i 0 ((c.chain.shots.length : Int) - 1) = false := by rw [← hlen]; simpa using h1
    conv => whnf
    refine RetA_view 0 rfl ⟨⟨?_, rfl⟩, rfl⟩
    simp [openD, openE, h0, h1, packD]
  · have h1 : inB i 0 ((c.chain.shots.length : Int) - 1) = true := by rw [← hlen]; simpa using h1
    obtain ⟨s, hi, hs⟩ := inB_get h1
    conv => whnf
    refine elemK_i s.cells ⟨hi, by simp [hs]⟩ ?_
    conv => whnf
    refine RetA_view 0 rfl ⟨⟨?_, rfl⟩, rfl⟩
    simp [openD, openE, h0, h1, hs, packD]
    rfl

theorem fn59 (c : Case) (i : Int) : FnV Try.prog 59 [c.d, i64 i] (i64 (openE c i)) := by
  refine fnV_of mixed tysOk Try.func59 rfl (ft := ft59) 2 (by decide +kernel) (by rfl) fun {σ} Y st => ?_
  conv => whnf
  refine CallA_v (fn14 c) rfl rfl ?_
  conv => whnf
  have hl := case_lens (c := c)
  have hlen : ((c.chain.shots.map Shot.cells).length : Int) = c.chain.shots.length := by simp
  refine brk_i (fun h0 => ?_) (fun h0 => ?_)
  · have h0 : (checkC c).2.2 = 0 := by simpa using h0
    obtain ⟨hl, _⟩ := hl h0
    conv => whnf
    refine arith_in (wrap_i64 (by simp; omega)) ?_
    conv => whnf
    refine CallA_v (fn55 _ _ _) rfl rfl ?_
    conv => whnf
    refine brk_i (fun h1 => ?_) (fun h1 => ?_)
    · have h1 : inB i 0 ((c.chain.shots.length : Int) - 1) = false := by rw [← hlen]; simpa using h1
      conv => whnf
      refine RetA_view 0 rfl ⟨⟨?_, rfl⟩, rfl⟩
      simp [openE, h0, h1, packD]
    · have h1 : inB i 0 ((c.chain.shots.length : Int) - 1) = true := by rw [← hlen]; simpa using h1
      conv => whnf
      refine RetA_view 0 rfl ⟨⟨?_, rfl⟩, rfl⟩
      simp [openE, h0, h1, packD, tri]
  · have h0 : (checkC c).2.2 ≠ 0 := by simpa using h0
    conv => whnf
    refine RetA_view 0 rfl ⟨⟨?_, rfl⟩, rfl⟩
    simp [openE, h0, packD, tri]

theorem firstE_all {α : Type} {f : List α → α → Int} : ∀ {l : List α} {b : List α} {i : Int}, (firstE f b l i).2 = 0 → ∀ x ∈ l, ∃ b', f b' x = 0
  | [], _, _, _, x, hx => by cases hx
  | y :: r, b, i, h, x, hx => by
    simp only [firstE] at h
    split at h
    · rename_i h0
      rcases List.mem_cons.1 hx with rfl | hx
      · exact ⟨b, h0⟩
      · exact firstE_all h x hx
    · rename_i h0; exact absurd h h0

theorem inB_iff {n lo hi : Int} : inB n lo hi = true ↔ lo ≤ n ∧ n ≤ hi := by
  simp [inB]

theorem gaugesL_ok {set : Int} : ∀ {l : List Gauge} {last : Int}, gaugesL set last l = 0 → ∀ g ∈ l, (set ≤ g.day ∧ g.day ≤ 40000) ∧ (0 ≤ g.shown ∧ g.shown ≤ 60000)
  | [], _, _, g, hg => by cases hg
  | x :: r, last, h, g, hg => by
    simp only [gaugesL] at h
    split at h
    · rename_i h1
      simp only [Bool.and_eq_true, inB_iff] at h1
      split at h
      · cases h
      · rcases List.mem_cons.1 hg with rfl | hg
        · exact h1
        · exact gaugesL_ok h g hg
    · cases h

/-- What holds of a shot without an error. -/
structure ShotR (s : Shot) : Prop where
  links : 1 ≤ s.links ∧ s.links ≤ 40
  set : 0 ≤ s.set ∧ s.set ≤ 40000
  new : 1 ≤ s.new.lo ∧ s.new.lo ≤ s.new.hi ∧ s.new.hi ≤ 60000
  wear : 0 ≤ s.wear.lo ∧ s.wear.lo ≤ s.wear.hi ∧ s.wear.hi ≤ 20
  len : s.gauges.length ≤ 6
  gauges : ∀ g ∈ s.gauges, (s.set ≤ g.day ∧ g.day ≤ 40000) ∧ (0 ≤ g.shown ∧ g.shown ≤ 60000)

theorem checkF_ok {s : Shot} (h : checkF s = 0) : ShotR s := by
  unfold checkF at h
  split at h
  · rename_i h1
    simp only [Bool.and_eq_true, inB_iff] at h1
    split at h
    · cases h
    · split at h
      · cases h
      · refine ⟨by omega, by omega, by omega, by omega, by omega, gaugesL_ok h⟩
  · cases h

/-- What holds of a case without an error. -/
structure CaseR (c : Case) : Prop where
  lens : 1 ≤ c.chain.shots.length ∧ c.chain.shots.length ≤ 7
  rlen : 1 ≤ c.chain.rows.length ∧ c.chain.rows.length ≤ 6
  long : 1 ≤ c.chain.long ∧ c.chain.long ≤ 50
  heavy : 0 ≤ c.chain.heavy ∧ c.chain.heavy ≤ 200
  err : 0 ≤ c.chain.err ∧ c.chain.err ≤ 2000
  hold : 0 ≤ c.chain.hold.lo ∧ c.chain.hold.lo ≤ c.chain.hold.hi ∧ c.chain.hold.hi ≤ 200000
  shots : ∀ s ∈ c.chain.shots, ShotR s ∧ s.set ≤ c.day
  rows : ∀ r ∈ c.chain.rows, (1 ≤ r.scope ∧ r.scope ≤ 200) ∧ (1 ≤ r.holds ∧ r.holds ≤ 1000)
  ship : (0 ≤ c.ship.wind ∧ c.ship.wind ≤ 10000) ∧ (0 ≤ c.ship.current ∧ c.ship.current ≤ 10000) ∧ (0 ≤ c.ship.swell ∧ c.ship.swell ≤ 10000) ∧ (0 ≤ c.ship.yaw ∧ c.ship.yaw ≤ 20)
  day : 0 ≤ c.day ∧ c.day ≤ 40000
  wlen : 1 ≤ c.weathers.length ∧ c.weathers.length ≤ 6
  weathers : ∀ w ∈ c.weathers, (1 ≤ w.depth.lo ∧ w.depth.lo ≤ w.depth.hi ∧ w.depth.hi ≤ 1000) ∧ (0 ≤ w.wind.lo ∧ w.wind.lo ≤ w.wind.hi ∧ w.wind.hi ≤ 80) ∧ (0 ≤ w.current.lo ∧ w.current.lo ≤ w.current.hi ∧ w.current.hi ≤ 80) ∧ (0 ≤ w.swell.lo ∧ w.swell.lo ≤ w.swell.hi ∧ w.swell.hi ≤ 150)

theorem case_ok {c : Case} (h : (checkC c).2.2 = 0) : CaseR c := by
  unfold checkC at h
  split at h
  case isFalse h0 => exact absurd h h0
  rename_i hp
  simp only at h
  split at h
  case isFalse h0 => exact absurd h h0
  rename_i hs
  unfold rowsE at h
  simp only at h
  split at h
  case isFalse h0 => exact absurd h h0
  rename_i hr
  unfold restE at h
  split at h
  case isFalse => cases h
  rename_i h1
  split at h
  case isFalse => cases h
  rename_i h2
  split at h
  case isTrue => cases h
  rename_i h3
  split at h
  case isFalse => cases h
  rename_i h4
  simp only at h
  split at h
  case isFalse h0 => exact absurd h h0
  rename_i hw
  unfold plainF at hp
  split at hp
  case isFalse => cases hp
  rename_i p1
  split at hp
  case isFalse => cases hp
  rename_i p2
  split at hp
  case isTrue => cases hp
  rename_i p3
  simp only [Bool.and_eq_true, inB_iff] at h1 h2 h4 p1 p2
  refine ⟨by omega, by omega, by omega, by omega, by omega, by omega, fun s hm => ⟨?_, ?_⟩, fun r hm => ?_, by omega, by omega, by omega, fun w hm => ?_⟩
  · obtain ⟨b, hb⟩ := firstE_all hs s hm
    unfold shotE at hb
    split at hb
    · split at hb
      · cases hb
      · exact checkF_ok hb
    · cases hb
  · rw [Bool.not_eq_true, List.any_eq_false] at h3
    have := h3 s hm
    simp at this; exact this
  · obtain ⟨b, hb⟩ := firstE_all hr r hm
    unfold rowE at hb
    split at hb
    · rename_i q; simp only [Bool.and_eq_true, inB_iff] at q; exact q
    · cases hb
  · obtain ⟨b, hb⟩ := firstE_all hw w hm
    unfold weatherE at hb
    split at hb
    · rename_i q
      simp only [Bool.and_eq_true, inB_iff] at q
      split at hb
      · cases hb
      · omega
    · cases hb

theorem CaseR.look {c : Case} (h : CaseR c) {s : Shot} (hs : s ∈ c.chain.shots) : LookOk s c.chain.err s.gauges := by
  obtain ⟨⟨h1, h2, h3, h4, h5, h6⟩, h7⟩ := h.shots s hs
  have he := h.err
  refine ⟨by omega, ⟨by omega, by omega, by omega⟩, fun g hg => ?_, by omega⟩
  have := h6 g hg
  unfold gaugeOk
  omega

/-- How thick a shot can be on a day, and the error. -/
def thickE (c : Case) (i day : Int) : Span × Int :=
  if openE c i = 0 then (match c.chain.shots[i.toNat]? with
    | some s => if inB day s.set 40000 then (if (rangeS s c.chain.err s.gauges day).2 then ((rangeS s c.chain.err s.gauges day).1, 0) else (⟨0, 0⟩, 9)) else (⟨0, 0⟩, 7)
    | none => (⟨0, 0⟩, 0)) else (⟨0, 0⟩, openE c i)

theorem openE_ok {c : Case} {i : Int} (h : openE c i = 0) : (checkC c).2.2 = 0 ∧ ∃ s, 0 ≤ i ∧ c.chain.shots[i.toNat]? = some s := by
  unfold openE at h
  split at h
  · rename_i h0
    split at h
    · rename_i h1
      obtain ⟨s, h2, h3⟩ := inB_get h1
      exact ⟨h0, s, h2, h3⟩
    · cases h
  · rename_i h0; exact absurd h h0

theorem fn15 (c : Case) (i day : Int) : FnV Try.prog 15 [c.d, i64 i, i64 day] (.tup [(thickE c i day).1.d, i64 (thickE c i day).2]) := by
  refine fnV_of mixed tysOk Try.func15 rfl (ft := ft15) 3 (by decide +kernel) (by rfl) fun {σ} Y st => ?_
  conv => whnf
  refine CallA_v (ds := [c.d, i64 i]) (fn57 c i) rfl rfl ?_
  by_cases h0 : openE c i = 0
  · obtain ⟨hc, s, hi, hs⟩ := openE_ok h0
    have hR := case_ok hc
    have hm := List.mem_of_getElem? hs
    have hL := hR.look hm
    have hr := (hR.shots s hm).1
    have hD : openD c i = .agg (sCells s c.chain.err) := by simp [openD, h0, hs]
    rw [hD, h0]
    conv => whnf
    refine CallA_view (fn51_1 s.set 40000 day) rfl 1 rfl ?_
    conv => whnf
    refine brk_i (fun h1 => ?_) (fun h1 => ?_)
    · have h1 : inB day s.set 40000 = false := by simpa using h1
      conv => whnf
      refine RetA_view 0 rfl ⟨⟨?_, rfl⟩, rfl⟩
      simp [thickE, h0, hs, h1, packD]
      rfl
    · have h1 : inB day s.set 40000 = true := by simpa using h1
      have h1' := inB_iff.1 h1
      have hset := hr.set
      conv => whnf
      refine CallA_v (ds := [.agg (sCells s c.chain.err), i64 day]) (fn58 s c.chain.err day hL (by omega)) rfl rfl ?_
      conv => whnf
      refine brk_i (fun h2 => ?_) (fun h2 => ?_)
      · have h2 : (rangeS s c.chain.err s.gauges day).2 = false := by simpa using h2
        conv => whnf
        refine RetA_view 0 rfl ⟨⟨?_, rfl⟩, rfl⟩
        simp [thickE, h0, hs, h1, h2, packD]
        rfl
      · have h2 : (rangeS s c.chain.err s.gauges day).2 = true := by simpa using h2
        conv => whnf
        refine RetA_view 0 rfl ⟨⟨?_, rfl⟩, rfl⟩
        simp [thickE, h0, hs, h1, h2, packD]
        rfl
  · have hD : openD c i = .agg [.str ⟨#[]⟩, i64 0, i64 0, i64 0, i64 0, i64 0, i64 0, .nils, i64 0] := by simp [openD, h0]
    rw [hD]
    conv => whnf
    refine brk_i (fun h1 => ?_) (fun h1 => absurd h0 (by simpa using h1))
    conv => whnf
    refine RetA_view 0 rfl ⟨⟨?_, rfl⟩, rfl⟩
    simp [thickE, h0, packD]
    rfl

theorem fn16 (c : Case) (i day : Int) : FnV Try.prog 16 [c.d, i64 i, i64 day] (.tup [(thickE c i day).1.d, i64 (thickE c i day).2]) := by
  refine fnV_of mixed tysOk Try.func16 rfl (ft := ft16) 3 (by decide +kernel) (by rfl) fun {σ} Y st => ?_
  conv => whnf
  refine CallA_v (ds := [c.d, i64 i]) (fn59 c i) rfl rfl ?_
  by_cases h0 : openE c i = 0
  · obtain ⟨hc, s, hi, hs⟩ := openE_ok h0
    have hR := case_ok hc
    have hm := List.mem_of_getElem? hs
    have hL := hR.look hm
    have hr := (hR.shots s hm).1
    have herr := hR.err
    rw [h0]
    conv => whnf
    refine elemK_i s.cells ⟨hi, by simp [hs]⟩ ?_
    conv => whnf
    refine CallA_v (fn55 day s.set 40000) rfl rfl ?_
    conv => whnf
    refine brk_i (fun h1 => ?_) (fun h1 => ?_)
    · have h1 : inB day s.set 40000 = false := by simpa using h1
      conv => whnf
      refine RetA_view 0 rfl ⟨⟨?_, rfl⟩, rfl⟩
      simp [thickE, h0, hs, h1, packD]
      rfl
    · have h1 : inB day s.set 40000 = true := by simpa using h1
      have h1' := inB_iff.1 h1
      have hset := hr.set
      conv => whnf
      refine CallA_v (ds := [s.d, i64 c.chain.err, gaugesD s.gauges, i64 day]) (fn60 s c.chain.err s.gauges day (by omega) hL.shot hL.gok hL.len (by omega)) rfl rfl ?_
      conv => whnf
      refine brk_i (fun h2 => ?_) (fun h2 => ?_)
      · have h2 : (rangeS s c.chain.err s.gauges day).2 = false := by simpa using h2
        conv => whnf
        refine RetA_view 0 rfl ⟨⟨?_, rfl⟩, rfl⟩
        simp [thickE, h0, hs, h1, h2, packD]
        rfl
      · have h2 : (rangeS s c.chain.err s.gauges day).2 = true := by simpa using h2
        conv => whnf
        refine RetA_view 0 rfl ⟨⟨?_, rfl⟩, rfl⟩
        simp [thickE, h0, hs, h1, h2, packD]
        rfl
  · conv => whnf
    refine brk_i (fun h1 => ?_) (fun h1 => absurd h0 (by simpa using h1))
    conv => whnf
    refine RetA_view 0 rfl ⟨⟨?_, rfl⟩, rfl⟩
    simp [thickE, h0, packD]
    rfl
end Go.PX

namespace Go.PX
open Go.Proofs

/-- The first ascending list that goes on so and is wanted. -/
def fillF {τ : Type} (wf : List Int → τ × Bool) (many : Nat) : Nat → List Int → Nat → Option (List Int × τ)
  | 0, p, _ => if (wf p).2 then some (p, (wf p).1) else none
  | left + 1, p, start => (List.range' start (many - left - start)).findSome? fun (i : Nat) => fillF wf many left (p ++ [(i : Int)]) (i + 1)

def intsC (l : List Int) : List (List D) := l.map fun n => [i64 n]

def fillArgs (start left : Nat) : List V := [.d (i64 start), .d (i64 left), .ptr 1000000 0, .ptr 1000001 0, .ptr 1000002 0, .ptr 1000003 0, .ptr 1000004 0, .ptr 1000005 0]

def fillCaps : List V := [.ptr 1000000 0, .ptr 1000001 0, .ptr 1000002 0, .ptr 1000003 0, .ptr 1000004 0, .ptr 1000005 0]

/-- The boxes of a search, and its buffer. -/
def fillH (f g : FuncId) (caps : List D) (many : Nat) (k : Nat) (n : Nat) (p : List Int) (x is : D) : Heap :=
  [(1000000, .box (.dd [.clo g caps])), (1000001, .box (.vv [.sl k 1 0 n])), (1000002, .box (.dd [x])), (1000003, .box (.dd [is])), (1000004, .box (.dd [i64 many])), (1000005, .box (.vv [.clo f fillCaps])), (k, .arr 1 (.dd (intsC p)))]

/-- What a search does, from a place, with so many numbers to come. -/
def Fill96 (g : FuncId) (caps : List D) (wf : List Int → Int × Bool) (many left : Nat) : Prop :=
  ∀ (start : Nat) (p : List Int) (x : Int) (b : Bool), left ≤ many → start ≤ many + 1 → p.length + left ≤ many → (∀ i ∈ p, 0 ≤ i ∧ i < many) → ∀ {σ : Type} (Y : Hd σ) (s : σ),
      FnC Try.prog Y 96 (fillArgs start left) (fillH 96 g caps many 1000006 p.length p (i64 x) (.bool b)) s fun v h' s' => s' = s ∧ ∃ (q : List Int) (y : Int) (b' : Bool), h' = fillH 96 g caps many 2000000 q.length q (i64 y) (.bool b') ∧
        (match fillF wf many left p start with
        | some (q', y') => v = .d (.bool true) ∧ q = q' ∧ y = y' ∧ b' = true
        | none => v = .d (.bool false) ∧ q = p)

/-- What is searched for. -/
def Want96 (g : FuncId) (caps : List D) (wf : List Int → Int × Bool) (many : Nat) : Prop :=
  ∀ q : List Int, (∀ i ∈ q, 0 ≤ i ∧ i < many) → q.length ≤ many → FnV Try.prog g (intsD q :: caps) (.tup [i64 (wf q).1, .bool (wf q).2])

theorem fill96_zero {g : FuncId} {caps : List D} {wf : List Int → Int × Bool} {many : Nat} (hm : many ≤ 1000) (hw : Want96 g caps wf many) : Fill96 g caps wf many 0 := by
  intro start p x b hl hf hp hin σ Y s
  refine fnC_of mixed tysOk Try.func96 rfl (ft := ft96) (args := fillArgs start 0) (show fnB ft96 Try.f96 8 = true from by decide +kernel) ?_
  conv => whnf
  have hcl : (intsC p).length = p.length := by simp [intsC]
  refine CallA_view (ds := intsD p :: caps) (hw p hin (by omega)) rfl 1 (viewL_cons (viewV_sl rfl (by simp [intsC])) (viewL_inj caps)) ?_
  conv => whnf
  refine RetA_hand [1000006] [.d (.bool (wf p).2)] (fillH 96 g caps many 2000000 p.length p (i64 (wf p).1) (.bool (wf p).2)) rfl ⟨rfl, rfl, rfl, rfl, rfl, rfl, rfl, trivial⟩ rfl ?_
  refine ⟨rfl, p, (wf p).1, (wf p).2, rfl, ?_⟩
  simp only [fillF]
  cases hb : (wf p).2 <;> simp [packVv]

theorem fill96_succ {g : FuncId} {caps : List D} {wf : List Int → Int × Bool} {many left : Nat} (hm : many ≤ 1000) (ihl : Fill96 g caps wf many left) : Fill96 g caps wf many (left + 1) := by
  intro start p x b hl hf hp hin σ Y s
  refine fnC_of mixed tysOk Try.func96 rfl (ft := ft96) (args := fillArgs start (left + 1)) (show fnB ft96 Try.f96 8 = true from by decide +kernel) ?_
  conv => whnf
  refine LoopA_p (T := tys) tysOk (by exact drawsB_spec mixed tysOk (by decide +kernel)) (α := Nat × Int × Bool)
    (fun x => ⟨[(1, .d (i64 (left + 1 : Nat))), (2, .ptr 1000000 0), (3, .ptr 1000001 0), (4, .ptr 1000002 0), (5, .ptr 1000003 0), (6, .ptr 1000004 0), (7, .ptr 1000005 0), (11, .d (i64 x.1))], fillH 96 g caps many 900000 p.length p (i64 x.2.1) (.bool x.2.2), s⟩)
    (fun x => x.1 ≤ many + 1 ∧ fillF wf many (left + 1) p start = (List.range' x.1 (many - left - x.1)).findSome? fun (i : Nat) => fillF wf many left (p ++ [(i : Int)]) (i + 1)) (fun x => many + 1 - x.1) (start, x, b)
    ((Wk.move 1000006 900000 rfl rfl).trans (Wk.sub ⟨rfl, rfl, rfl, rfl, rfl, rfl, rfl, rfl, trivial⟩ ⟨rfl, rfl, rfl, rfl, rfl, rfl, rfl, trivial⟩)) ⟨hf, rfl⟩ ?_
  clear hf x b
  rintro ⟨i, x, b⟩ ⟨hi, he⟩
  simp only at hi he
  conv => whnf
  refine arith_in (wrap_i64 (by (try dsimp only); omega)) ?_
  conv => whnf
  refine brk_i (fun h1 => ?_) (fun h1 => ?_)
  · have h1 : i ≤ many - (left + 1) := by have := of_decide_eq_true h1; omega
    obtain ⟨m, hm1⟩ : ∃ m, many - left - i = m + 1 := ⟨many - left - i - 1, by omega⟩
    rw [hm1, List.range'_succ, List.findSome?_cons] at he
    have hpl : (intsC p).length = p.length := by simp [intsC]
    conv => whnf
    refine ownK_whole rfl ?_
    conv => whnf
    refine ownK.mk (by simp [Els.len, hpl]) ?_
    conv => whnf
    refine chk_i (by simp [Els.len, Els.part, Els.cons, V.cells, hpl]; omega) ?_
    conv => whnf
    refine arith_to (((i + 1 : Nat) : Int)) (by (try dsimp only); omega) (wrap_i64 (by (try dsimp only); omega)) ?_
    conv => whnf
    refine arith_to ((left : Int)) (by (try dsimp only); omega) (wrap_i64 (by (try dsimp only); omega)) ?_
    conv => whnf
    have hin' : ∀ j ∈ p ++ [(i : Int)], 0 ≤ j ∧ j < many := by
      intro j hj
      rcases List.mem_append.1 hj with hj | hj
      · exact hin j hj
      · rw [List.mem_singleton] at hj; subst hj; omega
    have ih := ihl (i + 1) (p ++ [(i : Int)]) x b (by omega) (by omega) (by simp; omega) hin' Y s
    refine CallA_y ih [1000000, 1000001, 1000002, 1000003, 1000004, 1000005, 32] rfl ⟨_, _, rfl, rfl, _, _, rfl, (by
        show some (Obj.box (Cells.vv [V.sl 32 1 0 ((((intsC p).drop 0).take p.length).length + 1)])) = some (Obj.box (Cells.vv [V.sl 32 1 0 (p ++ [(i : Int)]).length]))
        simp [intsC]), _, _, rfl, rfl, _, _, rfl, rfl, _, _, rfl, rfl, _, _, rfl, rfl, _, _, rfl, (by
        show some (Obj.arr 1 (Els.dd ((((intsC p).drop 0).take p.length) ++ [[i64 (i : Int)]]))) = some (Obj.arr 1 (Els.dd (intsC (p ++ [(i : Int)]))))
        simp [intsC, List.take_of_length_le]), rfl⟩ rfl rfl ?_
    rintro v h1 s' ⟨rfl, q, y, b', rfl, hpost⟩
    cases hF : fillF wf many left (p ++ [(i : Int)]) (i + 1) with
    | some r =>
      obtain ⟨q', y'⟩ := r
      rw [hF] at hpost he
      obtain ⟨rfl, rfl, rfl, rfl⟩ := hpost
      refine ⟨rfl, ?_⟩
      conv => whnf
      refine RetA_hand [102432] [.d (.bool true)] (fillH 96 g caps many 2000000 q.length q (i64 y) (.bool true)) rfl ⟨rfl, box_same rfl ⟨⟨rfl, rfl, rfl, rfl⟩, trivial⟩, rfl, rfl, rfl, box_same rfl ⟨⟨rfl, ⟨rfl, rfl⟩, ⟨rfl, rfl⟩, ⟨rfl, rfl⟩, ⟨rfl, rfl⟩, ⟨rfl, rfl⟩, ⟨rfl, rfl⟩, trivial⟩, trivial⟩, rfl, trivial⟩ rfl ?_
      refine ⟨rfl, q, y, true, rfl, ?_⟩
      rw [he]
      exact ⟨rfl, rfl, rfl, rfl⟩
    | none =>
      rw [hF] at hpost he
      obtain ⟨rfl, rfl⟩ := hpost
      refine ⟨rfl, ?_⟩
      conv => whnf
      refine arith_to (p.length : Int) (by simp) (wrap_i64 (by omega)) ?_
      conv => whnf
      refine chk_i (by simp; omega) ?_
      conv => whnf
      refine arith_to (((i + 1 : Nat) : Int)) (by (try dsimp only); omega) (wrap_i64 (by (try dsimp only); omega)) ?_
      conv => whnf
      have hm2 : many - left - (i + 1) = m := by omega
      refine ⟨(i + 1, y, b'), by simp only; omega, ⟨by simp only; omega, by simp only; rw [hm2]; exact he⟩, (Wk.move 102432 900000 rfl rfl).trans ((Wk.shrink 900000 p.length rfl).trans ?_)⟩
      have hsh : (intsC (p ++ [(i : Int)])).take p.length = intsC p := by simp [intsC, List.take_left']
      refine Wk.sub ⟨rfl, rfl, rfl, rfl, rfl, rfl, rfl, rfl, trivial⟩ ⟨rfl, ?_, rfl, rfl, rfl, rfl, ?_, trivial⟩
      · rfl
      · show some (Obj.arr 1 (Els.dd ((intsC (p ++ [(i : Int)])).take p.length))) = _
        rw [hsh]
  · have h1 : ¬ (i : Int) ≤ (many : Int) - ((left + 1 : Nat) : Int) := of_decide_eq_false h1
    rw [show many - left - i = 0 by omega] at he
    conv => whnf
    refine RetA_hand [900000] [.d (.bool false)] (fillH 96 g caps many 2000000 p.length p (i64 x) (.bool b)) rfl ⟨rfl, rfl, rfl, rfl, rfl, rfl, rfl, trivial⟩ rfl ?_
    refine ⟨rfl, p, x, b, rfl, ?_⟩
    rw [he]
    exact ⟨rfl, rfl⟩

theorem fill96 {g : FuncId} {caps : List D} {wf : List Int → Int × Bool} {many : Nat} (hm : many ≤ 1000) (hw : Want96 g caps wf many) (left : Nat) : Fill96 g caps wf many left := by
  induction left with
  | zero => exact fill96_zero hm hw
  | succ n ih => exact fill96_succ hm ih
end Go.PX

namespace Go.PX
open Go.Proofs

theorem fn97 (p : List Int) (hp : p.length < 1000000) : FnV Try.prog 97 [intsD p] (intsD p) := by
  refine fnV_of mixed tysOk Try.func97 rfl (ft := ft97) 1 (by decide +kernel) (by rfl) fun {σ} Y st => ?_
  conv => whnf
  refine ⟨fun b hb => ?_⟩
  cases b with
  | true =>
    have hp0 : p = [] := by
      cases p with
      | nil => rfl
      | cons a r => exact absurd (hb (by simp)) (by simp)
    subst hp0
    conv => whnf
    refine RetA_nil0 ?_
    exact RetA_view 0 rfl ⟨⟨rfl, rfl⟩, rfl⟩
  | false =>
    conv => whnf
    refine ownK.mk rfl ?_
    conv => whnf
    refine chk_i (by
      show (lenAllD 1 (p.map fun n => [i64 n]) && true) = true
      rw [lenAllD_map (fun x => ⟨rfl, rfl⟩)]; rfl) ?_
    conv => whnf
    refine chk_i (by simp [Els.len, Els.part]; omega) ?_
    conv => whnf
    exact RetA_sl (es := p.map fun n => [i64 n]) rfl (by simp [Els.len, Els.part]) ⟨⟨rfl, rfl⟩, rfl⟩

/-- The first one of the shortest lists that are wanted. -/
def chooseF {τ : Type} (wf : List Int → τ × Bool) (many : Nat) : Option (List Int × τ) := (List.range' 0 (many + 1)).findSome? fun (n : Nat) => fillF wf many n [] 0

theorem fillF_len {τ : Type} {wf : List Int → τ × Bool} {many : Nat} : ∀ {left : Nat} {p : List Int} {start : Nat} {q : List Int} {y : τ}, fillF wf many left p start = some (q, y) → q.length = p.length + left
  | 0, p, start, q, y, h => by
    simp only [fillF] at h
    split at h
    · cases h; rfl
    · cases h
  | left + 1, p, start, q, y, h => by
    simp only [fillF] at h
    obtain ⟨i, hi, h1⟩ := List.exists_of_findSome?_eq_some h
    have := fillF_len h1
    simp at this; omega

theorem fn61 (g : FuncId) (caps : List D) (wf : List Int → Int × Bool) (many : Nat) (hm : many ≤ 1000) (hw : Want96 g caps wf many) {σ : Type} (Y : Hd σ) (s : σ) :
    FnC Try.prog Y 61 [.d (i64 many), .d (.clo g caps)] [] s fun v h' s' => s' = s ∧ h' = [] ∧ (match chooseF wf many with
      | some (q, y) => v = .d (.tup [intsD q, i64 y, .bool true])
      | none => ∃ y, v = .d (.tup [intsD [], i64 y, .bool false])) := by
  refine fnC_of mixed tysOk Try.func61 rfl (ft := ft61) (args := [.d (i64 many), .d (.clo g caps)]) (show fnB ft61 Try.f61 2 = true from by decide +kernel) ?_
  conv => whnf
  refine arith_in (wrap_i64 (by (try dsimp only); omega)) ?_
  conv => whnf
  refine LoopA_p (T := tys) tysOk (by exact drawsB_spec mixed tysOk (by decide +kernel)) (α := Nat × Int × Bool)
    (fun x => ⟨[(2, .ptr 2 0), (3, .ptr 3 0), (4, .ptr 4 0), (5, .ptr 5 0), (6, .ptr 6 0), (7, .ptr 7 0), (11, .d (i64 (many + 1 : Nat))), (12, .d (i64 x.1))],
      [(2, .box (.dd [i64 many])), (3, .box (.dd [.clo g caps])), (4, .box (.vv [.sl 900000 1 0 0])), (5, .box (.dd [i64 x.2.1])), (6, .box (.dd [.bool x.2.2])), (7, .box (.vv [.clo 96 [.ptr 3 0, .ptr 4 0, .ptr 5 0, .ptr 6 0, .ptr 2 0, .ptr 7 0]])), (900000, .arr 1 (.dd []))], s⟩)
    (fun x => x.1 ≤ many + 1 ∧ chooseF wf many = (List.range' x.1 (many + 1 - x.1)).findSome? fun (n : Nat) => fillF wf many n [] 0) (fun x => many + 1 - x.1) (0, 0, false)
    ((Wk.bornBox 4 900000 1 rfl rfl rfl rfl).trans (Wk.sub ⟨rfl, rfl, rfl, rfl, rfl, rfl, rfl, rfl, trivial⟩ ⟨rfl, rfl, rfl, rfl, rfl, rfl, rfl, trivial⟩)) ⟨by simp, rfl⟩ ?_
  rintro ⟨n, x, b⟩ ⟨hn, he⟩
  simp only at hn he
  conv => whnf
  refine brk_i (fun h1 => ?_) (fun h1 => ?_)
  · have h1 : n < many + 1 := by have := of_decide_eq_true h1; omega
    obtain ⟨m, hm1⟩ : ∃ m, many + 1 - n = m + 1 := ⟨many - n, by omega⟩
    have hm2 : many + 1 - (n + 1) = m := by omega
    rw [hm1, List.range'_succ, List.findSome?_cons] at he
    conv => whnf
    refine CallA_w (fill96 hm hw n 0 [] x b (by omega) (by omega) (by simp; omega) (by simp) Y s) [3, 4, 5, 6, 2, 7, 900000] rfl ⟨_, _, rfl, rfl, _, _, rfl, rfl, _, _, rfl, rfl, _, _, rfl, rfl, _, _, rfl, rfl, _, _, rfl, rfl, _, _, rfl, rfl, rfl⟩ rfl rfl ?_
    rintro v h1 s' ⟨rfl, q, y, b', rfl, hpost⟩
    cases hF : fillF wf many n [] 0 with
    | some r =>
      obtain ⟨q', y'⟩ := r
      rw [hF] at hpost he
      obtain ⟨rfl, rfl, rfl, rfl⟩ := hpost
      refine ⟨rfl, ?_⟩
      conv => whnf
      refine ⟨⟨[(4, .ptr 4 0), (5, .ptr 5 0), (6, .ptr 6 0), (17, .d (.bool true))], [(4, .box (.dd [intsD q])), (5, .box (.dd [i64 y])), (6, .box (.dd [.bool true]))], s'⟩, (Wk.frz 1 [101088]).trans (Wk.sub ⟨rfl, rfl, rfl, rfl, trivial⟩ ⟨?_, rfl, rfl, trivial⟩), ?_⟩
      · exact get_frz (id := 101088) (sz := 1) (n := q.length) rfl (viewV_sl (es := intsC q) rfl (by simp [intsC]))
      conv => whnf
      refine DrawCall_v (fn97 q (by have := fillF_len hF; simp at this; omega)) rfl rfl ?_
      conv => whnf
      refine RetA_view 0 rfl ⟨rfl, rfl, ?_⟩
      rw [he]
      rfl
    | none =>
      rw [hF] at hpost he
      obtain ⟨rfl, rfl⟩ := hpost
      refine ⟨rfl, ?_⟩
      conv => whnf
      refine ⟨⟨[(2, .ptr 2 0), (3, .ptr 3 0), (4, .ptr 4 0), (5, .ptr 5 0), (6, .ptr 6 0), (7, .ptr 7 0), (11, .d (i64 (many + 1 : Nat))), (12, .d (i64 n)), (17, .d (.bool false))],
        [(2, .box (.dd [i64 many])), (3, .box (.dd [.clo g caps])), (4, .box (.vv [.sl 900000 1 0 0])), (5, .box (.dd [i64 y])), (6, .box (.dd [.bool b'])), (7, .box (.vv [.clo 96 [.ptr 3 0, .ptr 4 0, .ptr 5 0, .ptr 6 0, .ptr 2 0, .ptr 7 0]])), (900000, .arr 1 (.dd []))], s'⟩,
        (Wk.move 101088 900000 rfl rfl).trans (Wk.sub ⟨rfl, rfl, rfl, rfl, rfl, rfl, rfl, rfl, rfl, trivial⟩ ⟨rfl, rfl, rfl, rfl, rfl, rfl, rfl, trivial⟩), ?_⟩
      conv => whnf
      refine arith_in (wrap_i64 (by (try dsimp only); omega)) ?_
      conv => whnf
      exact ⟨(n + 1, y, b'), by simp only; omega, ⟨by simp only; omega, by simp only; rw [hm2]; exact he⟩, (Wk.sub ⟨rfl, rfl, rfl, rfl, rfl, rfl, rfl, rfl, trivial⟩ ⟨rfl, rfl, rfl, rfl, rfl, rfl, rfl, trivial⟩)⟩
  · have h1 : ¬ n < many + 1 := by have := of_decide_eq_false h1; omega
    rw [show many + 1 - n = 0 by omega] at he
    conv => whnf
    refine RetA_nil0 ?_
    refine RetA_view 0 rfl ⟨rfl, rfl, ?_⟩
    rw [he]
    exact ⟨x, rfl⟩

theorem fn98 (l : List Int) (v : Int) (hl : l.length < 4000000000000000000) : FnV Try.prog 98 [intsD l, i64 v] (i64 (indexOf (fun x => decide (v = x)) l 0)) := by
  refine fnV_of mixed tysOk Try.func98 rfl (ft := ft98) 2 (by decide +kernel) (by rfl) fun {σ} Y st => ?_
  conv => whnf
  refine LoopA_i (T := tys) tysOk (by exact drawsB_spec mixed tysOk (by decide +kernel)) l (fun i (_ : Unit) => ⟨[(0, .d (intsD l)), (1, .d (i64 v)), (7, .d (i64 l.length)), (8, .d (i64 i))], [], st⟩) (fun i r _ => indexOf (fun x => decide (v = x)) l 0 = indexOf (fun x => decide (v = x)) r i) ()
    (Wk.sub ⟨(by first | rfl | (simp only [List.length_map]; rfl) | simp [PX.get]), (by first | rfl | (simp only [List.length_map]; rfl) | simp [PX.get]), (by first | rfl | (simp only [List.length_map]; rfl) | simp [PX.get]), (by first | rfl | (simp only [List.length_map]; rfl) | simp [PX.get]), trivial⟩ trivial) rfl ?_ ?_
  · intro i x r _ hx hi hr he
    rw [indexOf] at he
    conv => whnf
    refine brk_i (fun _ => ?_) (fun h => absurd hi (by simpa using h))
    conv => whnf
    refine elemK_nat hx ?_
    conv => whnf
    refine brk_i (fun h1 => ?_) (fun h1 => ?_)
    · conv => whnf
      rw [if_pos h1] at he
      rw [he]
      exact RetA_view 0 rfl ⟨⟨rfl, rfl⟩, rfl⟩
    · conv => whnf
      rw [if_neg (by simp [h1])] at he
      refine arith_in (wrap_i64 (by (try dsimp only); omega)) ?_
      conv => whnf
      exact ⟨(), he, (Wk.sub ⟨(by first | rfl | (simp only [List.length_map]; rfl) | simp [PX.get]), (by first | rfl | (simp only [List.length_map]; rfl) | simp [PX.get]), (by first | rfl | (simp only [List.length_map]; rfl) | simp [PX.get]), (by first | rfl | (simp only [List.length_map]; rfl) | simp [PX.get]), trivial⟩ trivial)⟩
  · intro _ he
    conv => whnf
    refine brk_i (fun h => absurd h (by simp)) (fun _ => ?_)
    conv => whnf
    rw [he]
    exact RetA_view 0 rfl ⟨⟨rfl, rfl⟩, rfl⟩

theorem fn63 (l : List Int) (v : Int) (hl : l.length < 4000000000000000000) : FnV Try.prog 63 [intsD l, i64 v] (.bool (decide (v ∈ l))) := by
  refine fnV_of mixed tysOk Try.func63 rfl (ft := ft63) 2 (by decide +kernel) (by rfl) fun {σ} Y st => ?_
  conv => whnf
  refine CallA_v (fn98 l v hl) rfl rfl ?_
  conv => whnf
  refine RetA_view 0 rfl ⟨⟨?_, rfl⟩, rfl⟩
  have h1 := indexOf_any (fun x => decide (v = x)) l 0 (by omega)
  have h2 : (l.any fun x => decide (v = x)) = decide (v ∈ l) := by
    rw [Bool.eq_iff_iff]; simp
  rw [← h2, ← h1]; rfl

/-- What is wanted of doubts: the others do not contradict each other. -/
def doubtW (s : Shot) (off : Int) (q : List Int) : Int × Bool := ((withoutF q s.gauges 0).length, !(truthsS s off (withoutF q s.gauges 0)).isEmpty)

theorem withoutF_mem {α : Type} {q : List Int} : ∀ {l : List α} {i : Int}, ∀ x ∈ withoutF q l i, x ∈ l
  | [], i, x, h => by cases h
  | a :: r, i, x, h => by
    simp only [withoutF] at h
    split at h
    · exact List.mem_cons_of_mem _ (withoutF_mem x h)
    · rcases List.mem_cons.1 h with rfl | h
      · simp
      · exact List.mem_cons_of_mem _ (withoutF_mem x h)

theorem withoutF_len {α : Type} {q : List Int} : ∀ {l : List α} {i : Int}, (withoutF q l i).length ≤ l.length
  | [], i => by simp [withoutF]
  | a :: r, i => by
    simp only [withoutF]
    split
    · have := withoutF_len (q := q) (l := r) (i := i + 1); simp; omega
    · have := withoutF_len (q := q) (l := r) (i := i + 1); simp; omega

theorem LookOk.sub {s : Shot} {off : Int} {gs gs' : List Gauge} (h : LookOk s off gs) (hm : ∀ g ∈ gs', g ∈ gs) (hl : gs'.length ≤ gs.length) : LookOk s off gs' := ⟨h.off, h.shot, fun g hg => h.gok g (hm g hg), by have := h.len; omega⟩

theorem fn62 (s : Shot) (off : Int) (q : List Int) (h : LookOk s off s.gauges) (hq : q.length < 1000000) : FnV Try.prog 62 [intsD q, .ref (sCells s off)] (.tup [i64 (doubtW s off q).1, .bool (doubtW s off q).2]) := by
  refine fnV_of mixed tysOk Try.func62 rfl (ft := ft62) 2 (by decide +kernel) (by rfl) fun {σ} Y st => ?_
  conv => whnf
  have hlen := h.len
  refine LoopA_i (T := tys) tysOk (by exact drawsB_spec mixed tysOk (by decide +kernel)) s.gauges (fun i (acc : List Gauge) => ⟨[(0, .d (intsD q)), (1, .d (.ref (sCells s off))), (5, .sl 24 2 0 acc.length), (10, .d (gaugesD s.gauges)), (11, .d (i64 s.gauges.length)), (12, .d (i64 i))], [(24, .arr 2 (.dd (acc.map Gauge.cells)))], st⟩)
    (fun i r acc => acc.length ≤ i ∧ withoutF q s.gauges 0 = acc ++ withoutF q r i) []
    ((Wk.born 5 24 2 rfl rfl rfl).trans (Wk.sub ⟨(by first | rfl | (simp only [List.length_map]; rfl) | simp [PX.get]), (by first | rfl | (simp only [List.length_map]; rfl) | simp [PX.get]), (by first | rfl | (simp only [List.length_map]; rfl) | simp [PX.get]), (by first | rfl | (simp only [List.length_map]; rfl) | simp [PX.get]), (by first | rfl | (simp only [List.length_map]; rfl) | simp [PX.get]), (by first | rfl | (simp only [List.length_map]; rfl) | simp [PX.get]), trivial⟩ ⟨(by first | rfl | (simp only [List.length_map]; rfl) | simp [PX.get]), trivial⟩)) ⟨by simp, rfl⟩ ?_ ?_
  · intro i x r acc hx hi hr ⟨ha, he⟩
    rw [withoutF] at he
    conv => whnf
    refine brk_i (fun _ => ?_) (fun h => absurd hi (by simpa using h))
    conv => whnf
    refine elemK_nat hx ?_
    conv => whnf
    refine CallA_v (fn63 q i (by omega)) rfl rfl ?_
    conv => whnf
    refine brk_i (fun h1 => ?_) (fun h1 => ?_)
    · have h1 : (i : Int) ∉ q := by simpa using h1
      rw [if_neg h1] at he
      conv => whnf
      refine ownK_whole rfl ?_
      conv => whnf
      refine ownK.mk (by simp [Els.len]) ?_
      conv => whnf
      refine chk_i (by simp [Els.len, Els.part, Els.cons, V.cells]; omega) ?_
      conv => whnf
      refine arith_in (wrap_i64 (by (try dsimp only); omega)) ?_
      conv => whnf
      refine ⟨acc ++ [x], ⟨by simp; omega, by rw [he, List.append_assoc]; rfl⟩, Wk.sub ⟨rfl, rfl, ?_, rfl, rfl, rfl, trivial⟩ ⟨?_, trivial⟩⟩
      · simp [PX.get, Els.len, Els.part, Els.cons, V.cells]
      · simp [PX.get, Els.app, Els.part, Els.cons, V.cells, Gauge.cells, take_map]
    · have h1 : (i : Int) ∈ q := by simpa using h1
      rw [if_pos h1] at he
      conv => whnf
      refine arith_in (wrap_i64 (by (try dsimp only); omega)) ?_
      conv => whnf
      exact ⟨acc, ⟨by omega, he⟩, (Wk.sub ⟨(by first | rfl | (simp only [List.length_map]; rfl) | simp [PX.get]), (by first | rfl | (simp only [List.length_map]; rfl) | simp [PX.get]), (by first | rfl | (simp only [List.length_map]; rfl) | simp [PX.get]), (by first | rfl | (simp only [List.length_map]; rfl) | simp [PX.get]), (by first | rfl | (simp only [List.length_map]; rfl) | simp [PX.get]), (by first | rfl | (simp only [List.length_map]; rfl) | simp [PX.get]), trivial⟩ ⟨(by first | rfl | (simp only [List.length_map]; rfl) | simp [PX.get]), trivial⟩)⟩
  · intro acc ⟨ha, he⟩
    rw [withoutF, List.append_nil] at he
    conv => whnf
    refine brk_i (fun h => absurd h (by simp)) (fun _ => ?_)
    conv => whnf
    rw [← he] at ha ⊢
    refine CallA_view (ds := [.agg (sCells s off), gaugesD (withoutF q s.gauges 0)]) (fn64 s off (withoutF q s.gauges 0) (h.sub (fun g hg => withoutF_mem g hg) withoutF_len)) rfl 1 (viewL_cons rfl (viewL_cons (viewV_sl rfl (by simp)) rfl)) ?_
    conv => whnf
    exact RetA_view 0 rfl ⟨⟨rfl, rfl⟩, rfl⟩

def doubtsQ (s : Shot) (off : Int) : List Int :=
  match chooseF (doubtW s off) s.gauges.length with
  | some (q, _) => q
  | none => []

def doubtsE (c : Case) (i : Int) : List Int :=
  if openE c i = 0 then (match c.chain.shots[i.toNat]? with
    | some s => doubtsQ s c.chain.err
    | none => []) else []

theorem fn17 (c : Case) (i : Int) : FnV Try.prog 17 [c.d, i64 i] (.tup [intsD (doubtsE c i), i64 (openE c i)]) := by
  refine fnV_of mixed tysOk Try.func17 rfl (ft := ft17) 2 (by decide +kernel) (by rfl) fun {σ} Y st => ?_
  conv => whnf
  refine CallA_v (ds := [c.d, i64 i]) (fn57 c i) rfl rfl ?_
  by_cases h0 : openE c i = 0
  · obtain ⟨hc, s, hi, hs⟩ := openE_ok h0
    have hR := case_ok hc
    have hm := List.mem_of_getElem? hs
    have hL := hR.look hm
    have hr := (hR.shots s hm).1
    have hlen := hr.len
    have hD : openD c i = .agg (sCells s c.chain.err) := by simp [openD, h0, hs]
    rw [hD, h0]
    conv => whnf
    have hwant : Want96 62 [.ref (sCells s c.chain.err)] (doubtW s c.chain.err) s.gauges.length := fun q _ hq => fn62 s c.chain.err q hL (by omega)
    refine CallA_frz 1 [6] ?_
    refine CallA_sub (e' := [(2, .ptr 2 0), (4, .d .nils), (7, .d (i64 0))]) (h' := []) (args' := [.d (i64 s.gauges.length), .d (.clo 62 [.ref (sCells s c.chain.err)])]) ⟨rfl, rfl, rfl, trivial⟩ trivial (by simp only [List.length_map]; rfl) ?_
    refine CallA_y (fn61 62 [.ref (sCells s c.chain.err)] (doubtW s c.chain.err) s.gauges.length (by omega) hwant Y st) [] rfl rfl rfl rfl ?_
    rintro v h1 s' ⟨rfl, rfl, hv⟩
    cases hF : chooseF (doubtW s c.chain.err) s.gauges.length with
    | some r =>
      obtain ⟨q, y⟩ := r
      rw [hF] at hv
      simp only at hv
      subst hv
      refine ⟨rfl, ?_⟩
      conv => whnf
      refine RetA_view 0 rfl ⟨⟨?_, rfl⟩, rfl⟩
      simp [doubtsE, doubtsQ, h0, hs, hF, packD]
    | none =>
      rw [hF] at hv
      obtain ⟨y, rfl⟩ := hv
      refine ⟨rfl, ?_⟩
      conv => whnf
      refine RetA_view 0 rfl ⟨⟨?_, rfl⟩, rfl⟩
      simp [doubtsE, doubtsQ, h0, hs, hF, packD]
  · have hD : openD c i = .agg [.str ⟨#[]⟩, i64 0, i64 0, i64 0, i64 0, i64 0, i64 0, .nils, i64 0] := by simp [openD, h0]
    rw [hD]
    conv => whnf
    refine brk_i (fun h1 => ?_) (fun h1 => absurd h0 (by simpa using h1))
    conv => whnf
    refine RetA_nil0 ?_
    refine RetA_view 0 rfl ⟨⟨?_, rfl⟩, rfl⟩
    simp [doubtsE, h0, packD, intsD]
end Go.PX

namespace Go.PX
open Go.Proofs

/-- All ascending lists that go on so, with so many numbers to come. -/
def listsF (below : Nat) : Nat → List Int → Nat → List (List Int)
  | 0, p, _ => [p]
  | many + 1, p, start => (List.range' start (below - start)).flatMap fun (i : Nat) => listsF below many (p ++ [(i : Int)]) (i + 1)

theorem listsF_len (below : Nat) (hb : below ≤ 8) : ∀ (many : Nat) (p : List Int) (start : Nat), (listsF below many p start).length ≤ 8 ^ many
  | 0, p, start => by simp [listsF]
  | many + 1, p, start => by
    have key : ∀ (l : List Nat), (l.flatMap fun (i : Nat) => listsF below many (p ++ [(i : Int)]) (i + 1)).length ≤ l.length * 8 ^ many := by
      intro l
      induction l with
      | nil => simp
      | cons a r ih =>
        have := listsF_len below hb many (p ++ [(a : Int)]) (a + 1)
        simp only [List.flatMap_cons, List.length_append, List.length_cons, Nat.add_mul, Nat.one_mul]
        omega
    have h1 := key (List.range' start (below - start))
    simp only [List.length_range'] at h1
    rw [listsF, Nat.pow_succ]
    have h2 : (below - start) * 8 ^ many ≤ 8 * 8 ^ many := Nat.mul_le_mul_right _ (by omega)
    omega

def listsD (l : List (List Int)) : D := .vs (l.map fun q => [intsD q])

/-- Where the next number begins. -/
def startOk (p : List Int) (start : Nat) : Prop := (p = [] ∧ start = 0) ∨ ∃ q, p = q ++ [(start : Int) - 1]

theorem fn65 (below : Nat) (hb : below ≤ 8) : ∀ (many : Nat) (p : List Int) (start : Nat), many ≤ 8 → p.length + many ≤ 100 → start ≤ 1000 → startOk p start → FnV Try.prog 65 [intsD p, i64 many, i64 below] (listsD (listsF below many p start))
  | 0, p, start, hm, hp, hs, hst => by
    refine fnV_of mixed tysOk Try.func65 rfl (ft := ft65) 3 (by decide +kernel) (by rfl) fun {σ} Y st => ?_
    conv => whnf
    exact RetA_sl (es := [[intsD p]]) rfl rfl ⟨⟨rfl, rfl⟩, rfl⟩
  | many + 1, p, start, hm, hp, hs, hst => by
    refine fnV_of mixed tysOk Try.func65 rfl (ft := ft65) 3 (by decide +kernel) (by rfl) fun {σ} Y st => ?_
    conv => whnf
    have ih := fn65 below hb many
    have hpow : 8 ^ (many + 1) ≤ 134217728 := by
      have : 8 ^ (many + 1) ≤ 8 ^ 9 := Nat.pow_le_pow_right (by omega) (by omega)
      omega
    have hlen := listsF_len below hb (many + 1) p start
    obtain ⟨total, ht⟩ : ∃ t, t = listsF below (many + 1) p start := ⟨_, rfl⟩
    rw [← ht] at hlen ⊢
    refine brk_i (fun h1 => ?_) (fun h1 => ?_)
    case' refine_1 =>
      have h1 : 0 < p.length := by simpa using h1
      obtain ⟨q, hq⟩ : ∃ q, p = q ++ [(start : Int) - 1] := by
        rcases hst with ⟨rfl, _⟩ | h
        · simp at h1
        · exact h
      conv => whnf
      refine arith_to ((p.length - 1 : Nat) : Int) (by simp; omega) (wrap_i64 (by omega)) ?_
      conv => whnf
      refine elemK_i [i64 ((start : Int) - 1)] ⟨by omega, by rw [hq]; simp⟩ ?_
      conv => whnf
      refine arith_to ((start : Int)) (by (try dsimp only); omega) (wrap_i64 (by (try dsimp only); omega)) ?_
      conv => whnf
    case' refine_2 =>
      have h1 : start = 0 := by
        rcases hst with ⟨_, h⟩ | ⟨q, rfl⟩
        · exact h
        · simp at h1
      subst h1
      conv => whnf
    all_goals
      refine LoopA_p (T := tys) tysOk (by exact drawsB_spec mixed tysOk (by decide +kernel)) (α := Nat × List (List Int))
        (fun x => ⟨[(0, .d (intsD p)), (1, .d (i64 (many + 1 : Nat))), (2, .d (i64 below)), (8, .sl 41 1 0 x.2.length), (9, .d (i64 x.1))], [(41, .arr 1 (.dd (x.2.map fun q => [intsD q])))], st⟩)
        (fun x => x.1 ≤ max 1000 below ∧ total = x.2 ++ (List.range' x.1 (below - x.1)).flatMap fun (i : Nat) => listsF below many (p ++ [(i : Int)]) (i + 1)) (fun x => below - x.1) (_, [])
        ((Wk.born 8 41 1 rfl rfl rfl).trans (Wk.sub ⟨rfl, rfl, rfl, rfl, rfl, trivial⟩ ⟨rfl, trivial⟩)) ⟨by simp only; omega, ht⟩ ?_
      clear h1 hst ht
      rintro ⟨i, acc⟩ ⟨hi, he⟩
      simp only at hi he
      conv => whnf
      refine brk_i (fun h2 => ?_) (fun h2 => ?_)
      · have h2 : i < below := by have := of_decide_eq_true h2; omega
        obtain ⟨m, hm1⟩ : ∃ m, below - i = m + 1 := ⟨below - i - 1, by omega⟩
        have hm2 : below - (i + 1) = m := by omega
        rw [hm1, List.range'_succ, List.flatMap_cons] at he
        have hacc : acc.length + (listsF below many (p ++ [(i : Int)]) (i + 1)).length ≤ 134217728 := by
          have := hlen
          rw [he] at this
          simp only [List.length_append] at this
          omega
        conv => whnf
        refine ownK.mk rfl ?_
        conv => whnf
        refine chk_i (by
          show (lenAllD 1 (p.map fun n => [i64 n]) && true) = true
          rw [lenAllD_map (fun x => ⟨rfl, rfl⟩)]; rfl) ?_
        conv => whnf
        refine chk_i (by simp [Els.len, Els.part]; omega) ?_
        conv => whnf
        refine ownK_whole rfl ?_
        conv => whnf
        refine ownK.mk (by simp [Els.len, Els.part]) ?_
        conv => whnf
        refine chk_i (by simp [Els.len, Els.part, Els.cons, V.cells]; omega) ?_
        conv => whnf
        refine arith_to (many : Int) (by omega) (wrap_i64 (by omega)) ?_
        conv => whnf
        have hbuf : intsC (p ++ [(i : Int)]) = ((p.map fun n => [i64 n]).drop 0).take (((Els.part (.dd []) 0 0).len + (Els.dd (p.map fun n => [i64 n])).len)) ++ [[i64 (i : Int)]] := by
          simp [intsC, Els.len, Els.part, List.take_of_length_le]
        refine CallA_frz 1 [36] ?_
        refine CallA_sub (e' := [(0, .d (intsD p)), (1, .d (i64 (many + 1 : Nat))), (2, .d (i64 below)), (9, .d (i64 i)), (30, .sl 41 1 0 acc.length)]) (h' := [(41, .arr 1 (.dd (acc.map fun q => [intsD q])))])
          (args' := [.d (intsD (p ++ [(i : Int)])), .d (i64 many), .d (i64 below)]) ⟨rfl, rfl, rfl, rfl, rfl, trivial⟩ ⟨rfl, trivial⟩ ?_ ?_
        · exact replL_sl0 (ds := [i64 many, i64 below]) (viewV_sl' (es' := intsC (p ++ [(i : Int)])) rfl hbuf.symm (by simp [intsC, Els.len, Els.part, Els.cons, V.cells]))
        refine CallA_v (ih (p ++ [(i : Int)]) (i + 1) (by omega) (by simp; omega) (by omega) (.inr ⟨p, by simp⟩)) rfl rfl ?_
        conv => whnf
        refine ownK.mk (by simp [Els.len]) ?_
        conv => whnf
        refine chk_i (by
          show (lenAllD 1 ((listsF below many (p ++ [(i : Int)]) (i + 1)).map fun q => [intsD q]) && true) = true
          rw [lenAllD_map (fun x => ⟨rfl, rfl⟩)]; rfl) ?_
        conv => whnf
        refine chk_i (by simp [Els.len, Els.part]; omega) ?_
        conv => whnf
        refine arith_to ((i + 1 : Nat) : Int) (by omega) (wrap_i64 (by omega)) ?_
        conv => whnf
        refine ⟨(i + 1, acc ++ listsF below many (p ++ [(i : Int)]) (i + 1)), by simp only; omega, ⟨by simp only; omega, by simp only; rw [hm2, List.append_assoc]; exact he⟩, Wk.sub ⟨rfl, rfl, rfl, ?_, rfl, trivial⟩ ⟨?_, trivial⟩⟩
        · simp [PX.get, Els.len, Els.part]
        · simp [PX.get, Els.app, Els.part, List.take_of_length_le]
      · have h2 : ¬ i < below := by have := of_decide_eq_false h2; omega
        rw [show below - i = 0 by omega] at he
        conv => whnf
        simp only [List.range'_zero, List.flatMap_nil, List.append_nil] at he
        rw [he]
        exact RetA_sl rfl (by simp) ⟨⟨rfl, rfl⟩, rfl⟩
end Go.PX
