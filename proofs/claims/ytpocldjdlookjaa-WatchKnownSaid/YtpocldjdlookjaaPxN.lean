import Derived.Test.YtpocldjdlookjaaPxM
import Derived.Test.YtpocldjdlookjaaPxI
set_option linter.all false
set_option maxRecDepth 10000
namespace Go.PX
open Go.Proofs

/- Watch: Missing. -/

theorem walk_app {c : WCase} {set : Int} : ∀ {l1 l2 : List (List Int)} {t : Tired} {i : Int}, 0 ≤ i → (walkF c set t (l1 ++ l2) i).1.1 = -1 → (walkF c set t l1 i).1.1 = -1
  | [], l2, t, i, _, _ => rfl
  | r :: l1, l2, t, i, hi, h => by
    rw [List.cons_append, walkF] at h
    rw [walkF]
    split
    · rename_i h1
      rw [if_pos h1] at h
      exact walk_app (by omega) h
    · rename_i h1
      rw [if_neg h1] at h
      exact h

def missT (c : WCase) (rota : List (List Int)) (from_ : Int) : Tired := (walkF c (allMen c) .zero (rota.take from_.toNat) 0).2
def missE (c : WCase) (rota : List (List Int)) (from_ : Int) : Int :=
  if entE c rota = 0 then (if ¬ (0 ≤ from_ ∧ from_ ≤ rota.length) ∨ (rota.length : Int) - from_ > 12 then 7 else if (walkF c (allMen c) .zero rota 0).1.1 ≥ 0 then 9 else 0) else entE c rota
def canDo (c : WCase) (t : Tired) (n : Nat) (m : Int) : Bool := (fillW c (butSet c m) (List.replicate n []) 0 t []).1.isSome
def missL (c : WCase) (rota : List (List Int)) (from_ : Int) : List Int := ((List.range c.men.length).filter fun (i : Nat) => canDo c (missT c rota from_) (rota.length - from_.toNat) i).map fun (i : Nat) => (i : Int)

theorem relax_nils : ∀ k : Nat, relaxE (List.replicate k [D.nils]) = (List.replicate k ([] : List Int)).map fun r => [intsD r]
  | 0 => rfl
  | k + 1 => by
    rw [List.replicate_succ, List.replicate_succ, relaxE, relax_nils k]; rfl

theorem wa38 (c : WCase) (rota : List (List Int)) (from_ : Int) : FnV Try.prog 38 [c.d, rotaD rota, i64 from_] (.tup [if missE c rota from_ = 0 then intsN (missL c rota from_) else .nils, i64 (missE c rota from_)]) := by
  refine fnV_of mixed tysOk Try.func38 rfl (ft := (ft38.more 14 [105888])) 3 (by decide +kernel) (by rfl) fun {σ} Y st => ?_
  conv => whnf
  refine CallA_v (wa63 c rota) rfl rfl ?_
  conv => whnf
  by_cases h0 : entE c rota = 0
  · obtain ⟨hR, hl, _⟩ := ent_ok h0
    have hrs := rows_small h0
    have hm := hR.men
    rw [h0]
    simp only [if_true]
    conv => whnf
    rw [List.length_map]
    refine CallA_view (ds := [i64 0, i64 rota.length, .vs [[i64 from_]]]) (wa55_1 0 rota.length from_) rfl 1 rfl ?_
    conv => whnf
    refine brk_i (fun h1 => ?_) (fun h1 => ?_)
    · have h1 : ¬ (0 ≤ from_ ∧ from_ ≤ rota.length) := by
        intro h2
        have : inB from_ 0 rota.length = true := inB_iff.2 h2
        rw [this] at h1; cases h1
      have hE : missE c rota from_ = 7 := by rw [missE, if_pos h0, if_pos (.inl h1)]
      rw [hE]
      conv => whnf
      exact RetA_view 0 rfl ⟨⟨rfl, rfl⟩, rfl⟩
    have h1 : 0 ≤ from_ ∧ from_ ≤ rota.length := by
      have : inB from_ 0 rota.length = true := by simpa using h1
      exact inB_iff.1 this
    have hlm : ((rota.map fun r => [intsD r]).length : Int) = rota.length := by simp
    conv => whnf
    refine arith_to ((rota.length : Int) - from_) (by rw [hlm]) (wrap_i64 (by omega)) ?_
    conv => whnf
    refine brk_i (fun h2 => ?_) (fun h2 => ?_)
    · have h2 : (rota.length : Int) - from_ > 12 := of_decide_eq_true h2
      have hE : missE c rota from_ = 7 := by rw [missE, if_pos h0, if_pos (.inr h2)]
      rw [hE]
      conv => whnf
      exact RetA_view 0 rfl ⟨⟨rfl, rfl⟩, rfl⟩
    have h2 : ¬ (rota.length : Int) - from_ > 12 := of_decide_eq_false h2
    have hz := TG.zero hR
    have hrk := rows_ok h0
    conv => whnf
    refine CallA_v (ds := [crewD c (allMen c), Tired.zero.d, rotaD rota]) (wa64 c hR (allMen c) .zero hz.slot hz.bd rota hrk hl) rfl rfl ?_
    conv => whnf
    refine brk_i (fun h3 => ?_) (fun h3 => ?_)
    · have h3 : (walkF c (allMen c) .zero rota 0).1.1 ≥ 0 := of_decide_eq_true h3
      have hE : missE c rota from_ = 9 := by rw [missE, if_pos h0, if_neg (by omega), if_pos h3]
      rw [hE]
      conv => whnf
      exact RetA_view 0 rfl ⟨⟨rfl, rfl⟩, rfl⟩
    have h3 : ¬ (walkF c (allMen c) .zero rota 0).1.1 ≥ 0 := of_decide_eq_false h3
    have hE : missE c rota from_ = 0 := by rw [missE, if_pos h0, if_neg (by omega), if_neg h3]
    rw [hE]
    have hgood : (walkF c (allMen c) .zero rota 0).1.1 = -1 := by
      rcases walk_at (c := c) (set := allMen c) (rota := rota) (t := .zero) (i := 0) with h | h
      · exact h
      · omega
    have hgt : (walkF c (allMen c) .zero (rota.take from_.toNat) 0).1.1 = -1 := walk_app (l2 := rota.drop from_.toNat) (Int.le_refl 0) (by rw [List.take_append_drop]; exact hgood)
    have hU : InU c (missT c rota from_) := walk_InU hR (Int.le_refl 0) (InU.zero hR) hgt
    conv => whnf
    refine chk_i (by rw [hlm]; simp; omega) ?_
    conv => whnf
    refine chk_i (by cases rota <;> rfl) ?_
    conv => whnf
    have htk : (((rota.map fun r => [intsD r]).take from_.toNat).drop 0) = (rota.take from_.toNat).map fun r => [intsD r] := by simp [List.map_take]
    rw [htk]
    refine CallA_v (ds := [crewD c (allMen c), Tired.zero.d, rotaD (rota.take from_.toNat)]) (wa64 c hR (allMen c) .zero hz.slot hz.bd (rota.take from_.toNat) (fun r hr => hrk r (List.mem_of_mem_take hr)) (by rw [List.length_take]; omega)) rfl rfl ?_
    conv => whnf
    generalize hM : missL c rota from_ = M
    have hTd : (walkF c (allMen c) .zero (rota.take from_.toNat) 0).2 = missT c rota from_ := rfl
    have hMd : M = ((List.range c.men.length).filter fun (i : Nat) => canDo c (missT c rota from_) (rota.length - from_.toNat) i).map fun (i : Nat) => (i : Int) := hM.symm
    clear hM
    generalize missT c rota from_ = t at hU hTd hMd
    rw [hTd, List.length_map]
    refine LoopA_i (T := tys) tysOk (by exact drawsB_spec mixed tysOk (by decide +kernel)) (List.range c.men.length) (fun j (acc : List Int) => ⟨[(1, .d (rotaD rota)), (2, .d (i64 from_)), (3, .ptr 3 0), (6, match acc with
        | [] => .d .nils
        | x :: r => .sl 99 1 0 (x :: r).length), (8, .d (crewD c (allMen c))), (16, .ptr 16 0), (68, .d (i64 c.men.length)), (69, .d (i64 j))], match acc with
        | [] => [(3, .box (.dd c.cells)), (16, .box (.dd t.cells))]
        | x :: r => [(3, .box (.dd c.cells)), (16, .box (.dd t.cells)), (99, .arr 1 (.dd (intsC (x :: r))))], st⟩)
      (fun j r acc => acc.length ≤ j ∧ M = acc ++ (r.filter fun (i : Nat) => canDo c t (rota.length - from_.toNat) i).map fun (i : Nat) => (i : Int)) [] (Wk.sub ⟨(by first | rfl | (simp only [List.length_map]; rfl) | simp [PX.get]), (by first | rfl | (simp only [List.length_map]; rfl) | simp [PX.get]), (by first | rfl | (simp only [List.length_map]; rfl) | simp [PX.get]), (by first | rfl | (simp only [List.length_map]; rfl) | simp [PX.get]), (by first | rfl | (simp only [List.length_map]; rfl) | simp [PX.get]), (by first | rfl | (simp only [List.length_map]; rfl) | simp [PX.get]), (by first | rfl | (simp only [List.length_map]; rfl) | simp [PX.get]), (by first | rfl | (simp only [List.length_map]; rfl) | simp [PX.get]), trivial⟩ ⟨(by first | rfl | (simp only [List.length_map]; rfl) | simp [PX.get]), (by first | rfl | (simp only [List.length_map]; rfl) | simp [PX.get]), trivial⟩) ⟨by simp, hMd⟩ ?_ ?_
    · intro j x r acc hx hj hr2 hi
      obtain ⟨hal, he⟩ := hi
      have hxj : j = x := by
        rw [List.getElem?_range (by simpa using hj)] at hx
        exact Option.some.inj hx
      subst hxj
      have hjm : j < c.men.length := by simpa using hj
      have hpw : (1 : Int) * 2 ^ min (j : Int).toNat IntKind.i64.bits = 2 ^ ((j : Int).toNat) := by
        rw [show min (j : Int).toNat IntKind.i64.bits = j by show min j 64 = j; omega, Int.one_mul]; rfl
      have hpb : (2 : Int) ^ ((j : Int).toNat) ≤ 32 ∧ 0 ≤ (2 : Int) ^ ((j : Int).toNat) := by
        have : j = 0 ∨ j = 1 ∨ j = 2 ∨ j = 3 ∨ j = 4 := by omega
        rcases this with rfl | rfl | rfl | rfl | rfl <;> decide
      have hfl : ∀ b : Bool, canDo c t (rota.length - from_.toNat) j = b → ((j :: r).filter fun (i : Nat) => canDo c t (rota.length - from_.toNat) i) = (if b then [j] else []) ++ r.filter fun (i : Nat) => canDo c t (rota.length - from_.toNat) i := by
        intro b hb
        rw [List.filter_cons, hb]
        cases b <;> rfl
      have hk : ((rota.length : Int) - from_).toNat = rota.length - from_.toNat := by omega
      cases acc with
      | nil =>
        conv => whnf
        refine brk_i (fun _ => ?_) (fun h => absurd hjm (by have := of_decide_eq_false h; omega))
        conv => whnf
        refine arith_to (2 ^ ((j : Int).toNat)) hpw (wrap_i64 (by omega)) ?_
        conv => whnf
        refine arith_to ((rota.length : Int) - from_) (by rw [hlm]) (wrap_i64 (by omega)) ?_
        conv => whnf
        refine chk_i (by rw [Bool.and_eq_true]; exact ⟨rfl, by simp; omega⟩) ?_
        conv => whnf
        refine chk_i (decide_eq_true (by dsimp only; omega)) ?_
        conv => whnf
        have hI : FnU Try.prog 83 [.d (crewD c (butSet c j)), .d (Gap.d ⟨(0 : Nat), t⟩), .d (rotaD (List.replicate (rota.length - from_.toNat) [])), .mp 1000000] [(1000000, .map (kgD []))] (fun v h' => v = fillV (List.replicate (rota.length - from_.toNat) ([] : List Int)).length (fillW c (butSet c j) (List.replicate (rota.length - from_.toNat) []) 0 t []) ∧ h' = fillHp 0 (fillW c (butSet c j) (List.replicate (rota.length - from_.toNat) []) 0 t [])) :=
          fun {σ} => fillOk hR (by rw [List.length_replicate]; omega) (fun r hr => by rw [List.eq_of_mem_replicate hr]; simp) (List.replicate (rota.length - from_.toNat) []) 0 t [] hU (fun g v h => by cases h) rfl (by simp)
        have hcd : canDo c t (rota.length - from_.toNat) j = (fillW c (butSet c j) (List.replicate (rota.length - from_.toNat) []) 0 t []).1.isSome := rfl
        refine DrawCall_part 2 [81, 90] ?_
        refine DrawCall_rep (args' := [.d (crewD c (butSet c j)), .d (Gap.d ⟨(0 : Nat), t⟩), .d (rotaD (List.replicate (rota.length - from_.toNat) [])), .mp 91]) (fun yv L F w l h => by
          obtain ⟨x1, l1, rfl, h1, x2, l2, rfl, h2, x3, l3, rfl, h3, h4⟩ := h
          refine ⟨x1, _, rfl, h1, x2, _, rfl, h2, x3, _, rfl, ?_, h4⟩
          have h5 := RepD.relax _ _ (RepV_sl (d := .vs (List.replicate (rota.length - from_.toNat) [D.nils])) h3 (viewV_sl' rfl (by rw [hk]) (by rw [hk]; simp)))
          have h6 : relax (.vs (List.replicate (rota.length - from_.toNat) [D.nils])) = rotaD (List.replicate (rota.length - from_.toNat) []) := by
            show D.vs (relaxE _) = _
            rw [relax_nils]; rfl
          rw [h6] at h5
          exact h5) ?_
        generalize fillW c (butSet c j) (List.replicate (rota.length - from_.toNat) []) 0 t [] = r2 at hI hcd
        obtain ⟨o, kg2⟩ := r2
        cases o with
        | none =>
          rw [hfl false (by rw [hcd]; rfl)] at he
          conv => whnf
          refine DrawCall_fn hI [91] rfl ⟨_, _, rfl, rfl, rfl⟩ rfl ?_
          conv => whnf
          refine arith_in (wrap_i64 (by (try dsimp only); omega)) ?_
          conv => whnf
          refine ⟨[], ⟨by simp, by simpa using he⟩, (Wk.sub ⟨(by first | rfl | (simp only [List.length_map]; rfl) | simp [PX.get]), (by first | rfl | (simp only [List.length_map]; rfl) | simp [PX.get]), (by first | rfl | (simp only [List.length_map]; rfl) | simp [PX.get]), (by first | rfl | (simp only [List.length_map]; rfl) | simp [PX.get]), (by first | rfl | (simp only [List.length_map]; rfl) | simp [PX.get]), (by first | rfl | (simp only [List.length_map]; rfl) | simp [PX.get]), (by first | rfl | (simp only [List.length_map]; rfl) | simp [PX.get]), (by first | rfl | (simp only [List.length_map]; rfl) | simp [PX.get]), trivial⟩ ⟨(by first | rfl | (simp only [List.length_map]; rfl) | simp [PX.get]), (by first | rfl | (simp only [List.length_map]; rfl) | simp [PX.get]), trivial⟩)⟩
        | some l2 =>
          rw [hfl true (by rw [hcd]; rfl)] at he
          conv => whnf
          refine DrawCall_fn hI [91] rfl ⟨_, _, rfl, rfl, rfl⟩ rfl ?_
          conv => whnf
          refine ownK_whole rfl ?_
          conv => whnf
          refine arith_in (wrap_i64 (by (try dsimp only); omega)) ?_
          conv => whnf
          refine ⟨[(j : Int)], ⟨by simp, by simpa using he⟩, (Wk.sub ⟨(by first | rfl | (simp only [List.length_map]; rfl) | simp [PX.get]), (by first | rfl | (simp only [List.length_map]; rfl) | simp [PX.get]), (by first | rfl | (simp only [List.length_map]; rfl) | simp [PX.get]), (by first | rfl | (simp only [List.length_map]; rfl) | simp [PX.get]), (by first | rfl | (simp only [List.length_map]; rfl) | simp [PX.get]), (by first | rfl | (simp only [List.length_map]; rfl) | simp [PX.get]), (by first | rfl | (simp only [List.length_map]; rfl) | simp [PX.get]), (by first | rfl | (simp only [List.length_map]; rfl) | simp [PX.get]), trivial⟩ ⟨(by first | rfl | (simp only [List.length_map]; rfl) | simp [PX.get]), (by first | rfl | (simp only [List.length_map]; rfl) | simp [PX.get]), (by first | rfl | (simp only [List.length_map]; rfl) | simp [PX.get]), trivial⟩)⟩
      | cons a l =>
        conv => whnf
        refine brk_i (fun _ => ?_) (fun h => absurd hjm (by have := of_decide_eq_false h; omega))
        conv => whnf
        refine arith_to (2 ^ ((j : Int).toNat)) hpw (wrap_i64 (by omega)) ?_
        conv => whnf
        refine arith_to ((rota.length : Int) - from_) (by rw [hlm]) (wrap_i64 (by omega)) ?_
        conv => whnf
        refine chk_i (by rw [Bool.and_eq_true]; exact ⟨rfl, by simp; omega⟩) ?_
        conv => whnf
        refine chk_i (decide_eq_true (by dsimp only; omega)) ?_
        conv => whnf
        have hI : FnU Try.prog 83 [.d (crewD c (butSet c j)), .d (Gap.d ⟨(0 : Nat), t⟩), .d (rotaD (List.replicate (rota.length - from_.toNat) [])), .mp 1000000] [(1000000, .map (kgD []))] (fun v h' => v = fillV (List.replicate (rota.length - from_.toNat) ([] : List Int)).length (fillW c (butSet c j) (List.replicate (rota.length - from_.toNat) []) 0 t []) ∧ h' = fillHp 0 (fillW c (butSet c j) (List.replicate (rota.length - from_.toNat) []) 0 t [])) :=
          fun {σ} => fillOk hR (by rw [List.length_replicate]; omega) (fun r hr => by rw [List.eq_of_mem_replicate hr]; simp) (List.replicate (rota.length - from_.toNat) []) 0 t [] hU (fun g v h => by cases h) rfl (by simp)
        have hcd : canDo c t (rota.length - from_.toNat) j = (fillW c (butSet c j) (List.replicate (rota.length - from_.toNat) []) 0 t []).1.isSome := rfl
        refine DrawCall_part 2 [81, 90] ?_
        refine DrawCall_rep (args' := [.d (crewD c (butSet c j)), .d (Gap.d ⟨(0 : Nat), t⟩), .d (rotaD (List.replicate (rota.length - from_.toNat) [])), .mp 91]) (fun yv L F w l h => by
          obtain ⟨x1, l1, rfl, h1, x2, l2, rfl, h2, x3, l3, rfl, h3, h4⟩ := h
          refine ⟨x1, _, rfl, h1, x2, _, rfl, h2, x3, _, rfl, ?_, h4⟩
          have h5 := RepD.relax _ _ (RepV_sl (d := .vs (List.replicate (rota.length - from_.toNat) [D.nils])) h3 (viewV_sl' rfl (by rw [hk]) (by rw [hk]; simp)))
          have h6 : relax (.vs (List.replicate (rota.length - from_.toNat) [D.nils])) = rotaD (List.replicate (rota.length - from_.toNat) []) := by
            show D.vs (relaxE _) = _
            rw [relax_nils]; rfl
          rw [h6] at h5
          exact h5) ?_
        generalize fillW c (butSet c j) (List.replicate (rota.length - from_.toNat) []) 0 t [] = r2 at hI hcd
        obtain ⟨o, kg2⟩ := r2
        cases o with
        | none =>
          rw [hfl false (by rw [hcd]; rfl)] at he
          conv => whnf
          refine DrawCall_fn hI [91] rfl ⟨_, _, rfl, rfl, rfl⟩ rfl ?_
          conv => whnf
          refine arith_in (wrap_i64 (by (try dsimp only); omega)) ?_
          conv => whnf
          refine ⟨a :: l, ⟨by simp at hal ⊢; omega, by simpa using he⟩, (Wk.sub ⟨(by first | rfl | (simp only [List.length_map]; rfl) | simp [PX.get]), (by first | rfl | (simp only [List.length_map]; rfl) | simp [PX.get]), (by first | rfl | (simp only [List.length_map]; rfl) | simp [PX.get]), (by first | rfl | (simp only [List.length_map]; rfl) | simp [PX.get]), (by first | rfl | (simp only [List.length_map]; rfl) | simp [PX.get]), (by first | rfl | (simp only [List.length_map]; rfl) | simp [PX.get]), (by first | rfl | (simp only [List.length_map]; rfl) | simp [PX.get]), (by first | rfl | (simp only [List.length_map]; rfl) | simp [PX.get]), trivial⟩ ⟨(by first | rfl | (simp only [List.length_map]; rfl) | simp [PX.get]), (by first | rfl | (simp only [List.length_map]; rfl) | simp [PX.get]), (by first | rfl | (simp only [List.length_map]; rfl) | simp [PX.get]), trivial⟩)⟩
        | some l2 =>
          rw [hfl true (by rw [hcd]; rfl)] at he
          conv => whnf
          refine DrawCall_fn hI [91] rfl ⟨_, _, rfl, rfl, rfl⟩ rfl ?_
          conv => whnf
          refine ownK_whole rfl ?_
          conv => whnf
          refine ownK_whole (by simp [Els.len, intsC]) ?_
          conv => whnf
          refine chk_i (decide_eq_true (by
            show ((intsC (a :: l)).length + 1) * 8 ≤ 140737488355328
            simp [intsC] at hal ⊢; omega)) ?_
          conv => whnf
          refine arith_in (wrap_i64 (by (try dsimp only); omega)) ?_
          conv => whnf
          refine ⟨a :: l ++ [(j : Int)], ⟨by simp at hal ⊢; omega, by simpa using he⟩, Wk.sub ⟨rfl, rfl, rfl, ?_, rfl, rfl, rfl, rfl, trivial⟩ ⟨rfl, rfl, ?_, trivial⟩⟩
          · show some (V.sl 99 1 0 ((intsC (a :: l)).length + 1)) = some (V.sl 99 1 0 (a :: (l ++ [(j : Int)])).length)
            simp [intsC]
          · show some (Obj.arr 1 (Els.dd (intsC (a :: l) ++ [[i64 (j : Int)]]))) = some (Obj.arr 1 (Els.dd (intsC (a :: (l ++ [(j : Int)])))))
            simp [intsC]
    · rintro acc ⟨_, he⟩
      have he : M = acc := by simpa using he
      rw [he]
      cases acc with
      | nil =>
        conv => whnf
        refine brk_i (fun h => absurd h (by simp)) (fun _ => ?_)
        conv => whnf
        exact RetA_view 0 rfl ⟨⟨rfl, rfl⟩, rfl⟩
      | cons a l =>
        conv => whnf
        refine brk_i (fun h => absurd h (by simp)) (fun _ => ?_)
        conv => whnf
        refine RetA_view 1 (ds := [intsD (a :: l), i64 0]) ?_ ⟨⟨rfl, rfl⟩, rfl⟩
        exact viewL_cons (viewV_sl (es := intsC (a :: l)) rfl (by simp [intsC])) rfl
  · have hE : missE c rota from_ = entE c rota := by rw [missE, if_neg h0]
    rw [hE]
    simp only [h0, if_false]
    conv => whnf
    exact RetA_view 0 rfl ⟨⟨rfl, rfl⟩, rfl⟩
end Go.PX

namespace Go.PX
open Go.Proofs

/- Watch: cases and rows of the examples. -/

def adaM : Man := ⟨⟨#[97, 100, 97]⟩, 2, []⟩
def benM : Man := ⟨⟨#[98, 101, 110]⟩, 1, []⟩
def cidM : Man := ⟨⟨#[99, 105, 100]⟩, 0, [2]⟩
def danM : Man := ⟨⟨#[100, 97, 110]⟩, 1, []⟩
def caseC (rest : Int) (dan : Bool) : WCase := ⟨[adaM, benM, cidM] ++ (if dan then [danM] else []), [⟨1, 1⟩, ⟨1, 0⟩, ⟨1, 0⟩], 1, rest⟩

theorem wa40 (rest : Int) (dan : Bool) : FnV Try.prog 40 [i64 rest, .bool dan] (caseC rest dan).d := by
  refine FnV.relax (r := .agg ((.vs ([[.str ⟨#[97, 100, 97]⟩, i64 2, .nils], [.str ⟨#[98, 101, 110]⟩, i64 1, .nils], [.str ⟨#[99, 105, 100]⟩, i64 0, intsD [2]]] ++ (if dan then [[.str ⟨#[100, 97, 110]⟩, i64 1, .nils]] else []))) :: (caseC rest dan).cells.tail)) ?_ (by cases dan <;> rfl)
  cases dan with
  | false =>
    refine fnV_of mixed tysOk Try.func40 rfl (ft := ft40) 2 (by decide +kernel) (by rfl) fun {σ} Y st => ?_
    conv => whnf
    exact RetA_view 3 rfl ⟨⟨rfl, rfl⟩, rfl⟩
  | true =>
    refine fnV_of mixed tysOk Try.func40 rfl (ft := ft40) 2 (by decide +kernel) (by rfl) fun {σ} Y st => ?_
    conv => whnf
    refine ownK_whole rfl ?_
    conv => whnf
    refine ownK_whole rfl ?_
    conv => whnf
    exact RetA_view 3 rfl ⟨⟨rfl, rfl⟩, rfl⟩

theorem wa24 (a b : List (List Int)) (ha : a.length < 1000000) (hr : ∀ r ∈ a, r.length < 1000000) : FnV Try.prog 24 [rotaD a, rotaD b] (.bool (decide (a = b))) := by
  refine fnV_of mixed tysOk Try.func24 rfl (ft := ft24) 2 (by decide +kernel) (by rfl) fun {σ} Y st => ?_
  conv => whnf
  refine brk_i (fun h0 => ?_) (fun h0 => ?_)
  · have h0 : ¬ a.length = b.length := by
      have : ¬ ((a.length : Int) = b.length) := by simpa using h0
      omega
    conv => whnf
    rw [decide_eq_false (fun e => h0 (by rw [e]))]
    exact RetA_view 0 rfl ⟨⟨rfl, rfl⟩, rfl⟩
  have h0 : a.length = b.length := by
    have : ((a.length : Int) = b.length) := by simpa using h0
    omega
  conv => whnf
  refine LoopA_i (T := tys) tysOk (by exact drawsB_spec mixed tysOk (by decide +kernel)) a (fun i (_ : Unit) => ⟨[(0, .d (rotaD a)), (1, .d (rotaD b)), (4, .d (.bool false)), (5, .d (i64 i))], [], st⟩)
    (fun i r _ => (decide (a = b)) = decide (r = b.drop i)) () (Wk.sub ⟨(by first | rfl | (simp only [List.length_map]; rfl) | simp [PX.get]), (by first | rfl | (simp only [List.length_map]; rfl) | simp [PX.get]), (by first | rfl | (simp only [List.length_map]; rfl) | simp [PX.get]), (by first | rfl | (simp only [List.length_map]; rfl) | simp [PX.get]), trivial⟩ trivial) rfl ?_ ?_
  · intro i x r _ hx hi hr' he
    have hib : i < b.length := by omega
    have hdb : b.drop i = b[i] :: b.drop (i + 1) := by rw [List.drop_eq_getElem_cons hib]
    rw [hdb] at he
    have hgb : b[i]? = some b[i] := List.getElem?_eq_getElem hib
    have hxr := hr x (List.mem_of_getElem? hx)
    conv => whnf
    refine brk_i (fun _ => ?_) (fun h => absurd hi (by have := of_decide_eq_false h; simp at this; omega))
    conv => whnf
    refine elemK_nat hx ?_
    conv => whnf
    refine elemK_nat hgb ?_
    conv => whnf
    refine DrawCall_v (ds := [intsD x, intsD b[i]]) (fn19 x b[i] hxr) rfl rfl ?_
    conv => whnf
    refine brk_i (fun h1 => ?_) (fun h1 => ?_)
    · have h1 : ¬ x = b[i] := by simpa using h1
      conv => whnf
      rw [he, decide_eq_false (fun e => h1 (List.cons.inj e).1)]
      exact RetA_view 0 rfl ⟨⟨rfl, rfl⟩, rfl⟩
    · have h1 : x = b[i] := by simpa using h1
      conv => whnf
      refine arith_in (wrap_i64 (by (try dsimp only); omega)) ?_
      conv => whnf
      refine ⟨(), ?_, (Wk.sub ⟨(by first | rfl | (simp only [List.length_map]; rfl) | simp [PX.get]), (by first | rfl | (simp only [List.length_map]; rfl) | simp [PX.get]), (by first | rfl | (simp only [List.length_map]; rfl) | simp [PX.get]), (by first | rfl | (simp only [List.length_map]; rfl) | simp [PX.get]), trivial⟩ trivial)⟩
      rw [he]
      exact decide_eq_decide.2 ⟨fun e => (List.cons.inj e).2, fun e => by rw [h1, e]⟩
  · intro _ he
    conv => whnf
    refine brk_i (fun h => absurd h (by simp)) (fun _ => ?_)
    conv => whnf
    have hd : b.drop a.length = [] := by rw [h0]; simp
    rw [he, hd]
    exact RetA_view 0 rfl ⟨⟨rfl, rfl⟩, rfl⟩

def rowsL (men : List Int) : List (List Int) := men.map fun m => [m]

theorem wa42 (men : List Int) (hl : men.length ≤ 1000) : FnV Try.prog 42 [intsD men] (rotaN (rowsL men)) := by
  refine fnV_of mixed tysOk Try.func42 rfl (ft := ft42) 1 (by decide +kernel) (by rfl) fun {σ} Y st => ?_
  conv => whnf
  generalize hM : rowsL men = M
  refine LoopA_i (T := tys) tysOk (by exact drawsB_spec mixed tysOk (by decide +kernel)) men (fun j (acc : List (List Int)) => ⟨[(0, .d (intsD men)), (3, match acc with
      | [] => .d .nils
      | x :: r => .sl 18 1 0 (x :: r).length), (4, .d (i64 j))], match acc with
      | [] => []
      | x :: r => [(18, .arr 1 (.dd ((x :: r).map fun r => [intsD r])))], st⟩)
    (fun j r acc => acc.length = j ∧ M = acc ++ rowsL r) [] (Wk.sub ⟨(by first | rfl | (simp only [List.length_map]; rfl) | simp [PX.get]), (by first | rfl | (simp only [List.length_map]; rfl) | simp [PX.get]), (by first | rfl | (simp only [List.length_map]; rfl) | simp [PX.get]), trivial⟩ trivial) ⟨rfl, hM.symm⟩ ?_ ?_
  · rintro j x r acc hx hj hr2 ⟨hal, he⟩
    have he : M = (acc ++ [[x]]) ++ rowsL r := by rw [he]; simp [rowsL]
    cases acc with
    | nil =>
      conv => whnf
      refine brk_i (fun _ => ?_) (fun h => absurd hj (by have := of_decide_eq_false h; simp at this; omega))
      conv => whnf
      refine elemK_nat hx ?_
      conv => whnf
      refine ownK_whole rfl ?_
      conv => whnf
      refine arith_in (wrap_i64 (by (try dsimp only); omega)) ?_
      conv => whnf
      refine ⟨[[x]], ⟨by simp at hal ⊢; omega, he⟩, (Wk.frzArr 1 [16] 18 (vs := [[.sl 16 1 0 1]]) (ds := [[intsD [x]]]) rfl (viewLL_one (viewL_cons (viewV_sl (es := [[i64 x]]) rfl rfl) rfl))).trans (Wk.sub ⟨(by first | rfl | (simp only [List.length_map]; rfl) | simp [PX.get]), (by first | rfl | (simp only [List.length_map]; rfl) | simp [PX.get]), (by first | rfl | (simp only [List.length_map]; rfl) | simp [PX.get]), trivial⟩ ⟨(by first | rfl | (simp only [List.length_map]; rfl) | simp [PX.get]), trivial⟩)⟩
    | cons a l =>
      conv => whnf
      refine brk_i (fun _ => ?_) (fun h => absurd hj (by have := of_decide_eq_false h; simp at this; omega))
      conv => whnf
      refine elemK_nat hx ?_
      conv => whnf
      refine ownK_whole rfl ?_
      conv => whnf
      refine ownK_whole (by simp [Els.len]) ?_
      conv => whnf
      have hfree : (true && !nameBL 18 ((injL ((a :: l).map fun r => [intsD r]) ++ [[V.sl 16 1 0 1]]).flatten)) = true := by
        rw [nameBL_injL]; rfl
      refine chk_i hfree ?_
      conv => whnf
      refine chk_i (decide_eq_true (by
        show (((a :: l).map fun r => [intsD r]).length + 1) * 24 ≤ 140737488355328
        rw [List.length_map]; omega)) ?_
      conv => whnf
      refine arith_in (wrap_i64 (by (try dsimp only); omega)) ?_
      conv => whnf
      refine ⟨a :: l ++ [[x]], ⟨by simp at hal ⊢; omega, he⟩, (Wk.frzArr 1 [16] 18 (sz := 1) (vs := injL ((a :: l).map fun r => [intsD r]) ++ [[.sl 16 1 0 1]]) (ds := ((a :: l).map fun r => [intsD r]) ++ [[intsD [x]]]) ?_ (viewLL_app (viewLL_one (viewL_cons (viewV_sl (es := [[i64 x]]) rfl rfl) rfl)) _)).trans ?_⟩
      · rfl
      · refine Wk.sub ⟨rfl, ?_, rfl, trivial⟩ ⟨?_, trivial⟩
        · show some (V.sl 18 1 0 (((a :: l).map fun r => [intsD r]).length + 1)) = some (V.sl 18 1 0 (a :: (l ++ [[x]])).length)
          simp
        · show some (Obj.arr 1 (Els.dd (((a :: l).map fun r => [intsD r]) ++ [[intsD [x]]]))) = some (Obj.arr 1 (Els.dd ((a :: (l ++ [[x]])).map fun r => [intsD r])))
          simp
  · rintro acc ⟨_, he⟩
    have he : M = acc := by simpa [rowsL] using he
    rw [he]
    cases acc with
    | nil =>
      conv => whnf
      refine brk_i (fun h => absurd h (by simp)) (fun _ => ?_)
      conv => whnf
      exact RetA_view 0 rfl ⟨⟨rfl, rfl⟩, rfl⟩
    | cons a l =>
      conv => whnf
      refine brk_i (fun h => absurd h (by simp)) (fun _ => ?_)
      conv => whnf
      refine RetA_view 1 (ds := [rotaD (a :: l)]) ?_ ⟨⟨rfl, rfl⟩, rfl⟩
      exact viewL_cons (viewV_sl (es := (a :: l).map fun r => [intsD r]) rfl (by simp)) rfl
end Go.PX

namespace Go.PX
open Go.Proofs

/- Watch: the values of the examples. -/

def aloneC : WCase := { caseC 2 false with men := [adaM, cidM] }

theorem aw1 : badF (caseC 2 false) (rowsL [0, 2, 0]) = (2, 5, 0, 0) := by decide +kernel
theorem aw2 : goodE (caseC 2 false) (rowsL [0, 2, 1, 0]) = 0 ∧ stoodL 3 (rowsL [0, 2, 1, 0]) = [2, 1, 1] := by decide +kernel
theorem aw3 : goodE (caseC 2 false) (rowsL [0]) = 0 ∧ canL (caseC 2 false) (rowsL [0]) = rowsL [1, 2] := by decide +kernel
theorem aw4 : nextL (caseC 2 false) (rowsL [0]) = rowsL [2] := by decide +kernel
theorem aw5 : entE aloneC [] = 0 ∧ lonW aloneC = 2 := by decide +kernel
theorem aw6 : entE (caseC 2 false) [] = 0 ∧ endB (caseC 2 false) (allMen (caseC 2 false)) .zero = true ∧ endlW (caseC 2 false) = (rowsL [0, 2, 1, 0, 2], 2) := by decide +kernel
theorem aw7 : entE (caseC 1 false) [] = 0 ∧ fewL (caseC 1 false) = [0, 1] := by decide +kernel
theorem aw8 : needL (caseC 2 false) = [0, 1, 2] := by decide +kernel
theorem aw9 : fillE (caseC 2 false) [[], [2], []] = 0 ∧ fillL (caseC 2 false) [[], [2], []] = rowsL [0, 2, 1] := by decide +kernel
theorem aw10 : missE (caseC 2 false) (rowsL [0, 2, 1, 0]) 3 = 0 ∧ missL (caseC 2 false) (rowsL [0, 2, 1, 0]) 3 = [1, 2] := by decide +kernel
theorem aw11 : goodE (caseC 2 false) (rowsL [0, 0]) = 9 := by decide +kernel

theorem kr (l : List Int) (x : Int) (r : List Int) (h : l = x :: r) (hl : l.length ≤ 1000) : FnV Try.prog 42 [intsD l] (rotaD (rowsL l)) := by
  subst h
  exact wa42 _ hl

theorem k17 : FnV Try.prog 17 [(caseC 2 false).d, rotaD (rowsL [0, 2, 0])] (.tup [i64 2, i64 5, i64 0, i64 0]) :=
  FnV.cast (wa17 _ _) (by rw [aw1])
theorem k19 : FnV Try.prog 19 [(caseC 2 false).d, rotaD (rowsL [0, 2, 1, 0])] (.tup [intsD [2, 1, 1], i64 0]) :=
  FnV.cast (wa19 _ _) (by rw [aw2.1, if_pos rfl, show (caseC 2 false).men.length = 3 from rfl, aw2.2])
theorem k22 : FnV Try.prog 22 [(caseC 2 false).d, rotaD (rowsL [0])] (.tup [rotaD (rowsL [1, 2]), i64 0]) :=
  FnV.cast (wa22 _ _) (by rw [aw3.1, if_pos rfl, aw3.2]; rfl)
theorem k25 : FnV Try.prog 25 [(caseC 2 false).d, rotaD (rowsL [0])] (.tup [rotaD (rowsL [2]), i64 0]) :=
  FnV.cast (wa25 _ _) (by rw [aw3.1, if_pos rfl, aw4]; rfl)
theorem k28 : FnV Try.prog 28 [aloneC.d] (.tup [i64 2, i64 0]) :=
  FnV.cast (wa28 _) (by rw [aw5.1, if_pos rfl, aw5.2])
theorem k30 : FnV Try.prog 30 [(caseC 2 false).d] (.tup [rotaD (rowsL [0, 2, 1, 0, 2]), i64 2, i64 0]) :=
  FnV.cast (wa30 _) (by rw [aw6.1, aw6.2.1, aw6.2.2]; rfl)
theorem k32 : FnV Try.prog 32 [(caseC 1 false).d] (.tup [intsD [0, 1], i64 0]) :=
  FnV.cast (wa32 _) (by rw [aw7.1, aw7.2]; rfl)
theorem k34 : FnV Try.prog 34 [(caseC 2 false).d] (.tup [intsD [0, 1, 2], i64 0]) :=
  FnV.cast (wa34 _) (by rw [aw6.1, aw6.2.1, aw8]; rfl)
theorem k36 : FnV Try.prog 36 [(caseC 2 false).d, rotaD [[], [2], []]] (.tup [rotaD (rowsL [0, 2, 1]), i64 0]) :=
  FnV.cast (wa36 _ _) (by rw [aw9.1, aw9.2]; rfl)
theorem k38 : FnV Try.prog 38 [(caseC 2 false).d, rotaD (rowsL [0, 2, 1, 0]), i64 3] (.tup [intsD [1, 2], i64 0]) :=
  FnV.cast (wa38 _ _ _) (by rw [aw10.1, aw10.2]; rfl)
theorem k22b : FnV Try.prog 22 [(caseC 2 false).d, rotaD (rowsL [0, 0])] (.tup [.nils, i64 9]) :=
  FnV.cast (wa22 _ _) (by rw [aw11]; rfl)

theorem wa27 : FnV Try.prog 27 [] (.bool true) := by
  refine fnV_of mixed tysOk Try.func27 rfl (ft := ft27) 0 (by decide +kernel) (by rfl) fun {σ} Y st => ?_
  conv => whnf
  refine CallA_v (ds := [i64 2, .bool false]) (wa40 2 false) rfl rfl ?_
  conv => whnf
  refine CallA_v (ds := [i64 2, .bool false]) (wa40 2 false) rfl rfl ?_
  conv => whnf
  refine DrawCall_fz (ds := [intsD [0, 2, 0]]) (kr [0, 2, 0] _ _ rfl (by simp)) 1 rfl rfl ?_
  conv => whnf
  refine DrawCall_v (ds := [(caseC 2 false).d, rotaD (rowsL [0, 2, 0])]) k17 rfl rfl ?_
  conv => whnf
  refine DrawCall_fz (ds := [intsD [0, 2, 1, 0]]) (kr [0, 2, 1, 0] _ _ rfl (by simp)) 1 rfl rfl ?_
  conv => whnf
  refine DrawCall_v (ds := [(caseC 2 false).d, rotaD (rowsL [0, 2, 1, 0])]) k19 rfl rfl ?_
  conv => whnf
  refine DrawCall_fz (ds := [intsD [0]]) (kr [0] _ _ rfl (by simp)) 1 rfl rfl ?_
  conv => whnf
  refine DrawCall_v (ds := [(caseC 2 false).d, rotaD (rowsL [0])]) k22 rfl rfl ?_
  conv => whnf
  refine DrawCall_fz (ds := [intsD [0]]) (kr [0] _ _ rfl (by simp)) 1 rfl rfl ?_
  conv => whnf
  refine DrawCall_v (ds := [(caseC 2 false).d, rotaD (rowsL [0])]) k25 rfl rfl ?_
  conv => whnf
  refine CallA_view (ds := [aloneC.d]) k28 rfl 2 rfl ?_
  conv => whnf
  refine CallA_v (ds := [(caseC 2 false).d]) k30 rfl rfl ?_
  conv => whnf
  refine CallA_v (ds := [i64 1, .bool false]) (wa40 1 false) rfl rfl ?_
  conv => whnf
  refine CallA_v (ds := [(caseC 1 false).d]) k32 rfl rfl ?_
  conv => whnf
  refine CallA_v (ds := [(caseC 2 false).d]) k34 rfl rfl ?_
  conv => whnf
  refine CallA_frz 2 [93, 94] ?_
  refine CallA_rep (args' := [.d (caseC 2 false).d, .d (rotaD [[], [2], []])]) (fun yv L F w l h => by
    obtain ⟨x1, l1, rfl, h1, x2, l2, rfl, h2, h3⟩ := h
    exact ⟨x1, _, rfl, h1, x2, _, rfl, RepD.relax (.vs [[.nils], [intsD [2]], [.nils]]) x2 h2, h3⟩) ?_
  refine CallA_v (ds := [(caseC 2 false).d, rotaD [[], [2], []]]) k36 rfl rfl ?_
  conv => whnf
  refine DrawCall_fz (ds := [intsD [0, 2, 1, 0]]) (kr [0, 2, 1, 0] _ _ rfl (by simp)) 1 rfl rfl ?_
  conv => whnf
  refine DrawCall_v (ds := [(caseC 2 false).d, rotaD (rowsL [0, 2, 1, 0]), i64 3]) k38 rfl rfl ?_
  conv => whnf
  refine DrawCall_fz (ds := [intsD [0, 0]]) (kr [0, 0] _ _ rfl (by simp)) 1 rfl rfl ?_
  conv => whnf
  refine DrawCall_v (ds := [(caseC 2 false).d, rotaD (rowsL [0, 0])]) k22b rfl rfl ?_
  conv => whnf
  refine CallA_view (ds := [intsD [2, 1, 1], intsD [2, 1, 1]]) (fn19 [2, 1, 1] [2, 1, 1] (by simp)) rfl 1 rfl ?_
  conv => whnf
  refine CallA_fz (ds := [intsD [1, 2]]) (kr [1, 2] _ _ rfl (by simp)) 1 [173] rfl rfl ?_
  conv => whnf
  refine CallA_v (ds := [rotaD (rowsL [1, 2]), rotaD (rowsL [1, 2])]) (wa24 (rowsL [1, 2]) (rowsL [1, 2]) (by decide) (by decide)) rfl rfl ?_
  conv => whnf
  refine CallA_fz (ds := [intsD [2]]) (kr [2] _ _ rfl (by simp)) 1 [179] rfl rfl ?_
  conv => whnf
  refine CallA_v (ds := [rotaD (rowsL [2]), rotaD (rowsL [2])]) (wa24 (rowsL [2]) (rowsL [2]) (by decide) (by decide)) rfl rfl ?_
  conv => whnf
  refine CallA_fz (ds := [intsD [0, 2, 1, 0, 2]]) (kr [0, 2, 1, 0, 2] _ _ rfl (by simp)) 1 [189] rfl rfl ?_
  conv => whnf
  refine CallA_v (ds := [rotaD (rowsL [0, 2, 1, 0, 2]), rotaD (rowsL [0, 2, 1, 0, 2])]) (wa24 (rowsL [0, 2, 1, 0, 2]) (rowsL [0, 2, 1, 0, 2]) (by decide) (by decide)) rfl rfl ?_
  conv => whnf
  refine CallA_view (ds := [intsD [0, 1], intsD [0, 1]]) (fn19 [0, 1] [0, 1] (by simp)) rfl 1 rfl ?_
  conv => whnf
  refine CallA_view (ds := [intsD [0, 1, 2], intsD [0, 1, 2]]) (fn19 [0, 1, 2] [0, 1, 2] (by simp)) rfl 1 rfl ?_
  conv => whnf
  refine CallA_fz (ds := [intsD [0, 2, 1]]) (kr [0, 2, 1] _ _ rfl (by simp)) 1 [209] rfl rfl ?_
  conv => whnf
  refine CallA_v (ds := [rotaD (rowsL [0, 2, 1]), rotaD (rowsL [0, 2, 1])]) (wa24 (rowsL [0, 2, 1]) (rowsL [0, 2, 1]) (by decide) (by decide)) rfl rfl ?_
  conv => whnf
  refine CallA_view (ds := [intsD [1, 2], intsD [1, 2]]) (fn19 [1, 2] [1, 2] (by simp)) rfl 1 rfl ?_
  conv => whnf
  exact RetA_view 0 rfl ⟨⟨rfl, rfl⟩, rfl⟩
end Go.PX

namespace Go.PX
open Go.Proofs

/- Watch: the examples. -/

def badK (c : WCase) (rota : List (List Int)) : List Int := if (badF c rota).2.2.2 = 0 then [(badF c rota).1, (badF c rota).2.1, (badF c rota).2.2.1] else [-2, 0, 0]

theorem wa41 (c : WCase) (rota : List (List Int)) : FnV Try.prog 41 [c.d, rotaD rota] (.agg ((badK c rota).map i64)) := by
  refine fnV_of mixed tysOk Try.func41 rfl (ft := ft41) 2 (by decide +kernel) (by rfl) fun {σ} Y st => ?_
  conv => whnf
  refine CallA_v (wa17 c rota) rfl rfl ?_
  conv => whnf
  unfold badK
  refine brk_i (fun h0 => ?_) (fun h0 => ?_)
  · have h0 : ¬ (badF c rota).2.2.2 = 0 := by simpa using h0
    rw [if_neg h0]
    conv => whnf
    exact RetA_view 0 rfl ⟨⟨rfl, rfl⟩, rfl⟩
  · have h0 : (badF c rota).2.2.2 = 0 := by simpa using h0
    rw [if_pos h0]
    conv => whnf
    exact RetA_view 0 rfl ⟨⟨rfl, rfl⟩, rfl⟩

theorem kb0 : FnV Try.prog 41 [(caseC 2 false).d, rotaD (rowsL [0, 2, 1])] (.agg ([-1, 0, 0].map i64)) := FnV.cast (wa41 _ _) (by rw [show badK (caseC 2 false) (rowsL [0, 2, 1]) = [-1, 0, 0] from by decide +kernel])
theorem kb1 : FnV Try.prog 41 [(caseC 2 false).d, rotaD (rowsL [0, 0])] (.agg ([1, 4, 0].map i64)) := FnV.cast (wa41 _ _) (by rw [show badK (caseC 2 false) (rowsL [0, 0]) = [1, 4, 0] from by decide +kernel])
theorem kb2 : FnV Try.prog 41 [(caseC 2 false).d, rotaD (rowsL [2])] (.agg ([0, 2, 0].map i64)) := FnV.cast (wa41 _ _) (by rw [show badK (caseC 2 false) (rowsL [2]) = [0, 2, 0] from by decide +kernel])
theorem kb3 : FnV Try.prog 41 [(caseC 2 false).d, rotaD (rowsL [0, 1, 2])] (.agg ([2, 3, 2].map i64)) := FnV.cast (wa41 _ _) (by rw [show badK (caseC 2 false) (rowsL [0, 1, 2]) = [2, 3, 2] from by decide +kernel])
theorem kb4 : FnV Try.prog 41 [(caseC 2 false).d, rotaD (rowsL [0, 2, 1, 1])] (.agg ([3, 4, 1].map i64)) := FnV.cast (wa41 _ _) (by rw [show badK (caseC 2 false) (rowsL [0, 2, 1, 1]) = [3, 4, 1] from by decide +kernel])
theorem kb5 : FnV Try.prog 41 [(caseC 2 false).d, rotaD [[]]] (.agg ([0, 1, 0].map i64)) := FnV.cast (wa41 _ _) (by rw [show badK (caseC 2 false) [[]] = [0, 1, 0] from by decide +kernel])
theorem hk1 : goodE (caseC 2 false) (rowsL [0, 2]) = 0 ∧ canL (caseC 2 false) (rowsL [0, 2]) = rowsL [1] := by decide +kernel
theorem kk1 : FnV Try.prog 22 [(caseC 2 false).d, rotaD (rowsL [0, 2])] (.tup [rotaD (rowsL [1]), i64 0]) :=
  FnV.cast (wa22 _ _) (by rw [hk1.1, if_pos rfl, hk1.2]; rfl)
theorem hk2 : goodE (caseC 2 false) (rowsL [0, 1]) = 0 ∧ canL (caseC 2 false) (rowsL [0, 1]) = [] := by decide +kernel
theorem kk2 : FnV Try.prog 22 [(caseC 2 false).d, rotaD (rowsL [0, 1])] (.tup [.nils, i64 0]) :=
  FnV.cast (wa22 _ _) (by rw [hk2.1, if_pos rfl, hk2.2]; rfl)
theorem hk3 : goodE (caseC 2 false) [] = 0 ∧ nextL (caseC 2 false) [] = rowsL [0, 1] := by decide +kernel
theorem kk3 : FnV Try.prog 25 [(caseC 2 false).d, rotaD []] (.tup [rotaD (rowsL [0, 1]), i64 0]) :=
  FnV.cast (wa25 _ _) (by rw [hk3.1, if_pos rfl, hk3.2]; rfl)
theorem hk4 : entE (caseC 2 false) [] = 0 ∧ lonW (caseC 2 false) = -1 := by decide +kernel
theorem kk4 : FnV Try.prog 28 [(caseC 2 false).d] (.tup [i64 (-1), i64 0]) :=
  FnV.cast (wa28 _) (by rw [hk4.1, if_pos rfl, hk4.2])
theorem hk5 : entE (caseC 1 false) [] = 0 ∧ endB (caseC 1 false) (allMen (caseC 1 false)) .zero = true ∧ endlW (caseC 1 false) = (rowsL [0, 1, 0, 1, 0, 1, 0], 1) := by decide +kernel
theorem kk5 : FnV Try.prog 30 [(caseC 1 false).d] (.tup [rotaD (rowsL [0, 1, 0, 1, 0, 1, 0]), i64 1, i64 0]) :=
  FnV.cast (wa30 _) (by rw [hk5.1, hk5.2.1, hk5.2.2]; rfl)
theorem hk6 : entE (caseC 2 false) [] = 0 ∧ fewL (caseC 2 false) = [0, 1, 2] := by decide +kernel
theorem kk6 : FnV Try.prog 32 [(caseC 2 false).d] (.tup [intsD [0, 1, 2], i64 0]) :=
  FnV.cast (wa32 _) (by rw [hk6.1, hk6.2]; rfl)
theorem hk7 : entE (caseC 2 true) [] = 0 ∧ endB (caseC 2 true) (allMen (caseC 2 true)) .zero = true ∧ needL (caseC 2 true) = [] := by decide +kernel
theorem kk7 : FnV Try.prog 34 [(caseC 2 true).d] (.tup [.nils, i64 0]) :=
  FnV.cast (wa34 _) (by rw [hk7.1, hk7.2.1, hk7.2.2]; rfl)
theorem hk8 : fillE (caseC 2 false) [[0], [], []] = 0 ∧ fillL (caseC 2 false) [[0], [], []] = rowsL [0, 2, 1] := by decide +kernel
theorem kk8 : FnV Try.prog 36 [(caseC 2 false).d, rotaD [[0], [], []]] (.tup [rotaD (rowsL [0, 2, 1]), i64 0]) :=
  FnV.cast (wa36 _ _) (by rw [hk8.1, hk8.2]; rfl)
theorem hk9 : missE (caseC 2 true) (rowsL [0, 2, 1, 0]) 3 = 0 ∧ missL (caseC 2 true) (rowsL [0, 2, 1, 0]) 3 = [0, 1, 2, 3] := by decide +kernel
theorem kk9 : FnV Try.prog 38 [(caseC 2 true).d, rotaD (rowsL [0, 2, 1, 0]), i64 3] (.tup [intsD [0, 1, 2, 3], i64 0]) :=
  FnV.cast (wa38 _ _ _) (by rw [hk9.1, hk9.2]; rfl)

theorem wa6 : FnV Try.prog 6 [] (.bool true) := by
  refine fnV_of mixed tysOk Try.func6 rfl (ft := ft6) 0 (by decide +kernel) (by rfl) fun {σ} Y st => ?_
  conv => whnf
  refine CallA_v (ds := [i64 2, .bool false]) (wa40 2 false) rfl rfl ?_
  conv => whnf
  refine CallA_v (ds := [i64 1, .bool false]) (wa40 1 false) rfl rfl ?_
  conv => whnf
  refine CallA_v (ds := [i64 2, .bool true]) (wa40 2 true) rfl rfl ?_
  conv => whnf
  refine DrawCall_fz (ds := [intsD [0, 2, 1]]) (kr [0, 2, 1] _ _ rfl (by simp)) 1 rfl rfl ?_
  conv => whnf
  refine DrawCall_v (ds := [(caseC 2 false).d, rotaD (rowsL [0, 2, 1])]) kb0 rfl rfl ?_
  conv => whnf
  refine DrawCall_fz (ds := [intsD [0, 0]]) (kr [0, 0] _ _ rfl (by simp)) 1 rfl rfl ?_
  conv => whnf
  refine DrawCall_v (ds := [(caseC 2 false).d, rotaD (rowsL [0, 0])]) kb1 rfl rfl ?_
  conv => whnf
  refine DrawCall_fz (ds := [intsD [2]]) (kr [2] _ _ rfl (by simp)) 1 rfl rfl ?_
  conv => whnf
  refine DrawCall_v (ds := [(caseC 2 false).d, rotaD (rowsL [2])]) kb2 rfl rfl ?_
  conv => whnf
  refine DrawCall_fz (ds := [intsD [0, 1, 2]]) (kr [0, 1, 2] _ _ rfl (by simp)) 1 rfl rfl ?_
  conv => whnf
  refine DrawCall_v (ds := [(caseC 2 false).d, rotaD (rowsL [0, 1, 2])]) kb3 rfl rfl ?_
  conv => whnf
  refine DrawCall_fz (ds := [intsD [0, 2, 1, 1]]) (kr [0, 2, 1, 1] _ _ rfl (by simp)) 1 rfl rfl ?_
  conv => whnf
  refine DrawCall_v (ds := [(caseC 2 false).d, rotaD (rowsL [0, 2, 1, 1])]) kb4 rfl rfl ?_
  conv => whnf
  refine CallA_frz 2 [53] ?_
  refine CallA_rep (args' := [.d (caseC 2 false).d, .d (rotaD [[]])]) (fun yv L F w l h => by
    obtain ⟨x1, l1, rfl, h1, x2, l2, rfl, h2, h3⟩ := h
    exact ⟨x1, _, rfl, h1, x2, _, rfl, RepD.relax (.vs [[.nils]]) x2 h2, h3⟩) ?_
  refine CallA_v (ds := [(caseC 2 false).d, rotaD [[]]]) kb5 rfl rfl ?_
  conv => whnf
  refine DrawCall_fz (ds := [intsD [0, 2]]) (kr [0, 2] _ _ rfl (by simp)) 1 rfl rfl ?_
  conv => whnf
  refine DrawCall_v (ds := [(caseC 2 false).d, rotaD (rowsL [0, 2])]) kk1 rfl rfl ?_
  conv => whnf
  refine DrawCall_fz (ds := [intsD [0, 1]]) (kr [0, 1] _ _ rfl (by simp)) 1 rfl rfl ?_
  conv => whnf
  refine DrawCall_v (ds := [(caseC 2 false).d, rotaD (rowsL [0, 1])]) kk2 rfl rfl ?_
  conv => whnf
  refine CallA_nil1 ?_
  refine CallA_v (ds := [(caseC 2 false).d, rotaD []]) kk3 rfl rfl ?_
  conv => whnf
  refine CallA_v (ds := [(caseC 2 false).d]) kk4 rfl rfl ?_
  conv => whnf
  refine CallA_v (ds := [(caseC 1 false).d]) kk5 rfl rfl ?_
  conv => whnf
  refine CallA_v (ds := [(caseC 2 false).d]) kk6 rfl rfl ?_
  conv => whnf
  refine CallA_v (ds := [(caseC 2 true).d]) kk7 rfl rfl ?_
  conv => whnf
  refine CallA_frz 2 [97, 98] ?_
  refine CallA_rep (args' := [.d (caseC 2 false).d, .d (rotaD [[0], [], []])]) (fun yv L F w l h => by
    obtain ⟨x1, l1, rfl, h1, x2, l2, rfl, h2, h3⟩ := h
    exact ⟨x1, _, rfl, h1, x2, _, rfl, RepD.relax (.vs [[intsD [0]], [.nils], [.nils]]) x2 h2, h3⟩) ?_
  refine CallA_v (ds := [(caseC 2 false).d, rotaD [[0], [], []]]) kk8 rfl rfl ?_
  conv => whnf
  refine DrawCall_fz (ds := [intsD [0, 2, 1, 0]]) (kr [0, 2, 1, 0] _ _ rfl (by simp)) 1 rfl rfl ?_
  conv => whnf
  refine DrawCall_v (ds := [(caseC 2 true).d, rotaD (rowsL [0, 2, 1, 0]), i64 3]) kk9 rfl rfl ?_
  conv => whnf
  refine CallA_fz (ds := [intsD [1]]) (kr [1] _ _ rfl (by simp)) 1 [175] rfl rfl ?_
  conv => whnf
  refine CallA_v (ds := [rotaD (rowsL [1]), rotaD (rowsL [1])]) (wa24 (rowsL [1]) (rowsL [1]) (by decide) (by decide)) rfl rfl ?_
  conv => whnf
  refine CallA_fz (ds := [intsD [0, 1]]) (kr [0, 1] _ _ rfl (by simp)) 1 [186] rfl rfl ?_
  conv => whnf
  refine CallA_v (ds := [rotaD (rowsL [0, 1]), rotaD (rowsL [0, 1])]) (wa24 (rowsL [0, 1]) (rowsL [0, 1]) (by decide) (by decide)) rfl rfl ?_
  conv => whnf
  refine CallA_fz (ds := [intsD [0, 1, 0, 1, 0, 1, 0]]) (kr [0, 1, 0, 1, 0, 1, 0] _ _ rfl (by simp)) 1 [196] rfl rfl ?_
  conv => whnf
  refine CallA_v (ds := [rotaD (rowsL [0, 1, 0, 1, 0, 1, 0]), rotaD (rowsL [0, 1, 0, 1, 0, 1, 0])]) (wa24 (rowsL [0, 1, 0, 1, 0, 1, 0]) (rowsL [0, 1, 0, 1, 0, 1, 0]) (by decide) (by decide)) rfl rfl ?_
  conv => whnf
  refine CallA_view (ds := [intsD [0, 1, 2], intsD [0, 1, 2]]) (fn19 [0, 1, 2] [0, 1, 2] (by simp)) rfl 1 rfl ?_
  conv => whnf
  refine CallA_fz (ds := [intsD [0, 2, 1]]) (kr [0, 2, 1] _ _ rfl (by simp)) 1 [216] rfl rfl ?_
  conv => whnf
  refine CallA_v (ds := [rotaD (rowsL [0, 2, 1]), rotaD (rowsL [0, 2, 1])]) (wa24 (rowsL [0, 2, 1]) (rowsL [0, 2, 1]) (by decide) (by decide)) rfl rfl ?_
  conv => whnf
  refine CallA_view (ds := [intsD [0, 1, 2, 3], intsD [0, 1, 2, 3]]) (fn19 [0, 1, 2, 3] [0, 1, 2, 3] (by simp)) rfl 1 rfl ?_
  conv => whnf
  refine CallA_v (ds := []) wa27 rfl rfl ?_
  conv => whnf
  exact RetA_view 0 rfl ⟨⟨rfl, rfl⟩, rfl⟩
end Go.PX
