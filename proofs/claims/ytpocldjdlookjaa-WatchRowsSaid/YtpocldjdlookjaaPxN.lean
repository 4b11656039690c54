import Derived.Test.YtpocldjdlookjaaPxM
import Derived.Test.YtpocldjdlookjaaPxJ
set_option linter.all false
set_option maxRecDepth 10000
namespace Go.PX
open Go.Proofs
theorem replicate_mid (row : Nat) (l : List (List D)) : List.replicate (row + 1) [D.nils] ++ l = List.replicate row [.nils] ++ [.nils] :: l := by
 rw [List.replicate_succ']; simp
theorem find_kg_last {kg : Kg} {g : Gap} (h : getG kg g = none) : findD g.d (kgD kg ++ [(g.d, i64 0)]) 0 = some (some ((kgD kg).length, i64 0)) := by
 have key : ∀ (kg : Kg) (n : Nat), getG kg g = none → findD g.d (kgD kg ++ [(g.d, i64 0)]) n = some (some (n + (kgD kg).length, i64 0)) := by
  intro kg
  induction kg with
  | nil =>
   intro n _
   show (match sameD g.d g.d with
    | some true => some (some (n, i64 0))
    | some false => findD g.d [] (n + 1)
    | none => none) = _
   rw [same_gap, decide_eq_true rfl]; rfl
  | cons p r ih =>
   obtain ⟨u, v⟩ := p
   intro n h
   rw [getG] at h
   split at h
   ·cases h
   ·rename_i hu
    show (match sameD g.d u.d with
     | some true => some (some (n, i64 v))
     | some false => findD g.d (kgD r ++ [(g.d, i64 0)]) (n + 1)
     | none => none) = _
    rw [same_gap, decide_eq_false hu]
    show findD g.d (kgD r ++ [(g.d, i64 0)]) (n + 1) = _
    rw [ih (n + 1) h]
    simp [kgD]; omega
 have := key kg 0 h
 rwa [Nat.zero_add] at this
theorem setVal_last (k : D) (v w : D) : ∀ l : List (D × D), setVal (l ++ [(k, v)]) l.length w = l ++ [(k, w)]
 | [] => rfl
 | (a, b) :: r => by
  show (a, b) :: setVal (r ++ [(k, v)]) r.length w = _
  rw [setVal_last k v w r]; rfl
set_option maxHeartbeats 4000000 in
theorem fill_cons {c : WCase} (hR : WR c) {set : Int} {rota : List (List Int)} (hl : rota.length ≤ 100) (hrows : ∀ r ∈ rota, r.length < 1000) {R : List Int} {rest : List (List Int)} (ih : FillOk c set rota rest) : FillOk c set rota (R :: rest) := by
 intro row t kg ht hk hd hlen σ Y s
 refine fnC_of mixed tysOk Try.func83 rfl (ft := (ft83.more 12 [104096]).less 14) (args := [.d (crewD c set), .d (Gap.d ⟨row, t⟩), .d (rotaD rota), .mp 1000000]) (show fnB ((ft83.more 12 [104096]).less 14) Try.f83 4 = true from by decide +kernel) ?_
 conv=>whnf
 have hrl : row < rota.length := by simp at hlen; omega
 have hRat : rota[row]? = some R := by
  have := List.getElem?_drop (xs := rota) (i := row) (j := 0)
  rw [hd] at this
  simpa using this.symm
 have hRm : R.length < 1000 := hrows R (List.mem_of_getElem? hRat)
 have hd2 : rota.drop (row + 1) = rest := by
  rw [← List.drop_drop, hd]; rfl
 have hlen2 : row + 1 + rest.length = rota.length := by simp at hlen; omega
 refine brk_i (fun h0 => absurd h0 (by simp; omega)) (fun _ => ?_)
 conv=>whnf
 have hrowi : ((row : Int) + 1) = ((row + 1 : Nat) : Int) := by omega
 cases hg : getG kg ⟨row, t⟩ with
 | some v =>
  cases hk _ v hg
  obtain ⟨ix, hx1, hx2⟩ := find_kg_some hg 0
  refine ⟨_, hx1, ?_⟩
  conv=>whnf
  have hF : fillW c set (R :: rest) row t kg = (none, kg) := by rw [fillW, hg]; rfl
  rw [hF]
  exact RetA_hand [] [.d .nils, .d (.bool false)] [(1000000, .map (kgD kg))] rfl ⟨rfl, trivial⟩ rfl ⟨⟨rfl, rfl⟩, rfl⟩
 | none =>
  refine ⟨none, find_kg_none hg 0, ?_⟩
  conv=>whnf
  refine CallA_v (wa68 c set t) rfl rfl ?_
  conv=>whnf
  obtain ⟨hto, hts⟩ := ht.tok hR
  generalize hT : tryG R (fun kg u => fillW c set rest (row + 1) u kg) kg (groupsF c set t) = T
  have hF : fillW c set (R :: rest) row t kg = (match T.1 with
   | some l => (some l, T.2)
   | none => (none, putG T.2 ⟨row, t⟩ 1)) := by
   rw [fillW, hg]
   simp only [Option.isSome_none, Bool.false_eq_true, if_false]
   rw [hT]
   all_goals (obtain ⟨a, b⟩ := T; cases a <;> rfl)
  rw [hF]
  refine RangeA.wk (st' := ⟨[(4, .ptr 4 0), (5, .ptr 5 0), (6, .ptr 6 0), (7, .ptr 7 0), (8, .ptr 8 0), (9, .ptr 9 0), (30, .d (.clo 93 [.ref [crewD c set], .ref t.cells]))], [(1000000, .map (kgD kg)), (4, .box (.dd [crewD c set])), (5, .box (.dd (Gap.cells ⟨row, t⟩))), (6, .box (.dd [rotaD rota])), (7, .box (.vv [.mp 1000000])), (8, .box (.dd [.nils])), (9, .box (.dd [.bool false]))], s⟩) (Wk.sub ⟨(by first | rfl | (simp only [List.length_map]; rfl) | simp [PX.get]), (by first | rfl | (simp only [List.length_map]; rfl) | simp [PX.get]), (by first | rfl | (simp only [List.length_map]; rfl) | simp [PX.get]), (by first | rfl | (simp only [List.length_map]; rfl) | simp [PX.get]), (by first | rfl | (simp only [List.length_map]; rfl) | simp [PX.get]), (by first | rfl | (simp only [List.length_map]; rfl) | simp [PX.get]), (by first | rfl | (simp only [List.length_map]; rfl) | simp [PX.get]), trivial⟩ ⟨(by first | rfl | (simp only [List.length_map]; rfl) | simp [PX.get]), (by first | rfl | (simp only [List.length_map]; rfl) | simp [PX.get]), (by first | rfl | (simp only [List.length_map]; rfl) | simp [PX.get]), (by first | rfl | (simp only [List.length_map]; rfl) | simp [PX.get]), (by first | rfl | (simp only [List.length_map]; rfl) | simp [PX.get]), (by first | rfl | (simp only [List.length_map]; rfl) | simp [PX.get]), (by first | rfl | (simp only [List.length_map]; rfl) | simp [PX.get]), trivial⟩) ?_
  refine RangeA_list tysOk (by exact drawsB_spec mixed tysOk (by decide +kernel)) (by exact drawsB_spec mixed tysOk (by decide +kernel)) rfl 1500000 1600000 [4, 5, 6, 7, 8, 9] (by exact yields93 c hR set t hto hts)
   (fun (x : Kg) => ([(1000000, .map (kgD x)), (1500000, .box (.dd [crewD c set])), (1500001, .box (.dd (Gap.cells ⟨row, t⟩))), (1500002, .box (.dd [rotaD rota])), (1500003, .box (.vv [.mp 1000000])), (1500004, .box (.dd [.nils])), (1500005, .box (.dd [.bool false]))], s))
   (fun (l : List (List Int × Tired)) x => tryG R (fun kg u => fillW c set rest (row + 1) u kg) x l = T ∧ KgOk x ∧ getG x ⟨row, t⟩ = none ∧ ∀ p ∈ l, p.1.length ≤ 2 ∧ InU c p.2) kg rfl rfl rfl ⟨hT, hk, hg, fun p hp => ⟨groups_len hR hp, groups_InU hR ht hp⟩⟩ ?_ ?_
  ·rintro ⟨g, u⟩ l x ⟨he, hkx, hgx, hgs⟩ Q hQ1 hQ
   clear hF
   obtain ⟨hg2, hu⟩ := hgs (g, u) (by simp)
   have hgl : g.length ≤ 1000 := by simp only at hg2; omega
   have hrestg : ∀ p ∈ l, p.1.length ≤ 2 ∧ InU c p.2 := fun p hp => hgs p (by simp [hp])
   refine ⟨⟨rfl, item_okL _⟩, ?_⟩
   rw [tryG] at he
   conv=>whnf
   refine elemK_nat hRat ?_
   conv=>whnf
   have hf1 := fillW_ok (c := c) (set := set) rest ((row + 1 : Nat) : Int) u x hkx
   rw [← hrowi] at hf1
   have hI : FnU Try.prog 83 [.d (crewD c set), .d (Gap.d ⟨(row + 1 : Nat), u⟩), .d (rotaD rota), .mp 1000000] [(1000000, .map (kgD x))] (fun v h' => v = fillV rota.length (fillW c set rest ((row : Int) + 1) u x) ∧ h' = fillHp (row + 1) (fillW c set rest ((row : Int) + 1) u x)) := by
    rw [hrowi]
    exact fun {σ} => ih (row + 1) u x hu hkx hd2 hlen2
   simp only at he
   refine brk_i (fun h1 => ?_) (fun h1 => ?_)
   ·have h1 : 0 < R.length := by simpa using h1
    conv=>whnf
    refine CallA_view (ds := [intsD R, intsD g]) (wa101 R g (by omega) (by omega)) rfl 1 (viewL_cons rfl (viewL_cons (viewV_sl rfl (by simp [intsC])) rfl)) ?_
    conv=>whnf
    refine brk_i (fun h2 => ?_) (fun h2 => ?_)
    ·have h2 : ¬ R = g := by simpa using h2
     have hfit : fitsG R g = false := by unfold fitsG; rw [decide_eq_false (by omega), decide_eq_false h2]; rfl
     rw [hfit] at he
     conv=>whnf
     exact ⟨x, (Wk.sub trivial ⟨(by first | rfl | (simp only [List.length_map]; rfl) | simp [PX.get]), (by first | rfl | (simp only [List.length_map]; rfl) | simp [PX.get]), (by first | rfl | (simp only [List.length_map]; rfl) | simp [PX.get]), (by first | rfl | (simp only [List.length_map]; rfl) | simp [PX.get]), (by first | rfl | (simp only [List.length_map]; rfl) | simp [PX.get]), (by first | rfl | (simp only [List.length_map]; rfl) | simp [PX.get]), (by first | rfl | (simp only [List.length_map]; rfl) | simp [PX.get]), (by first | rfl | (simp only [List.length_map]; rfl) | simp [PX.get]), trivial⟩), rfl, hQ1 x ⟨he, hkx, hgx, hrestg⟩⟩
    ·have h2 : R = g := by simpa using h2
     have hfit : fitsG R g = true := by unfold fitsG; rw [decide_eq_true h2, Bool.or_true]
     rw [hfit] at he
     simp only [if_true] at he
     generalize hF2 : fillW c set rest ((row : Int) + 1) u x = r2 at he hI hf1
     obtain ⟨o, kg2⟩ := r2
     obtain ⟨hk2, hb2⟩ := hf1
     cases o with
     | none =>
      conv=>whnf
      refine arith_to (((row + 1 : Nat) : Int)) (by (try dsimp only); omega) (wrap_i64 (by (try dsimp only); omega)) ?_
      conv=>whnf
      refine CallA_fn hI [1000000] rfl ⟨_, _, rfl, rfl, rfl⟩ rfl ?_
      conv=>whnf
      exact ⟨kg2, (Wk.sub trivial ⟨(by first | rfl | (simp only [List.length_map]; rfl) | simp [PX.get]), (by first | rfl | (simp only [List.length_map]; rfl) | simp [PX.get]), (by first | rfl | (simp only [List.length_map]; rfl) | simp [PX.get]), (by first | rfl | (simp only [List.length_map]; rfl) | simp [PX.get]), (by first | rfl | (simp only [List.length_map]; rfl) | simp [PX.get]), (by first | rfl | (simp only [List.length_map]; rfl) | simp [PX.get]), (by first | rfl | (simp only [List.length_map]; rfl) | simp [PX.get]), (by first | rfl | (simp only [List.length_map]; rfl) | simp [PX.get]), trivial⟩), rfl, hQ1 kg2 ⟨he, hk2, (hb2 ⟨row, t⟩ (by simp only; omega)).trans hgx, hrestg⟩⟩
     | some l2 =>
      simp only at he
      subst he
      conv=>whnf
      refine arith_to (((row + 1 : Nat) : Int)) (by (try dsimp only); omega) (wrap_i64 (by (try dsimp only); omega)) ?_
      conv=>whnf
      refine CallA_fn hI [1000000] rfl ⟨_, _, rfl, rfl, rfl⟩ rfl ?_
      conv=>whnf
      refine DrawCall_fn (wa69o g hgl) [1600000] rfl ⟨_, _, rfl, rfl, rfl⟩ rfl ?_
      conv=>whnf
      refine chk_i (by simp; omega) ?_
      conv=>whnf
      have hrn : 0 + ((row : Int)).toNat = row := by simp
      have hel : (List.replicate (row + 1) [D.nils] ++ l2.map fun r => [intsD r])[0 + ((row : Int)).toNat]? = some [.nils] := by
       rw [hrn, replicate_mid, List.getElem?_append_right (by simp)]
       simp
      have hset : ∀ y : List V, (injL (List.replicate (row + 1) [D.nils] ++ l2.map fun r => [intsD r])).set (0 + ((row : Int)).toNat) y = injL (List.replicate row [D.nils]) ++ y :: injL (l2.map fun r => [intsD r]) := by
       intro y
       have h1 := injL_mid (l2.map fun r => [intsD r]) [D.nils] y (List.replicate row [D.nils])
       rw [List.length_replicate] at h1
       rw [hrn, replicate_mid]
       exact h1
      refine cellK_i [.nils] hel ?_
      conv=>whnf
      refine forceN_to [104096] (by
       show namesOfL (((injL (List.replicate (row + 1) [D.nils] ++ l2.map fun r => [intsD r])).set (0 + ((row : Int)).toNat) [V.sl 104096 1 0 g.length]).flatten) ++ [] = _
       rw [hset, namesOfL_mid]; rfl) ?_
      conv=>whnf
      refine ⟨[(1000000, .map (kgD kg2)), (1500000, .box (.dd [crewD c set])), (1500001, .box (.dd (Gap.cells ⟨row, t⟩))), (1500002, .box (.dd [rotaD rota])), (1500003, .box (.vv [.mp 1000000])), (1500004, .box (.vv [.sl 103584 1 0 rota.length])), (1500005, .box (.dd [.bool true])), (103584, .arr 1 (.dd (List.replicate row [D.nils] ++ [intsD g] :: l2.map fun r => [intsD r])))], s, (Wk.frzArr 1 [104096] 103584 (sz := 1) (vs := injL (List.replicate row [D.nils]) ++ [.sl 104096 1 0 g.length] :: injL (l2.map fun r => [intsD r])) (ds := List.replicate row [D.nils] ++ [intsD g] :: l2.map fun r => [intsD r]) ?_ (viewLL_mid (viewL_cons (viewV_sl rfl (by simp [intsC])) rfl) _ _)).trans ?_, rfl, hQ _ _ _ ?_⟩
      ·show some (Obj.arr 1 (Els.vv ((injL (List.replicate (row + 1) [D.nils] ++ l2.map fun r => [intsD r])).set (0 + ((row : Int)).toNat) [V.sl 104096 1 0 g.length]))) = _
       rw [hset]
      ·exact (Wk.sub trivial ⟨(by first | rfl | (simp only [List.length_map]; rfl) | simp [PX.get]), (by first | rfl | (simp only [List.length_map]; rfl) | simp [PX.get]), (by first | rfl | (simp only [List.length_map]; rfl) | simp [PX.get]), (by first | rfl | (simp only [List.length_map]; rfl) | simp [PX.get]), (by first | rfl | (simp only [List.length_map]; rfl) | simp [PX.get]), (by first | rfl | (simp only [List.length_map]; rfl) | simp [PX.get]), (by first | rfl | (simp only [List.length_map]; rfl) | simp [PX.get]), (by first | rfl | (simp only [List.length_map]; rfl) | simp [PX.get]), (by first | rfl | (simp only [List.length_map]; rfl) | simp [PX.get]), trivial⟩)
      ·clear hQ hQ1
       conv=>whnf
       refine RetA_wk (l' := [.sl 103584 1 0 rota.length, .d (.bool true)]) (h' := [(1000000, .map (kgD kg2)), (103584, .arr 1 (.dd (List.replicate row [D.nils] ++ [intsD g] :: l2.map fun r => [intsD r])))]) (Wk.sub ⟨rfl, rfl, trivial⟩ ⟨rfl, rfl, trivial⟩) rfl rfl ?_
       refine RetA_hand [103584] [.sl 2000000 1 0 rota.length, .d (.bool true)] [(1000000, .map (kgD kg2)), (2000000, .arr 1 (.dd (List.replicate row [.nils] ++ (g :: l2).map fun r => [intsD r])))] rfl ⟨rfl, rfl, trivial⟩ rfl ⟨⟨rfl, rfl⟩, rfl⟩
   ·have h1 : R.length = 0 := by
     have : ¬ 0 < R.length := by simpa using h1
     omega
    have hfit : fitsG R g = true := by unfold fitsG; rw [decide_eq_true h1]; rfl
    rw [hfit] at he
    simp only [if_true] at he
    generalize hF2 : fillW c set rest ((row : Int) + 1) u x = r2 at he hI hf1
    obtain ⟨o, kg2⟩ := r2
    obtain ⟨hk2, hb2⟩ := hf1
    cases o with
    | none =>
     conv=>whnf
     refine arith_to (((row + 1 : Nat) : Int)) (by (try dsimp only); omega) (wrap_i64 (by (try dsimp only); omega)) ?_
     conv=>whnf
     refine CallA_fn hI [1000000] rfl ⟨_, _, rfl, rfl, rfl⟩ rfl ?_
     conv=>whnf
     exact ⟨kg2, (Wk.sub trivial ⟨(by first | rfl | (simp only [List.length_map]; rfl) | simp [PX.get]), (by first | rfl | (simp only [List.length_map]; rfl) | simp [PX.get]), (by first | rfl | (simp only [List.length_map]; rfl) | simp [PX.get]), (by first | rfl | (simp only [List.length_map]; rfl) | simp [PX.get]), (by first | rfl | (simp only [List.length_map]; rfl) | simp [PX.get]), (by first | rfl | (simp only [List.length_map]; rfl) | simp [PX.get]), (by first | rfl | (simp only [List.length_map]; rfl) | simp [PX.get]), (by first | rfl | (simp only [List.length_map]; rfl) | simp [PX.get]), trivial⟩), rfl, hQ1 kg2 ⟨he, hk2, (hb2 ⟨row, t⟩ (by simp only; omega)).trans hgx, hrestg⟩⟩
    | some l2 =>
     simp only at he
     subst he
     conv=>whnf
     refine arith_to (((row + 1 : Nat) : Int)) (by (try dsimp only); omega) (wrap_i64 (by (try dsimp only); omega)) ?_
     conv=>whnf
     refine CallA_fn hI [1000000] rfl ⟨_, _, rfl, rfl, rfl⟩ rfl ?_
     conv=>whnf
     refine DrawCall_fn (wa69o g hgl) [1600000] rfl ⟨_, _, rfl, rfl, rfl⟩ rfl ?_
     conv=>whnf
     refine chk_i (by simp; omega) ?_
     conv=>whnf
     have hrn : 0 + ((row : Int)).toNat = row := by simp
     have hel : (List.replicate (row + 1) [D.nils] ++ l2.map fun r => [intsD r])[0 + ((row : Int)).toNat]? = some [.nils] := by
      rw [hrn, replicate_mid, List.getElem?_append_right (by simp)]
      simp
     have hset : ∀ y : List V, (injL (List.replicate (row + 1) [D.nils] ++ l2.map fun r => [intsD r])).set (0 + ((row : Int)).toNat) y = injL (List.replicate row [D.nils]) ++ y :: injL (l2.map fun r => [intsD r]) := by
      intro y
      have h1 := injL_mid (l2.map fun r => [intsD r]) [D.nils] y (List.replicate row [D.nils])
      rw [List.length_replicate] at h1
      rw [hrn, replicate_mid]
      exact h1
     refine cellK_i [.nils] hel ?_
     conv=>whnf
     refine forceN_to [104096] (by
      show namesOfL (((injL (List.replicate (row + 1) [D.nils] ++ l2.map fun r => [intsD r])).set (0 + ((row : Int)).toNat) [V.sl 104096 1 0 g.length]).flatten) ++ [] = _
      rw [hset, namesOfL_mid]; rfl) ?_
     conv=>whnf
     refine ⟨[(1000000, .map (kgD kg2)), (1500000, .box (.dd [crewD c set])), (1500001, .box (.dd (Gap.cells ⟨row, t⟩))), (1500002, .box (.dd [rotaD rota])), (1500003, .box (.vv [.mp 1000000])), (1500004, .box (.vv [.sl 103584 1 0 rota.length])), (1500005, .box (.dd [.bool true])), (103584, .arr 1 (.dd (List.replicate row [D.nils] ++ [intsD g] :: l2.map fun r => [intsD r])))], s, (Wk.frzArr 1 [104096] 103584 (sz := 1) (vs := injL (List.replicate row [D.nils]) ++ [.sl 104096 1 0 g.length] :: injL (l2.map fun r => [intsD r])) (ds := List.replicate row [D.nils] ++ [intsD g] :: l2.map fun r => [intsD r]) ?_ (viewLL_mid (viewL_cons (viewV_sl rfl (by simp [intsC])) rfl) _ _)).trans ?_, rfl, hQ _ _ _ ?_⟩
     ·show some (Obj.arr 1 (Els.vv ((injL (List.replicate (row + 1) [D.nils] ++ l2.map fun r => [intsD r])).set (0 + ((row : Int)).toNat) [V.sl 104096 1 0 g.length]))) = _
      rw [hset]
     ·exact (Wk.sub trivial ⟨(by first | rfl | (simp only [List.length_map]; rfl) | simp [PX.get]), (by first | rfl | (simp only [List.length_map]; rfl) | simp [PX.get]), (by first | rfl | (simp only [List.length_map]; rfl) | simp [PX.get]), (by first | rfl | (simp only [List.length_map]; rfl) | simp [PX.get]), (by first | rfl | (simp only [List.length_map]; rfl) | simp [PX.get]), (by first | rfl | (simp only [List.length_map]; rfl) | simp [PX.get]), (by first | rfl | (simp only [List.length_map]; rfl) | simp [PX.get]), (by first | rfl | (simp only [List.length_map]; rfl) | simp [PX.get]), (by first | rfl | (simp only [List.length_map]; rfl) | simp [PX.get]), trivial⟩)
     ·clear hQ hQ1
      conv=>whnf
      refine RetA_wk (l' := [.sl 103584 1 0 rota.length, .d (.bool true)]) (h' := [(1000000, .map (kgD kg2)), (103584, .arr 1 (.dd (List.replicate row [D.nils] ++ [intsD g] :: l2.map fun r => [intsD r])))]) (Wk.sub ⟨rfl, rfl, trivial⟩ ⟨rfl, rfl, trivial⟩) rfl rfl ?_
      refine RetA_hand [103584] [.sl 2000000 1 0 rota.length, .d (.bool true)] [(1000000, .map (kgD kg2)), (2000000, .arr 1 (.dd (List.replicate row [.nils] ++ (g :: l2).map fun r => [intsD r])))] rfl ⟨rfl, rfl, trivial⟩ rfl ⟨⟨rfl, rfl⟩, rfl⟩
  ·rintro x ⟨he, hkx, hgx, _⟩
   have he : (none, x) = T := he
   subst he
   have hN : findD (Gap.d ⟨row, t⟩) (kgD x) 0 = some none := find_kg_none hgx 0
   have hS : findD (Gap.d ⟨row, t⟩) (kgD x ++ [(Gap.d ⟨row, t⟩, i64 0)]) 0 = some (some ((kgD x).length, i64 0)) := find_kg_last hgx
   have hV : setVal (kgD x ++ [(Gap.d ⟨row, t⟩, i64 0)]) (kgD x).length (i64 1) = kgD (putG x ⟨row, t⟩ 1) := by
    rw [← put_kg_none hgx]
    exact setVal_last ..
   have hB : (decide ((0 : Int) ≤ (kgD x).length) && decide (((kgD x).length : Int) < (kgD x ++ [(Gap.d ⟨row, t⟩, i64 0)]).length)) = true := by
    simp; omega
   conv=>whnf
   refine RegionA_all mixed tysOk [[], [], [0, 1], [2], [0, 1], [4], [0, 5, 3]] (by decide +kernel) ?_
   conv=>whnf
   repeat' (first
    | trivial
    | (refine And.intro ?_ ?_ <;> conv=>whnf)
    | (refine findK.mk none hN ?_; conv=>whnf)
    | (refine findK.mk _ hS ?_; conv=>whnf)
    | (refine arith_in (by decide) ?_; conv=>whnf)
    | (refine chk_i hB ?_; conv=>whnf))
   all_goals exact RetA_hand [] [.d .nils, .d (.bool false)] [(1000000, .map (kgD (putG x ⟨row, t⟩ 1)))] rfl ⟨(by rw [← hV]; rfl), trivial⟩ rfl ⟨⟨rfl, rfl⟩, rfl⟩
theorem fillOk {c : WCase} (hR : WR c) {set : Int} {rota : List (List Int)} (hl : rota.length ≤ 100) (hrows : ∀ r ∈ rota, r.length < 1000) : ∀ rows : List (List Int), FillOk c set rota rows
 | [] => fill_nil hl
 | _ :: rest => fill_cons hR hl hrows (fillOk hR hl hrows rest)
end Go.PX
namespace Go.PX
open Go.Proofs
def emptyN (rota : List (List Int)) : Nat := (rota.filter fun r => decide (r.length = 0)).length
theorem emptyN_cons (x : List Int) (r : List (List Int)) : emptyN (x :: r) = (if x.length = 0 then 1 else 0) + emptyN r := by
 unfold emptyN
 rw [List.filter_cons]
 by_cases h : x.length = 0
 ·rw [if_pos (by simp [h]), if_pos h]; simp; omega
 ·rw [if_neg (by simpa using h), if_neg h]; omega
theorem tryG_len {R : List Int} {f : Kg → Tired → Option (List (List Int)) × Kg} {n : Nat} (hf : ∀ kg u l, (f kg u).1 = some l → l.length = n) : ∀ (gs : List (List Int × Tired)) (kg : Kg) (l : List (List Int)), (tryG R f kg gs).1 = some l → l.length = n + 1
 | [], kg, l, h => by simp [tryG] at h
 | p :: r, kg, l, h => by
  rw [tryG] at h
  split at h
  ·split at h
   ·rename_i l2 hl2
    cases h
    simp [hf _ _ _ hl2]
   ·exact tryG_len hf r _ l h
  ·exact tryG_len hf r kg l h
theorem fillW_len {c : WCase} {set : Int} : ∀ (rows : List (List Int)) (row : Int) (t : Tired) (kg : Kg) (l : List (List Int)), (fillW c set rows row t kg).1 = some l → l.length = rows.length
 | [], row, t, kg, l, h => by cases h; rfl
 | R :: rest, row, t, kg, l, h => by
  rw [fillW] at h
  split at h
  ·cases h
  split at h
  ·rename_i l2 hl2
   cases h
   exact tryG_len (fun kg u l hl => fillW_len rest _ _ _ l hl) _ _ _ hl2
  ·cases h
def fillR (c : WCase) (rota : List (List Int)) : Option (List (List Int)) := (fillW c (allMen c) rota 0 .zero []).1
def fillE (c : WCase) (rota : List (List Int)) : Int := if entE c rota = 0 then (if (emptyN rota : Int) > 12 then 7 else if (fillR c rota).isSome then 0 else 9) else entE c rota
def fillL (c : WCase) (rota : List (List Int)) : List (List Int) := (fillR c rota).getD []
theorem rows_small {c : WCase} {rota : List (List Int)} (h : entE c rota = 0) : ∀ r ∈ rota, r.length < 1000 := fun r hr => by
 obtain ⟨hR, hl, hall⟩ := ent_ok h
 have hm := hR.men
 rcases ascF_len (hall r hr) with h1 | h1
 ·rw [h1]; simp
 ·omega
theorem wa36 (c : WCase) (rota : List (List Int)) : FnV Try.prog 36 [c.d, rotaD rota] (.tup [if fillE c rota = 0 then rotaD (fillL c rota) else .nils, i64 (fillE c rota)]) := by
 refine fnV_of mixed tysOk Try.func36 rfl (ft := ft36) 2 (by decide +kernel) (by rfl) fun {σ} Y st => ?_
 conv=>whnf
 refine CallA_v (wa63 c rota) rfl rfl ?_
 conv=>whnf
 by_cases h0 : entE c rota = 0
 ·obtain ⟨hR, hl, _⟩ := ent_ok h0
  have hrs := rows_small h0
  rw [h0]
  simp only [if_true]
  conv=>whnf
  rw [List.length_map]
  refine LoopA_i (T := tys) tysOk (by exact drawsB_spec mixed tysOk (by decide +kernel)) rota (fun i (n : Nat) => ⟨[(1, .d (rotaD rota)), (4, .d .nils), (5, .d (i64 0)), (6, .d (crewD c (allMen c))), (8, .d (i64 n)), (22, .d (rotaD rota)), (23, .d (i64 rota.length)), (24, .d (i64 i))], [], st⟩)
   (fun i r n => n ≤ i ∧ emptyN rota = n + emptyN r) 0 (Wk.sub ⟨(by first | rfl | (simp only [List.length_map]; rfl) | simp [PX.get]), (by first | rfl | (simp only [List.length_map]; rfl) | simp [PX.get]), (by first | rfl | (simp only [List.length_map]; rfl) | simp [PX.get]), (by first | rfl | (simp only [List.length_map]; rfl) | simp [PX.get]), (by first | rfl | (simp only [List.length_map]; rfl) | simp [PX.get]), (by first | rfl | (simp only [List.length_map]; rfl) | simp [PX.get]), (by first | rfl | (simp only [List.length_map]; rfl) | simp [PX.get]), (by first | rfl | (simp only [List.length_map]; rfl) | simp [PX.get]), trivial⟩ trivial) ⟨by simp, by simp⟩ ?_ ?_
  ·rintro i x r n hx hi hr2 ⟨hn, he⟩
   conv=>whnf
   refine brk_i (fun _ => ?_) (fun h => absurd hi (by have := of_decide_eq_false h; omega))
   conv=>whnf
   refine elemK_nat hx ?_
   conv=>whnf
   refine brk_i (fun h1 => ?_) (fun h1 => ?_)
   ·have h1 : x.length = 0 := by
     have : ((x.map fun n => [i64 n]).length : Int) = 0 := of_decide_eq_true h1
     simpa using this
    conv=>whnf
    refine arith_to (((n + 1 : Nat) : Int)) (by (try dsimp only); omega) (wrap_i64 (by (try dsimp only); omega)) ?_
    conv=>whnf
    refine arith_in (wrap_i64 (by (try dsimp only); omega)) ?_
    conv=>whnf
    refine ⟨n + 1, ⟨by omega, ?_⟩, (Wk.sub ⟨(by first | rfl | (simp only [List.length_map]; rfl) | simp [PX.get]), (by first | rfl | (simp only [List.length_map]; rfl) | simp [PX.get]), (by first | rfl | (simp only [List.length_map]; rfl) | simp [PX.get]), (by first | rfl | (simp only [List.length_map]; rfl) | simp [PX.get]), (by first | rfl | (simp only [List.length_map]; rfl) | simp [PX.get]), (by first | rfl | (simp only [List.length_map]; rfl) | simp [PX.get]), (by first | rfl | (simp only [List.length_map]; rfl) | simp [PX.get]), (by first | rfl | (simp only [List.length_map]; rfl) | simp [PX.get]), trivial⟩ trivial)⟩
    rw [he, emptyN_cons, if_pos h1]; omega
   ·have h1 : ¬ x.length = 0 := by
     have : ¬ ((x.map fun n => [i64 n]).length : Int) = 0 := of_decide_eq_false h1
     simpa using this
    conv=>whnf
    refine arith_in (wrap_i64 (by (try dsimp only); omega)) ?_
    conv=>whnf
    refine ⟨n, ⟨by omega, ?_⟩, (Wk.sub ⟨(by first | rfl | (simp only [List.length_map]; rfl) | simp [PX.get]), (by first | rfl | (simp only [List.length_map]; rfl) | simp [PX.get]), (by first | rfl | (simp only [List.length_map]; rfl) | simp [PX.get]), (by first | rfl | (simp only [List.length_map]; rfl) | simp [PX.get]), (by first | rfl | (simp only [List.length_map]; rfl) | simp [PX.get]), (by first | rfl | (simp only [List.length_map]; rfl) | simp [PX.get]), (by first | rfl | (simp only [List.length_map]; rfl) | simp [PX.get]), (by first | rfl | (simp only [List.length_map]; rfl) | simp [PX.get]), trivial⟩ trivial)⟩
    rw [he, emptyN_cons, if_neg h1]; omega
  ·rintro n ⟨hn, he⟩
   have he : emptyN rota = n := by simpa [emptyN] using he
   conv=>whnf
   refine brk_i (fun h => absurd h (by simp)) (fun _ => ?_)
   conv=>whnf
   refine brk_i (fun h1 => ?_) (fun h1 => ?_)
   ·have h1 : (n : Int) > 12 := of_decide_eq_true h1
    have hE : fillE c rota = 7 := by rw [fillE, if_pos h0, if_pos (by rw [he]; exact h1)]
    rw [hE]
    conv=>whnf
    exact RetA_view 0 rfl ⟨⟨rfl, rfl⟩, rfl⟩
   have h1 : ¬ (n : Int) > 12 := of_decide_eq_false h1
   have hE : fillE c rota = if (fillR c rota).isSome then 0 else 9 := by rw [fillE, if_pos h0, if_neg (by rw [he]; exact h1)]
   have hI : FnU Try.prog 83 [.d (crewD c (allMen c)), .d (Gap.d ⟨(0 : Nat), .zero⟩), .d (rotaD rota), .mp 1000000] [(1000000, .map (kgD []))] (fun v h' => v = fillV rota.length (fillW c (allMen c) rota 0 .zero []) ∧ h' = fillHp 0 (fillW c (allMen c) rota 0 .zero [])) :=
    fun {σ} => fillOk hR (by omega) hrs rota 0 .zero [] (InU.zero hR) (fun g v h => by cases h) rfl (by simp)
   have hL : fillR c rota = (fillW c (allMen c) rota 0 .zero []).1 := rfl
   unfold fillL
   rw [hE]
   generalize fillW c (allMen c) rota 0 .zero [] = r2 at hI hL
   obtain ⟨o, kg2⟩ := r2
   have hL : fillR c rota = o := hL
   rw [hL]
   cases o with
   | none =>
    conv=>whnf
    refine CallA_fn hI [40] rfl ⟨_, _, rfl, rfl, rfl⟩ rfl ?_
    conv=>whnf
    exact RetA_view 0 rfl ⟨⟨rfl, rfl⟩, rfl⟩
   | some l =>
    conv=>whnf
    refine CallA_fn hI [40] rfl ⟨_, _, rfl, rfl, rfl⟩ rfl ?_
    conv=>whnf
    have hll : l.length = rota.length := fillW_len rota 0 .zero [] l hL
    refine RetA_view 1 (ds := [rotaD l, i64 0]) ?_ ⟨⟨rfl, rfl⟩, rfl⟩
    exact viewL_cons (viewV_sl (es := l.map fun r => [intsD r]) rfl (by simp [hll])) rfl
 ·have hE : fillE c rota = entE c rota := by rw [fillE, if_neg h0]
  rw [hE]
  simp only [h0, if_false]
  conv=>whnf
  exact RetA_view 0 rfl ⟨⟨rfl, rfl⟩, rfl⟩
end Go.PX
namespace Go.PX
open Go.Proofs
theorem walk_app {c : WCase} {set : Int} : ∀ {l1 l2 : List (List Int)} {t : Tired} {i : Int}, 0 ≤ i → (walkF c set t (l1 ++ l2) i).1.1 = -1 → (walkF c set t l1 i).1.1 = -1
 | [], l2, t, i, _, _ => rfl
 | r :: l1, l2, t, i, hi, h => by
  rw [List.cons_append, walkF] at h
  rw [walkF]
  split
  ·rename_i h1
   rw [if_pos h1] at h
   exact walk_app (by omega) h
  ·rename_i h1
   rw [if_neg h1] at h
   exact h
def missT (c : WCase) (rota : List (List Int)) (from_ : Int) : Tired := (walkF c (allMen c) .zero (rota.take from_.toNat) 0).2
def missE (c : WCase) (rota : List (List Int)) (from_ : Int) : Int :=
 if entE c rota = 0 then (if ¬ (0 ≤ from_ ∧ from_ ≤ rota.length) ∨ (rota.length : Int) - from_ > 12 then 7 else if (walkF c (allMen c) .zero rota 0).1.1 ≥ 0 then 9 else 0) else entE c rota
def canDo (c : WCase) (t : Tired) (n : Nat) (m : Int) : Bool := (fillW c (butSet c m) (List.replicate n []) 0 t []).1.isSome
def missL (c : WCase) (rota : List (List Int)) (from_ : Int) : List Int := ((List.range c.men.length).filter fun (i : Nat) => canDo c (missT c rota from_) (rota.length - from_.toNat) i).map fun (i : Nat) => (i : Int)
theorem relax_nils : ∀ k : Nat, relaxE (List.replicate k [D.nils]) = (List.replicate k ([] : List Int)).map fun r => [intsD r]
 | 0 => rfl
 | k + 1 => by
  rw [List.replicate_succ, List.replicate_succ, relaxE, relax_nils k]; rfl
theorem wa38 (c : WCase) (rota : List (List Int)) (from_ : Int) : FnV Try.prog 38 [c.d, rotaD rota, i64 from_] (.tup [if missE c rota from_ = 0 then intsN (missL c rota from_) else .nils, i64 (missE c rota from_)]) := by
 refine fnV_of mixed tysOk Try.func38 rfl (ft := (ft38.more 14 [105888])) 3 (by decide +kernel) (by rfl) fun {σ} Y st => ?_
 conv=>whnf
 refine CallA_v (wa63 c rota) rfl rfl ?_
 conv=>whnf
 by_cases h0 : entE c rota = 0
 ·obtain ⟨hR, hl, _⟩ := ent_ok h0
  have hrs := rows_small h0
  have hm := hR.men
  rw [h0]
  simp only [if_true]
  conv=>whnf
  rw [List.length_map]
  refine CallA_view (ds := [i64 0, i64 rota.length, .vs [[i64 from_]]]) (wa55_1 0 rota.length from_) rfl 1 rfl ?_
  conv=>whnf
  refine brk_i (fun h1 => ?_) (fun h1 => ?_)
  ·have h1 : ¬ (0 ≤ from_ ∧ from_ ≤ rota.length) := by
    intro h2
    have : inB from_ 0 rota.length = true := inB_iff.2 h2
    rw [this] at h1; cases h1
   have hE : missE c rota from_ = 7 := by rw [missE, if_pos h0, if_pos (.inl h1)]
   rw [hE]
   conv=>whnf
   exact RetA_view 0 rfl ⟨⟨rfl, rfl⟩, rfl⟩
  have h1 : 0 ≤ from_ ∧ from_ ≤ rota.length := by
   have : inB from_ 0 rota.length = true := by simpa using h1
   exact inB_iff.1 this
  have hlm : ((rota.map fun r => [intsD r]).length : Int) = rota.length := by simp
  conv=>whnf
  refine arith_to ((rota.length : Int) - from_) (by rw [hlm]) (wrap_i64 (by omega)) ?_
  conv=>whnf
  refine brk_i (fun h2 => ?_) (fun h2 => ?_)
  ·have h2 : (rota.length : Int) - from_ > 12 := of_decide_eq_true h2
   have hE : missE c rota from_ = 7 := by rw [missE, if_pos h0, if_pos (.inr h2)]
   rw [hE]
   conv=>whnf
   exact RetA_view 0 rfl ⟨⟨rfl, rfl⟩, rfl⟩
  have h2 : ¬ (rota.length : Int) - from_ > 12 := of_decide_eq_false h2
  have hz := TG.zero hR
  have hrk := rows_ok h0
  conv=>whnf
  refine CallA_v (ds := [crewD c (allMen c), Tired.zero.d, rotaD rota]) (wa64 c hR (allMen c) .zero hz.slot hz.bd rota hrk hl) rfl rfl ?_
  conv=>whnf
  refine brk_i (fun h3 => ?_) (fun h3 => ?_)
  ·have h3 : (walkF c (allMen c) .zero rota 0).1.1 ≥ 0 := of_decide_eq_true h3
   have hE : missE c rota from_ = 9 := by rw [missE, if_pos h0, if_neg (by omega), if_pos h3]
   rw [hE]
   conv=>whnf
   exact RetA_view 0 rfl ⟨⟨rfl, rfl⟩, rfl⟩
  have h3 : ¬ (walkF c (allMen c) .zero rota 0).1.1 ≥ 0 := of_decide_eq_false h3
  have hE : missE c rota from_ = 0 := by rw [missE, if_pos h0, if_neg (by omega), if_neg h3]
  rw [hE]
  have hgood : (walkF c (allMen c) .zero rota 0).1.1 = -1 := by
   rcases walk_at (c := c) (set := allMen c) (rota := rota) (t := .zero) (i := 0) with h | h
   ·exact h
   ·omega
  have hgt : (walkF c (allMen c) .zero (rota.take from_.toNat) 0).1.1 = -1 := walk_app (l2 := rota.drop from_.toNat) (Int.le_refl 0) (by rw [List.take_append_drop]; exact hgood)
  have hU : InU c (missT c rota from_) := walk_InU hR (Int.le_refl 0) (InU.zero hR) hgt
  conv=>whnf
  refine chk_i (by rw [hlm]; simp; omega) ?_
  conv=>whnf
  refine chk_i (by cases rota <;> rfl) ?_
  conv=>whnf
  have htk : (((rota.map fun r => [intsD r]).take from_.toNat).drop 0) = (rota.take from_.toNat).map fun r => [intsD r] := by simp [List.map_take]
  rw [htk]
  refine CallA_v (ds := [crewD c (allMen c), Tired.zero.d, rotaD (rota.take from_.toNat)]) (wa64 c hR (allMen c) .zero hz.slot hz.bd (rota.take from_.toNat) (fun r hr => hrk r (List.mem_of_mem_take hr)) (by rw [List.length_take]; omega)) rfl rfl ?_
  conv=>whnf
  generalize hM : missL c rota from_ = M
  have hTd : (walkF c (allMen c) .zero (rota.take from_.toNat) 0).2 = missT c rota from_ := rfl
  have hMd : M = ((List.range c.men.length).filter fun (i : Nat) => canDo c (missT c rota from_) (rota.length - from_.toNat) i).map fun (i : Nat) => (i : Int) := hM.symm
  clear hM
  generalize missT c rota from_ = t at hU hTd hMd
  rw [hTd, List.length_map]
  refine LoopA_i (T := tys) tysOk (by exact drawsB_spec mixed tysOk (by decide +kernel)) (List.range c.men.length) (fun j (acc : List Int) => ⟨[(1, .d (rotaD rota)), (2, .d (i64 from_)), (3, .ptr 3 0), (6, match acc with
    | [] => .d .nils
    | x :: r => .sl 99 1 0 (x :: r).length), (8, .d (crewD c (allMen c))), (16, .ptr 16 0), (68, .d (i64 c.men.length)), (69, .d (i64 j))], match acc with
    | [] => [(3, .box (.dd c.cells)), (16, .box (.dd t.cells))]
    | x :: r => [(3, .box (.dd c.cells)), (16, .box (.dd t.cells)), (99, .arr 1 (.dd (intsC (x :: r))))], st⟩)
   (fun j r acc => acc.length ≤ j ∧ M = acc ++ (r.filter fun (i : Nat) => canDo c t (rota.length - from_.toNat) i).map fun (i : Nat) => (i : Int)) [] (Wk.sub ⟨(by first | rfl | (simp only [List.length_map]; rfl) | simp [PX.get]), (by first | rfl | (simp only [List.length_map]; rfl) | simp [PX.get]), (by first | rfl | (simp only [List.length_map]; rfl) | simp [PX.get]), (by first | rfl | (simp only [List.length_map]; rfl) | simp [PX.get]), (by first | rfl | (simp only [List.length_map]; rfl) | simp [PX.get]), (by first | rfl | (simp only [List.length_map]; rfl) | simp [PX.get]), (by first | rfl | (simp only [List.length_map]; rfl) | simp [PX.get]), (by first | rfl | (simp only [List.length_map]; rfl) | simp [PX.get]), trivial⟩ ⟨(by first | rfl | (simp only [List.length_map]; rfl) | simp [PX.get]), (by first | rfl | (simp only [List.length_map]; rfl) | simp [PX.get]), trivial⟩) ⟨by simp, hMd⟩ ?_ ?_
  ·intro j x r acc hx hj hr2 hi
   obtain ⟨hal, he⟩ := hi
   have hxj : j = x := by
    rw [List.getElem?_range (by simpa using hj)] at hx
    exact Option.some.inj hx
   subst hxj
   have hjm : j < c.men.length := by simpa using hj
   have hpw : (1 : Int) * 2 ^ min (j : Int).toNat IntKind.i64.bits = 2 ^ ((j : Int).toNat) := by
    rw [show min (j : Int).toNat IntKind.i64.bits = j by show min j 64 = j; omega, Int.one_mul]; rfl
   have hpb : (2 : Int) ^ ((j : Int).toNat) ≤ 32 ∧ 0 ≤ (2 : Int) ^ ((j : Int).toNat) := by
    have : j = 0 ∨ j = 1 ∨ j = 2 ∨ j = 3 ∨ j = 4 := by omega
    rcases this with rfl | rfl | rfl | rfl | rfl <;> decide
   have hfl : ∀ b : Bool, canDo c t (rota.length - from_.toNat) j = b → ((j :: r).filter fun (i : Nat) => canDo c t (rota.length - from_.toNat) i) = (if b then [j] else []) ++ r.filter fun (i : Nat) => canDo c t (rota.length - from_.toNat) i := by
    intro b hb
    rw [List.filter_cons, hb]
    cases b <;> rfl
   have hk : ((rota.length : Int) - from_).toNat = rota.length - from_.toNat := by omega
   cases acc with
   | nil =>
    conv=>whnf
    refine brk_i (fun _ => ?_) (fun h => absurd hjm (by have := of_decide_eq_false h; omega))
    conv=>whnf
    refine arith_to (2 ^ ((j : Int).toNat)) hpw (wrap_i64 (by omega)) ?_
    conv=>whnf
    refine arith_to ((rota.length : Int) - from_) (by rw [hlm]) (wrap_i64 (by omega)) ?_
    conv=>whnf
    refine chk_i (by rw [Bool.and_eq_true]; exact ⟨rfl, by simp; omega⟩) ?_
    conv=>whnf
    refine chk_i (decide_eq_true (by dsimp only; omega)) ?_
    conv=>whnf
    have hI : FnU Try.prog 83 [.d (crewD c (butSet c j)), .d (Gap.d ⟨(0 : Nat), t⟩), .d (rotaD (List.replicate (rota.length - from_.toNat) [])), .mp 1000000] [(1000000, .map (kgD []))] (fun v h' => v = fillV (List.replicate (rota.length - from_.toNat) ([] : List Int)).length (fillW c (butSet c j) (List.replicate (rota.length - from_.toNat) []) 0 t []) ∧ h' = fillHp 0 (fillW c (butSet c j) (List.replicate (rota.length - from_.toNat) []) 0 t [])) :=
     fun {σ} => fillOk hR (by rw [List.length_replicate]; omega) (fun r hr => by rw [List.eq_of_mem_replicate hr]; simp) (List.replicate (rota.length - from_.toNat) []) 0 t [] hU (fun g v h => by cases h) rfl (by simp)
    have hcd : canDo c t (rota.length - from_.toNat) j = (fillW c (butSet c j) (List.replicate (rota.length - from_.toNat) []) 0 t []).1.isSome := rfl
    refine DrawCall_part 2 [81, 90] ?_
    refine DrawCall_rep (args' := [.d (crewD c (butSet c j)), .d (Gap.d ⟨(0 : Nat), t⟩), .d (rotaD (List.replicate (rota.length - from_.toNat) [])), .mp 91]) (fun yv L F w l h => by
     obtain ⟨x1, l1, rfl, h1, x2, l2, rfl, h2, x3, l3, rfl, h3, h4⟩ := h
     refine ⟨x1, _, rfl, h1, x2, _, rfl, h2, x3, _, rfl, ?_, h4⟩
     have h5 := RepD.relax _ _ (RepV_sl (d := .vs (List.replicate (rota.length - from_.toNat) [D.nils])) h3 (viewV_sl' rfl (by rw [hk]) (by rw [hk]; simp)))
     have h6 : relax (.vs (List.replicate (rota.length - from_.toNat) [D.nils])) = rotaD (List.replicate (rota.length - from_.toNat) []) := by
      show D.vs (relaxE _) = _
      rw [relax_nils]; rfl
     rw [h6] at h5
     exact h5) ?_
    generalize fillW c (butSet c j) (List.replicate (rota.length - from_.toNat) []) 0 t [] = r2 at hI hcd
    obtain ⟨o, kg2⟩ := r2
    cases o with
    | none =>
     rw [hfl false (by rw [hcd]; rfl)] at he
     conv=>whnf
     refine DrawCall_fn hI [91] rfl ⟨_, _, rfl, rfl, rfl⟩ rfl ?_
     conv=>whnf
     refine arith_in (wrap_i64 (by (try dsimp only); omega)) ?_
     conv=>whnf
     refine ⟨[], ⟨by simp, by simpa using he⟩, (Wk.sub ⟨(by first | rfl | (simp only [List.length_map]; rfl) | simp [PX.get]), (by first | rfl | (simp only [List.length_map]; rfl) | simp [PX.get]), (by first | rfl | (simp only [List.length_map]; rfl) | simp [PX.get]), (by first | rfl | (simp only [List.length_map]; rfl) | simp [PX.get]), (by first | rfl | (simp only [List.length_map]; rfl) | simp [PX.get]), (by first | rfl | (simp only [List.length_map]; rfl) | simp [PX.get]), (by first | rfl | (simp only [List.length_map]; rfl) | simp [PX.get]), (by first | rfl | (simp only [List.length_map]; rfl) | simp [PX.get]), trivial⟩ ⟨(by first | rfl | (simp only [List.length_map]; rfl) | simp [PX.get]), (by first | rfl | (simp only [List.length_map]; rfl) | simp [PX.get]), trivial⟩)⟩
    | some l2 =>
     rw [hfl true (by rw [hcd]; rfl)] at he
     conv=>whnf
     refine DrawCall_fn hI [91] rfl ⟨_, _, rfl, rfl, rfl⟩ rfl ?_
     conv=>whnf
     refine ownK_whole rfl ?_
     conv=>whnf
     refine arith_in (wrap_i64 (by (try dsimp only); omega)) ?_
     conv=>whnf
     refine ⟨[(j : Int)], ⟨by simp, by simpa using he⟩, (Wk.sub ⟨(by first | rfl | (simp only [List.length_map]; rfl) | simp [PX.get]), (by first | rfl | (simp only [List.length_map]; rfl) | simp [PX.get]), (by first | rfl | (simp only [List.length_map]; rfl) | simp [PX.get]), (by first | rfl | (simp only [List.length_map]; rfl) | simp [PX.get]), (by first | rfl | (simp only [List.length_map]; rfl) | simp [PX.get]), (by first | rfl | (simp only [List.length_map]; rfl) | simp [PX.get]), (by first | rfl | (simp only [List.length_map]; rfl) | simp [PX.get]), (by first | rfl | (simp only [List.length_map]; rfl) | simp [PX.get]), trivial⟩ ⟨(by first | rfl | (simp only [List.length_map]; rfl) | simp [PX.get]), (by first | rfl | (simp only [List.length_map]; rfl) | simp [PX.get]), (by first | rfl | (simp only [List.length_map]; rfl) | simp [PX.get]), trivial⟩)⟩
   | cons a l =>
    conv=>whnf
    refine brk_i (fun _ => ?_) (fun h => absurd hjm (by have := of_decide_eq_false h; omega))
    conv=>whnf
    refine arith_to (2 ^ ((j : Int).toNat)) hpw (wrap_i64 (by omega)) ?_
    conv=>whnf
    refine arith_to ((rota.length : Int) - from_) (by rw [hlm]) (wrap_i64 (by omega)) ?_
    conv=>whnf
    refine chk_i (by rw [Bool.and_eq_true]; exact ⟨rfl, by simp; omega⟩) ?_
    conv=>whnf
    refine chk_i (decide_eq_true (by dsimp only; omega)) ?_
    conv=>whnf
    have hI : FnU Try.prog 83 [.d (crewD c (butSet c j)), .d (Gap.d ⟨(0 : Nat), t⟩), .d (rotaD (List.replicate (rota.length - from_.toNat) [])), .mp 1000000] [(1000000, .map (kgD []))] (fun v h' => v = fillV (List.replicate (rota.length - from_.toNat) ([] : List Int)).length (fillW c (butSet c j) (List.replicate (rota.length - from_.toNat) []) 0 t []) ∧ h' = fillHp 0 (fillW c (butSet c j) (List.replicate (rota.length - from_.toNat) []) 0 t [])) :=
     fun {σ} => fillOk hR (by rw [List.length_replicate]; omega) (fun r hr => by rw [List.eq_of_mem_replicate hr]; simp) (List.replicate (rota.length - from_.toNat) []) 0 t [] hU (fun g v h => by cases h) rfl (by simp)
    have hcd : canDo c t (rota.length - from_.toNat) j = (fillW c (butSet c j) (List.replicate (rota.length - from_.toNat) []) 0 t []).1.isSome := rfl
    refine DrawCall_part 2 [81, 90] ?_
    refine DrawCall_rep (args' := [.d (crewD c (butSet c j)), .d (Gap.d ⟨(0 : Nat), t⟩), .d (rotaD (List.replicate (rota.length - from_.toNat) [])), .mp 91]) (fun yv L F w l h => by
     obtain ⟨x1, l1, rfl, h1, x2, l2, rfl, h2, x3, l3, rfl, h3, h4⟩ := h
     refine ⟨x1, _, rfl, h1, x2, _, rfl, h2, x3, _, rfl, ?_, h4⟩
     have h5 := RepD.relax _ _ (RepV_sl (d := .vs (List.replicate (rota.length - from_.toNat) [D.nils])) h3 (viewV_sl' rfl (by rw [hk]) (by rw [hk]; simp)))
     have h6 : relax (.vs (List.replicate (rota.length - from_.toNat) [D.nils])) = rotaD (List.replicate (rota.length - from_.toNat) []) := by
      show D.vs (relaxE _) = _
      rw [relax_nils]; rfl
     rw [h6] at h5
     exact h5) ?_
    generalize fillW c (butSet c j) (List.replicate (rota.length - from_.toNat) []) 0 t [] = r2 at hI hcd
    obtain ⟨o, kg2⟩ := r2
    cases o with
    | none =>
     rw [hfl false (by rw [hcd]; rfl)] at he
     conv=>whnf
     refine DrawCall_fn hI [91] rfl ⟨_, _, rfl, rfl, rfl⟩ rfl ?_
     conv=>whnf
     refine arith_in (wrap_i64 (by (try dsimp only); omega)) ?_
     conv=>whnf
     refine ⟨a :: l, ⟨by simp at hal ⊢; omega, by simpa using he⟩, (Wk.sub ⟨(by first | rfl | (simp only [List.length_map]; rfl) | simp [PX.get]), (by first | rfl | (simp only [List.length_map]; rfl) | simp [PX.get]), (by first | rfl | (simp only [List.length_map]; rfl) | simp [PX.get]), (by first | rfl | (simp only [List.length_map]; rfl) | simp [PX.get]), (by first | rfl | (simp only [List.length_map]; rfl) | simp [PX.get]), (by first | rfl | (simp only [List.length_map]; rfl) | simp [PX.get]), (by first | rfl | (simp only [List.length_map]; rfl) | simp [PX.get]), (by first | rfl | (simp only [List.length_map]; rfl) | simp [PX.get]), trivial⟩ ⟨(by first | rfl | (simp only [List.length_map]; rfl) | simp [PX.get]), (by first | rfl | (simp only [List.length_map]; rfl) | simp [PX.get]), (by first | rfl | (simp only [List.length_map]; rfl) | simp [PX.get]), trivial⟩)⟩
    | some l2 =>
     rw [hfl true (by rw [hcd]; rfl)] at he
     conv=>whnf
     refine DrawCall_fn hI [91] rfl ⟨_, _, rfl, rfl, rfl⟩ rfl ?_
     conv=>whnf
     refine ownK_whole rfl ?_
     conv=>whnf
     refine ownK_whole (by simp [Els.len, intsC]) ?_
     conv=>whnf
     refine chk_i (decide_eq_true (by
      show ((intsC (a :: l)).length + 1) * 8 ≤ 140737488355328
      simp [intsC] at hal ⊢; omega)) ?_
     conv=>whnf
     refine arith_in (wrap_i64 (by (try dsimp only); omega)) ?_
     conv=>whnf
     refine ⟨a :: l ++ [(j : Int)], ⟨by simp at hal ⊢; omega, by simpa using he⟩, Wk.sub ⟨rfl, rfl, rfl, ?_, rfl, rfl, rfl, rfl, trivial⟩ ⟨rfl, rfl, ?_, trivial⟩⟩
     ·show some (V.sl 99 1 0 ((intsC (a :: l)).length + 1)) = some (V.sl 99 1 0 (a :: (l ++ [(j : Int)])).length)
      simp [intsC]
     ·show some (Obj.arr 1 (Els.dd (intsC (a :: l) ++ [[i64 (j : Int)]]))) = some (Obj.arr 1 (Els.dd (intsC (a :: (l ++ [(j : Int)])))))
      simp [intsC]
  ·rintro acc ⟨_, he⟩
   have he : M = acc := by simpa using he
   rw [he]
   cases acc with
   | nil =>
    conv=>whnf
    refine brk_i (fun h => absurd h (by simp)) (fun _ => ?_)
    conv=>whnf
    exact RetA_view 0 rfl ⟨⟨rfl, rfl⟩, rfl⟩
   | cons a l =>
    conv=>whnf
    refine brk_i (fun h => absurd h (by simp)) (fun _ => ?_)
    conv=>whnf
    refine RetA_view 1 (ds := [intsD (a :: l), i64 0]) ?_ ⟨⟨rfl, rfl⟩, rfl⟩
    exact viewL_cons (viewV_sl (es := intsC (a :: l)) rfl (by simp [intsC])) rfl
 ·have hE : missE c rota from_ = entE c rota := by rw [missE, if_neg h0]
  rw [hE]
  simp only [h0, if_false]
  conv=>whnf
  exact RetA_view 0 rfl ⟨⟨rfl, rfl⟩, rfl⟩
end Go.PX
namespace Go.PX
open Go.Proofs
def adaM : Man := ⟨⟨#[97, 100, 97]⟩, 2, []⟩
def benM : Man := ⟨⟨#[98, 101, 110]⟩, 1, []⟩
def cidM : Man := ⟨⟨#[99, 105, 100]⟩, 0, [2]⟩
def danM : Man := ⟨⟨#[100, 97, 110]⟩, 1, []⟩
def caseC (rest : Int) (dan : Bool) : WCase := ⟨[adaM, benM, cidM] ++ (if dan then [danM] else []), [⟨1, 1⟩, ⟨1, 0⟩, ⟨1, 0⟩], 1, rest⟩
theorem wa40 (rest : Int) (dan : Bool) : FnV Try.prog 40 [i64 rest, .bool dan] (caseC rest dan).d := by
 refine FnV.relax (r := .agg ((.vs ([[.str ⟨#[97, 100, 97]⟩, i64 2, .nils], [.str ⟨#[98, 101, 110]⟩, i64 1, .nils], [.str ⟨#[99, 105, 100]⟩, i64 0, intsD [2]]] ++ (if dan then [[.str ⟨#[100, 97, 110]⟩, i64 1, .nils]] else []))) :: (caseC rest dan).cells.tail)) ?_ (by cases dan <;> rfl)
 cases dan with
 | false =>
  refine fnV_of mixed tysOk Try.func40 rfl (ft := ft40) 2 (by decide +kernel) (by rfl) fun {σ} Y st => ?_
  conv=>whnf
  exact RetA_view 3 rfl ⟨⟨rfl, rfl⟩, rfl⟩
 | true =>
  refine fnV_of mixed tysOk Try.func40 rfl (ft := ft40) 2 (by decide +kernel) (by rfl) fun {σ} Y st => ?_
  conv=>whnf
  refine ownK_whole rfl ?_
  conv=>whnf
  refine ownK_whole rfl ?_
  conv=>whnf
  exact RetA_view 3 rfl ⟨⟨rfl, rfl⟩, rfl⟩
theorem wa24 (a b : List (List Int)) (ha : a.length < 1000000) (hr : ∀ r ∈ a, r.length < 1000000) : FnV Try.prog 24 [rotaD a, rotaD b] (.bool (decide (a = b))) := by
 refine fnV_of mixed tysOk Try.func24 rfl (ft := ft24) 2 (by decide +kernel) (by rfl) fun {σ} Y st => ?_
 conv=>whnf
 refine brk_i (fun h0 => ?_) (fun h0 => ?_)
 ·have h0 : ¬ a.length = b.length := by
   have : ¬ ((a.length : Int) = b.length) := by simpa using h0
   omega
  conv=>whnf
  rw [decide_eq_false (fun e => h0 (by rw [e]))]
  exact RetA_view 0 rfl ⟨⟨rfl, rfl⟩, rfl⟩
 have h0 : a.length = b.length := by
  have : ((a.length : Int) = b.length) := by simpa using h0
  omega
 conv=>whnf
 refine LoopA_i (T := tys) tysOk (by exact drawsB_spec mixed tysOk (by decide +kernel)) a (fun i (_ : Unit) => ⟨[(0, .d (rotaD a)), (1, .d (rotaD b)), (4, .d (.bool false)), (5, .d (i64 i))], [], st⟩)
  (fun i r _ => (decide (a = b)) = decide (r = b.drop i)) () (Wk.sub ⟨(by first | rfl | (simp only [List.length_map]; rfl) | simp [PX.get]), (by first | rfl | (simp only [List.length_map]; rfl) | simp [PX.get]), (by first | rfl | (simp only [List.length_map]; rfl) | simp [PX.get]), (by first | rfl | (simp only [List.length_map]; rfl) | simp [PX.get]), trivial⟩ trivial) rfl ?_ ?_
 ·intro i x r _ hx hi hr' he
  have hib : i < b.length := by omega
  have hdb : b.drop i = b[i] :: b.drop (i + 1) := by rw [List.drop_eq_getElem_cons hib]
  rw [hdb] at he
  have hgb : b[i]? = some b[i] := List.getElem?_eq_getElem hib
  have hxr := hr x (List.mem_of_getElem? hx)
  conv=>whnf
  refine brk_i (fun _ => ?_) (fun h => absurd hi (by have := of_decide_eq_false h; simp at this; omega))
  conv=>whnf
  refine elemK_nat hx ?_
  conv=>whnf
  refine elemK_nat hgb ?_
  conv=>whnf
  refine DrawCall_v (ds := [intsD x, intsD b[i]]) (fn19 x b[i] hxr) rfl rfl ?_
  conv=>whnf
  refine brk_i (fun h1 => ?_) (fun h1 => ?_)
  ·have h1 : ¬ x = b[i] := by simpa using h1
   conv=>whnf
   rw [he, decide_eq_false (fun e => h1 (List.cons.inj e).1)]
   exact RetA_view 0 rfl ⟨⟨rfl, rfl⟩, rfl⟩
  ·have h1 : x = b[i] := by simpa using h1
   conv=>whnf
   refine arith_in (wrap_i64 (by (try dsimp only); omega)) ?_
   conv=>whnf
   refine ⟨(), ?_, (Wk.sub ⟨(by first | rfl | (simp only [List.length_map]; rfl) | simp [PX.get]), (by first | rfl | (simp only [List.length_map]; rfl) | simp [PX.get]), (by first | rfl | (simp only [List.length_map]; rfl) | simp [PX.get]), (by first | rfl | (simp only [List.length_map]; rfl) | simp [PX.get]), trivial⟩ trivial)⟩
   rw [he]
   exact decide_eq_decide.2 ⟨fun e => (List.cons.inj e).2, fun e => by rw [h1, e]⟩
 ·intro _ he
  conv=>whnf
  refine brk_i (fun h => absurd h (by simp)) (fun _ => ?_)
  conv=>whnf
  have hd : b.drop a.length = [] := by rw [h0]; simp
  rw [he, hd]
  exact RetA_view 0 rfl ⟨⟨rfl, rfl⟩, rfl⟩
def rowsL (men : List Int) : List (List Int) := men.map fun m => [m]
theorem wa42 (men : List Int) (hl : men.length ≤ 1000) : FnV Try.prog 42 [intsD men] (rotaN (rowsL men)) := by
 refine fnV_of mixed tysOk Try.func42 rfl (ft := ft42) 1 (by decide +kernel) (by rfl) fun {σ} Y st => ?_
 conv=>whnf
 generalize hM : rowsL men = M
 refine LoopA_i (T := tys) tysOk (by exact drawsB_spec mixed tysOk (by decide +kernel)) men (fun j (acc : List (List Int)) => ⟨[(0, .d (intsD men)), (3, match acc with
   | [] => .d .nils
   | x :: r => .sl 18 1 0 (x :: r).length), (4, .d (i64 j))], match acc with
   | [] => []
   | x :: r => [(18, .arr 1 (.dd ((x :: r).map fun r => [intsD r])))], st⟩)
  (fun j r acc => acc.length = j ∧ M = acc ++ rowsL r) [] (Wk.sub ⟨(by first | rfl | (simp only [List.length_map]; rfl) | simp [PX.get]), (by first | rfl | (simp only [List.length_map]; rfl) | simp [PX.get]), (by first | rfl | (simp only [List.length_map]; rfl) | simp [PX.get]), trivial⟩ trivial) ⟨rfl, hM.symm⟩ ?_ ?_
 ·rintro j x r acc hx hj hr2 ⟨hal, he⟩
  have he : M = (acc ++ [[x]]) ++ rowsL r := by rw [he]; simp [rowsL]
  cases acc with
  | nil =>
   conv=>whnf
   refine brk_i (fun _ => ?_) (fun h => absurd hj (by have := of_decide_eq_false h; simp at this; omega))
   conv=>whnf
   refine elemK_nat hx ?_
   conv=>whnf
   refine ownK_whole rfl ?_
   conv=>whnf
   refine arith_in (wrap_i64 (by (try dsimp only); omega)) ?_
   conv=>whnf
   refine ⟨[[x]], ⟨by simp at hal ⊢; omega, he⟩, (Wk.frzArr 1 [16] 18 (vs := [[.sl 16 1 0 1]]) (ds := [[intsD [x]]]) rfl (viewLL_one (viewL_cons (viewV_sl (es := [[i64 x]]) rfl rfl) rfl))).trans (Wk.sub ⟨(by first | rfl | (simp only [List.length_map]; rfl) | simp [PX.get]), (by first | rfl | (simp only [List.length_map]; rfl) | simp [PX.get]), (by first | rfl | (simp only [List.length_map]; rfl) | simp [PX.get]), trivial⟩ ⟨(by first | rfl | (simp only [List.length_map]; rfl) | simp [PX.get]), trivial⟩)⟩
  | cons a l =>
   conv=>whnf
   refine brk_i (fun _ => ?_) (fun h => absurd hj (by have := of_decide_eq_false h; simp at this; omega))
   conv=>whnf
   refine elemK_nat hx ?_
   conv=>whnf
   refine ownK_whole rfl ?_
   conv=>whnf
   refine ownK_whole (by simp [Els.len]) ?_
   conv=>whnf
   have hfree : (true && !nameBL 18 ((injL ((a :: l).map fun r => [intsD r]) ++ [[V.sl 16 1 0 1]]).flatten)) = true := by
    rw [nameBL_injL]; rfl
   refine chk_i hfree ?_
   conv=>whnf
   refine chk_i (decide_eq_true (by
    show (((a :: l).map fun r => [intsD r]).length + 1) * 24 ≤ 140737488355328
    rw [List.length_map]; omega)) ?_
   conv=>whnf
   refine arith_in (wrap_i64 (by (try dsimp only); omega)) ?_
   conv=>whnf
   refine ⟨a :: l ++ [[x]], ⟨by simp at hal ⊢; omega, he⟩, (Wk.frzArr 1 [16] 18 (sz := 1) (vs := injL ((a :: l).map fun r => [intsD r]) ++ [[.sl 16 1 0 1]]) (ds := ((a :: l).map fun r => [intsD r]) ++ [[intsD [x]]]) ?_ (viewLL_app (viewLL_one (viewL_cons (viewV_sl (es := [[i64 x]]) rfl rfl) rfl)) _)).trans ?_⟩
   ·rfl
   ·refine Wk.sub ⟨rfl, ?_, rfl, trivial⟩ ⟨?_, trivial⟩
    ·show some (V.sl 18 1 0 (((a :: l).map fun r => [intsD r]).length + 1)) = some (V.sl 18 1 0 (a :: (l ++ [[x]])).length)
     simp
    ·show some (Obj.arr 1 (Els.dd (((a :: l).map fun r => [intsD r]) ++ [[intsD [x]]]))) = some (Obj.arr 1 (Els.dd ((a :: (l ++ [[x]])).map fun r => [intsD r])))
     simp
 ·rintro acc ⟨_, he⟩
  have he : M = acc := by simpa [rowsL] using he
  rw [he]
  cases acc with
  | nil =>
   conv=>whnf
   refine brk_i (fun h => absurd h (by simp)) (fun _ => ?_)
   conv=>whnf
   exact RetA_view 0 rfl ⟨⟨rfl, rfl⟩, rfl⟩
  | cons a l =>
   conv=>whnf
   refine brk_i (fun h => absurd h (by simp)) (fun _ => ?_)
   conv=>whnf
   refine RetA_view 1 (ds := [rotaD (a :: l)]) ?_ ⟨⟨rfl, rfl⟩, rfl⟩
   exact viewL_cons (viewV_sl (es := (a :: l).map fun r => [intsD r]) rfl (by simp)) rfl
end Go.PX
namespace Go.PX
open Go.Proofs
theorem wa60 (n lo hi : Int) : FnV Try.prog 60 [i64 n, i64 lo, i64 hi] (.bool (inB n lo hi)) := by
 refine fnV_of mixed tysOk Try.func60 rfl (ft := ft60) 3 (by decide +kernel) (by rfl) fun {σ} Y st => ?_
 conv=>whnf
 refine brk_i (fun hb => ?_) (fun hb => ?_)
 ·conv=>whnf
  refine RetA_view 0 rfl ⟨⟨?_, rfl⟩, rfl⟩
  simp [packD, inB] at hb ⊢; simp [hb]
 ·conv=>whnf
  refine RetA_view 0 rfl ⟨⟨?_, rfl⟩, rfl⟩
  simp [packD, inB] at hb ⊢; omega
theorem wa49 (l : List Int) (n : Int) (hl : l.length < 4000000000000000000) : FnV Try.prog 49 [intsD l, i64 n] (.bool (decide (n ∈ l))) := by
 refine fnV_of mixed tysOk Try.func49 rfl (ft := ft49) 2 (by decide +kernel) (by rfl) fun {σ} Y st => ?_
 conv=>whnf
 refine LoopA_i (T := tys) tysOk (by exact drawsB_spec mixed tysOk (by decide +kernel)) l (fun i (_ : Unit) => ⟨[(0, .d (intsD l)), (1, .d (i64 n)), (4, .d (.bool false)), (5, .d (i64 i))], [], st⟩) (fun i r _ => decide (n ∈ l) = decide (n ∈ r)) () (Wk.sub ⟨(by first | rfl | (simp only [List.length_map]; rfl) | simp [PX.get]), (by first | rfl | (simp only [List.length_map]; rfl) | simp [PX.get]), (by first | rfl | (simp only [List.length_map]; rfl) | simp [PX.get]), (by first | rfl | (simp only [List.length_map]; rfl) | simp [PX.get]), trivial⟩ trivial) rfl ?_ ?_
 ·intro i x r _ hx hi hr he
  conv=>whnf
  refine brk_i (fun _ => ?_) (fun h => absurd hi (by have := of_decide_eq_false h; simp at this; omega))
  conv=>whnf
  refine elemK_nat hx ?_
  conv=>whnf
  refine brk_i (fun h1 => ?_) (fun h1 => ?_)
  ·have h1 : x = n := of_decide_eq_true h1
   conv=>whnf
   rw [he, decide_eq_true (by rw [h1]; simp)]
   exact RetA_view 0 rfl ⟨⟨rfl, rfl⟩, rfl⟩
  ·have h1 : ¬ x = n := of_decide_eq_false h1
   conv=>whnf
   refine arith_in (wrap_i64 (by (try dsimp only); omega)) ?_
   conv=>whnf
   refine ⟨(), ?_, (Wk.sub ⟨(by first | rfl | (simp only [List.length_map]; rfl) | simp [PX.get]), (by first | rfl | (simp only [List.length_map]; rfl) | simp [PX.get]), (by first | rfl | (simp only [List.length_map]; rfl) | simp [PX.get]), (by first | rfl | (simp only [List.length_map]; rfl) | simp [PX.get]), trivial⟩ trivial)⟩
   rw [he]
   exact decide_eq_decide.2 ⟨fun h => (List.mem_cons.1 h).elim (fun e => absurd e.symm h1) id, fun h => List.mem_cons_of_mem _ h⟩
 ·intro _ he
  conv=>whnf
  refine brk_i (fun h => absurd h (by simp)) (fun _ => ?_)
  conv=>whnf
  rw [he]
  exact RetA_view 0 rfl ⟨⟨rfl, rfl⟩, rfl⟩
theorem wa62 (l : List Int) (many : Int) (hm : -1000000 ≤ many ∧ many ≤ 1000000) : FnV Try.prog 62 [intsD l, i64 many] (i64 (ascF many (-1) l)) := by
 refine fnV_of mixed tysOk Try.func62 rfl (ft := ft62) 2 (by decide +kernel) (by rfl) fun {σ} Y st => ?_
 conv=>whnf
 refine LoopA_i (T := tys) tysOk (by exact drawsB_spec mixed tysOk (by decide +kernel)) l (fun i (last : Int) => ⟨[(0, .d (intsD l)), (1, .d (i64 many)), (4, .d (i64 0)), (5, .d (i64 i))], [], st⟩)
  (fun i r last => ascF many (-1) l = ascF many last r ∧ ((i = 0 ∧ last = -1) ∨ (0 < i ∧ l[i - 1]? = some last ∧ (i : Int) - 1 ≤ last ∧ last ≤ many - 1))) (-1) (Wk.sub ⟨(by first | rfl | (simp only [List.length_map]; rfl) | simp [PX.get]), (by first | rfl | (simp only [List.length_map]; rfl) | simp [PX.get]), (by first | rfl | (simp only [List.length_map]; rfl) | simp [PX.get]), (by first | rfl | (simp only [List.length_map]; rfl) | simp [PX.get]), trivial⟩ trivial) ⟨rfl, .inl ⟨rfl, rfl⟩⟩ ?_ ?_
 ·rintro i x r last hx hi hr ⟨he, hlast⟩
  rw [ascF] at he
  conv=>whnf
  refine brk_i (fun _ => ?_) (fun h => absurd hi (by have := of_decide_eq_false h; simp at this; omega))
  conv=>whnf
  refine elemK_nat hx ?_
  conv=>whnf
  refine arith_in (wrap_i64 (by (try dsimp only); omega)) ?_
  conv=>whnf
  refine CallA_v (ds := [i64 x, i64 0, i64 (many - 1)]) (wa60 x 0 (many - 1)) rfl rfl ?_
  cases hb : inB x 0 (many - 1) with
  | false =>
   rw [hb] at he
   conv=>whnf
   rw [he]
   exact RetA_view 0 rfl ⟨⟨rfl, rfl⟩, rfl⟩
  | true =>
   rw [hb] at he
   have hx0 := inB_iff.1 hb
   simp only [if_true] at he
   conv=>whnf
   refine brk_i (fun h2 => ?_) (fun h2 => ?_)
   ·have h2 : 0 < i := by have := of_decide_eq_true h2; simp at this; omega
    obtain ⟨_, hl1, hl2, hl3⟩ := hlast.resolve_left (fun h => by omega)
    conv=>whnf
    refine elemK_nat hx ?_
    conv=>whnf
    refine arith_to (((i - 1 : Nat) : Int)) (by (try dsimp only); omega) (wrap_i64 (by (try dsimp only); omega)) ?_
    conv=>whnf
    refine elemK_nat hl1 ?_
    conv=>whnf
    refine brk_i (fun h3 => ?_) (fun h3 => ?_)
    ·have h3 : x ≤ last := of_decide_eq_true h3
     rw [if_pos h3] at he
     conv=>whnf
     rw [he]
     exact RetA_view 0 rfl ⟨⟨rfl, rfl⟩, rfl⟩
    ·have h3 : ¬ x ≤ last := of_decide_eq_false h3
     rw [if_neg h3] at he
     conv=>whnf
     refine arith_in (wrap_i64 (by (try dsimp only); omega)) ?_
     conv=>whnf
     exact ⟨x, ⟨he, .inr ⟨by omega, by simpa using hx, by omega, by omega⟩⟩, (Wk.sub ⟨(by first | rfl | (simp only [List.length_map]; rfl) | simp [PX.get]), (by first | rfl | (simp only [List.length_map]; rfl) | simp [PX.get]), (by first | rfl | (simp only [List.length_map]; rfl) | simp [PX.get]), (by first | rfl | (simp only [List.length_map]; rfl) | simp [PX.get]), trivial⟩ trivial)⟩
   ·have h2 : ¬ 0 < i := by have := of_decide_eq_false h2; simp at this; omega
    have hl1 : last = -1 := by
     rcases hlast with h | h
     ·exact h.2
     ·omega
    rw [if_neg (by omega)] at he
    conv=>whnf
    refine arith_in (wrap_i64 (by (try dsimp only); omega)) ?_
    conv=>whnf
    exact ⟨x, ⟨he, .inr ⟨by omega, by simpa using hx, by omega, by omega⟩⟩, (Wk.sub ⟨(by first | rfl | (simp only [List.length_map]; rfl) | simp [PX.get]), (by first | rfl | (simp only [List.length_map]; rfl) | simp [PX.get]), (by first | rfl | (simp only [List.length_map]; rfl) | simp [PX.get]), (by first | rfl | (simp only [List.length_map]; rfl) | simp [PX.get]), trivial⟩ trivial)⟩
 ·rintro last ⟨he, _⟩
  conv=>whnf
  refine brk_i (fun h => absurd h (by simp)) (fun _ => ?_)
  conv=>whnf
  rw [he, ascF]
  exact RetA_view 0 rfl ⟨⟨rfl, rfl⟩, rfl⟩
end Go.PX
namespace Go.PX
open Go.Proofs
def namesW (l : List Man) : List ByteArray := l.map (·.name)
theorem manF_eq (n : Int) (b : List Man) (x : Man) : manF n b x = if freshF x.name (namesW b) = 0 then (if inB x.kind 0 3 then ascF n (-1) x.no else 7) else freshF x.name (namesW b) := by
 have h : ((namesW b).any fun y => decide (y = x.name)) = b.any fun y => decide (y.name = x.name) := by
  unfold namesW; rw [List.any_map]; rfl
 unfold manF freshF
 rw [h]
 cases nameF x.name <;> cases (b.any fun y => decide (y.name = x.name)) <;> simp
theorem wa16 (c : WCase) : FnV Try.prog 16 [c.d] (tri (checkW c)) := by
 refine fnV_of mixed tysOk Try.func16 rfl (ft := ft16) 1 (by decide +kernel) (by rfl) fun {σ} Y st => ?_
 conv=>whnf
 unfold checkW
 rw [List.length_map]
 refine CallA_v (ds := [i64 c.men.length, i64 1, i64 5]) (wa60 _ 1 5) rfl rfl ?_
 cases h0 : inB c.men.length 1 5 with
 | false =>
  conv=>whnf
  exact RetA_view 0 rfl ⟨⟨rfl, rfl⟩, rfl⟩
 | true =>
 conv=>whnf
 rw [List.length_map]
 refine CallA_v (ds := [i64 c.slots.length, i64 1, i64 6]) (wa60 _ 1 6) rfl rfl ?_
 cases h1 : inB c.slots.length 1 6 with
 | false =>
  conv=>whnf
  exact RetA_view 0 rfl ⟨⟨rfl, rfl⟩, rfl⟩
 | true =>
 rw [inB_iff] at h0 h1
 conv=>whnf
 refine CallA_v (ds := [i64 c.run, i64 1, i64 3]) (wa60 _ 1 3) rfl rfl ?_
 cases h2 : inB c.run 1 3 with
 | false =>
  conv=>whnf
  exact RetA_view 0 rfl ⟨⟨rfl, rfl⟩, rfl⟩
 | true =>
 conv=>whnf
 refine CallA_v (ds := [i64 c.rest, i64 1, i64 3]) (wa60 _ 1 3) rfl rfl ?_
 cases h3 : inB c.rest 1 3 with
 | false =>
  conv=>whnf
  exact RetA_view 0 rfl ⟨⟨rfl, rfl⟩, rfl⟩
 | true =>
 simp only [Bool.and_self, if_true]
 conv=>whnf
 refine LoopA_i (T := tys) tysOk (by exact drawsB_spec mixed tysOk (by decide +kernel)) c.slots (fun i (_ : Unit) => ⟨[(1, .ptr 1 0), (5, .d (i64 i))], [(1, .box (.dd c.cells))], st⟩) (fun i r _ => firstE slotF [] c.slots 0 = firstE slotF (c.slots.take i) r i) () (Wk.sub ⟨(by first | rfl | (simp only [List.length_map]; rfl) | simp [PX.get]), (by first | rfl | (simp only [List.length_map]; rfl) | simp [PX.get]), trivial⟩ ⟨(by first | rfl | (simp only [List.length_map]; rfl) | simp [PX.get]), trivial⟩) rfl ?_ ?_
 ·intro i x r _ hx hi hr he
  rw [firstE] at he
  have htk : c.slots.take (i + 1) = c.slots.take i ++ [x] := by rw [List.take_succ, hx]; rfl
  conv=>whnf
  refine brk_i (fun _ => ?_) (fun h => absurd hi (by have := of_decide_eq_false h; simp at this; omega))
  conv=>whnf
  refine elemK_nat hx ?_
  conv=>whnf
  refine CallA_v (ds := [i64 x.men, i64 1, i64 2]) (wa60 _ 1 2) rfl rfl ?_
  cases h4 : inB x.men 1 2 with
  | false =>
   conv=>whnf
   rw [he]
   simp only [slotF, h4]
   exact RetA_view 0 rfl ⟨⟨rfl, rfl⟩, rfl⟩
  | true =>
  conv=>whnf
  refine elemK_nat hx ?_
  conv=>whnf
  refine CallA_v (ds := [i64 x.least, i64 0, i64 3]) (wa60 _ 0 3) rfl rfl ?_
  cases h5 : inB x.least 0 3 with
  | false =>
   conv=>whnf
   rw [he]
   simp only [slotF, h4, h5]
   exact RetA_view 0 rfl ⟨⟨rfl, rfl⟩, rfl⟩
  | true =>
  have hs : slotF (c.slots.take i) x = 0 := by simp [slotF, h4, h5]
  rw [if_pos hs, ← htk] at he
  conv=>whnf
  refine arith_in (wrap_i64 (by (try dsimp only); omega)) ?_
  conv=>whnf
  exact ⟨(), he, (Wk.sub ⟨(by first | rfl | (simp only [List.length_map]; rfl) | simp [PX.get]), (by first | rfl | (simp only [List.length_map]; rfl) | simp [PX.get]), trivial⟩ ⟨(by first | rfl | (simp only [List.length_map]; rfl) | simp [PX.get]), trivial⟩)⟩
 intro _ he
 rw [List.take_length, firstE] at he
 rw [he]
 simp only [if_true]
 conv=>whnf
 refine brk_i (fun h => absurd h (by simp)) (fun _ => ?_)
 conv=>whnf
 unfold checkM
 refine LoopA_i (T := tys) tysOk (by exact drawsB_spec mixed tysOk (by decide +kernel)) c.men (fun i (_ : Unit) => ⟨[(1, .ptr 1 0), (6, .sl 80 1 0 i), (7, .d (i64 i))], [(1, .box (.dd c.cells)), (80, .arr 1 (.dd ((namesW (c.men.take i)).map fun s => [.str s])))], st⟩) (fun i r _ => firstE (manF c.slots.length) [] c.men 0 = firstE (manF c.slots.length) (c.men.take i) r i) ()
  ((Wk.born 6 80 1 rfl rfl rfl).trans (Wk.sub ⟨(by first | rfl | (simp only [List.length_map]; rfl) | simp [PX.get]), (by first | rfl | (simp only [List.length_map]; rfl) | simp [PX.get]), (by first | rfl | (simp only [List.length_map]; rfl) | simp [PX.get]), trivial⟩ ⟨(by first | rfl | (simp only [List.length_map]; rfl) | simp [PX.get]), (by first | rfl | (simp only [List.length_map]; rfl) | simp [PX.get]), trivial⟩)) rfl ?_ ?_
 ·intro i x r _ hx hi hr he
  rw [firstE] at he
  have htk : c.men.take (i + 1) = c.men.take i ++ [x] := by rw [List.take_succ, hx]; rfl
  have hE := manF_eq c.slots.length (c.men.take i) x
  have hnl : (namesW (c.men.take i)).length = i := by unfold namesW; simp; omega
  conv=>whnf
  refine brk_i (fun _ => ?_) (fun h => absurd hi (by have := of_decide_eq_false h; simp at this; omega))
  conv=>whnf
  refine elemK_nat hx ?_
  conv=>whnf
  refine CallA_view (ds := [.str x.name, strsD (namesW (c.men.take i))]) (fn91 x.name (namesW (c.men.take i)) (by omega)) rfl 1 (viewL_cons rfl (viewL_cons (viewV_sl rfl (by simp [hnl])) rfl)) ?_
  conv=>whnf
  refine elemK_nat hx ?_
  conv=>whnf
  refine ownK_whole rfl ?_
  conv=>whnf
  refine ownK_whole (by simp [Els.len, hnl]) ?_
  conv=>whnf
  refine chk_i (decide_eq_true (by
   show (((namesW (c.men.take i)).map fun s => [D.str s]).length + 1) * 16 ≤ 140737488355328
   rw [List.length_map]; omega)) ?_
  conv=>whnf
  generalize freshF x.name (namesW (c.men.take i)) = F at hE ⊢
  have hnext : (namesW (c.men.take i)).map (fun s => [D.str s]) ++ [[.str x.name]] = (namesW (c.men.take (i + 1))).map fun s => [.str s] := by
   rw [htk]; simp [namesW]
  have hnl1 : ((namesW (c.men.take i)).map fun s => [D.str s]).length + 1 = i + 1 := by rw [List.length_map, hnl]
  refine brk_i (fun h2 => ?_) (fun h2 => ?_)
  ·have h2 : F = 0 := of_decide_eq_true h2
   subst h2
   simp only [if_true] at hE
   conv=>whnf
   refine elemK_nat hx ?_
   conv=>whnf
   refine CallA_v (ds := [i64 x.kind, i64 0, i64 3]) (wa60 _ 0 3) rfl rfl ?_
   cases h3 : inB x.kind 0 3 with
   | false =>
    rw [h3] at hE
    simp only [Bool.false_eq_true, if_false] at hE
    rw [hE] at he
    conv=>whnf
    rw [he]
    exact RetA_view 0 rfl ⟨⟨rfl, rfl⟩, rfl⟩
   | true =>
    rw [h3] at hE
    simp only [if_true] at hE
    conv=>whnf
    refine elemK_nat hx ?_
    conv=>whnf
    rw [List.length_map]
    refine DrawCall_v (ds := [intsD x.no, i64 c.slots.length]) (wa62 x.no c.slots.length (by omega)) rfl rfl ?_
    generalize ascF c.slots.length (-1) x.no = E at hE ⊢
    conv=>whnf
    refine brk_i (fun h4 => ?_) (fun h4 => ?_)
    ·have h4 : ¬ E = 0 := by simpa using h4
     rw [hE, if_neg h4] at he
     conv=>whnf
     rw [he]
     dsimp only
     rw [if_neg h4]
     exact RetA_view 0 rfl ⟨⟨rfl, rfl⟩, rfl⟩
    ·have h4 : E = 0 := by simpa using h4
     rw [hE, if_pos h4, ← htk] at he
     conv=>whnf
     refine arith_in (wrap_i64 (by (try dsimp only); omega)) ?_
     conv=>whnf
     refine ⟨(), he, Wk.sub ⟨rfl, ?_, rfl, trivial⟩ ⟨rfl, ?_, trivial⟩⟩
     ·show some (V.sl 80 1 0 (((namesW (c.men.take i)).map fun s => [D.str s]).length + 1)) = _
      rw [hnl1]
     ·show some (Obj.arr 1 (Els.dd ((namesW (c.men.take i)).map (fun s => [D.str s]) ++ [[.str x.name]]))) = _
      rw [hnext]
  ·have h2 : ¬ F = 0 := of_decide_eq_false h2
   rw [if_neg h2] at hE
   rw [hE, if_neg h2] at he
   conv=>whnf
   refine brk_i (fun h3 => absurd (of_decide_eq_true h3) h2) (fun _ => ?_)
   conv=>whnf
   refine brk_i (fun _ => ?_) (fun h3 => absurd h3 (by simp [h2]))
   conv=>whnf
   rw [he]
   dsimp only
   rw [if_neg h2]
   exact RetA_view 0 rfl ⟨⟨rfl, rfl⟩, rfl⟩
 ·intro _ he
  rw [List.take_length, firstE] at he
  rw [he]
  conv=>whnf
  refine brk_i (fun h => absurd h (by simp)) (fun _ => ?_)
  conv=>whnf
  exact RetA_view 0 rfl ⟨⟨rfl, rfl⟩, rfl⟩
end Go.PX
namespace Go.PX
open Go.Proofs
structure LoopFin (c : WCase) (rota : List (List Int)) (e0 : Int) : Prop where
 eq : entE c rota = (if e0 = 0 then firstErr (ascF c.men.length (-1)) rota else e0)
 bd : e0 = 0 → c.men.length ≤ 5 ∧ rota.length ≤ 40
theorem wa65 (c : WCase) (rota : List (List Int)) : FnV Try.prog 65 [c.d, rotaD rota] (i64 (entE c rota)) := by
 refine fnV_of mixed tysOk Try.func65 rfl (ft := ft65) 2 (by decide +kernel) (by rfl) fun {σ} Y st => ?_
 conv=>whnf
 refine CallA_v (wa16 c) rfl rfl ?_
 conv=>whnf
 have fin : ∀ (e0 : Int), entE c rota = (if e0 = 0 then firstErr (ascF c.men.length (-1)) rota else e0) → (e0 = 0 → c.men.length ≤ 5 ∧ rota.length ≤ 40) → LoopFin c rota e0 := fun e0 h1 h2 => ⟨h1, h2⟩
 refine brk_i (fun h0 => ?_) (fun h0 => ?_)
 ·have h0 : (checkW c).2.2 = 0 := of_decide_eq_true h0
  have hm := (wR h0).men
  conv=>whnf
  refine brk_i (fun h1 => ?_) (fun h1 => ?_)
  ·have h1 : rota.length > 40 := by have := of_decide_eq_true h1; simp at this; omega
   obtain ⟨hE, hb⟩ := fin 3 (by rw [entE, if_pos h0, if_pos h1]; rfl) (fun h => by omega)
   conv=>whnf
   refine LoopA_i (T := tys) tysOk (by exact drawsB_spec mixed tysOk (by decide +kernel)) rota (fun i (e : Int) => ⟨[(1, .d (rotaD rota)), (2, .ptr 2 0), (4, .d (i64 0)), (7, .d (i64 e)), (8, .d (i64 i))], [(2, .box (.dd c.cells))], st⟩) (fun i r e => (entE c rota = if e = 0 then firstErr (ascF c.men.length (-1)) r else e) ∧ (e = 0 → c.men.length ≤ 5 ∧ rota.length ≤ 40)) (3) (Wk.sub ⟨(by first | rfl | (simp only [List.length_map]; rfl) | simp [PX.get]), (by first | rfl | (simp only [List.length_map]; rfl) | simp [PX.get]), (by first | rfl | (simp only [List.length_map]; rfl) | simp [PX.get]), (by first | rfl | (simp only [List.length_map]; rfl) | simp [PX.get]), (by first | rfl | (simp only [List.length_map]; rfl) | simp [PX.get]), trivial⟩ ⟨(by first | rfl | (simp only [List.length_map]; rfl) | simp [PX.get]), trivial⟩) ⟨hE, hb⟩ ?_ ?_
   ·rintro i x r e hx hi hr ⟨he, hbd⟩
    conv=>whnf
    refine brk_i (fun _ => ?_) (fun h => absurd hi (by have := of_decide_eq_false h; simp at this; omega))
    conv=>whnf
    refine brk_i (fun h2 => ?_) (fun h2 => ?_)
    ·have h2 : e = 0 := of_decide_eq_true h2
     subst h2
     obtain ⟨hb1, hb2⟩ := hbd rfl
     rw [if_pos rfl, firstErr] at he
     conv=>whnf
     refine elemK_nat hx ?_
     conv=>whnf
     rw [List.length_map]
     refine DrawCall_v (ds := [intsD x, i64 c.men.length]) (wa62 x c.men.length (by omega)) rfl rfl ?_
     conv=>whnf
     refine arith_in (wrap_i64 (by (try dsimp only); omega)) ?_
     conv=>whnf
     refine ⟨ascF c.men.length (-1) x, ⟨?_, fun _ => ⟨hb1, hb2⟩⟩, (Wk.sub ⟨(by first | rfl | (simp only [List.length_map]; rfl) | simp [PX.get]), (by first | rfl | (simp only [List.length_map]; rfl) | simp [PX.get]), (by first | rfl | (simp only [List.length_map]; rfl) | simp [PX.get]), (by first | rfl | (simp only [List.length_map]; rfl) | simp [PX.get]), (by first | rfl | (simp only [List.length_map]; rfl) | simp [PX.get]), trivial⟩ ⟨(by first | rfl | (simp only [List.length_map]; rfl) | simp [PX.get]), trivial⟩)⟩
     rw [he]
    ·have h2 : ¬ e = 0 := of_decide_eq_false h2
     rw [if_neg h2] at he
     conv=>whnf
     rw [he]
     exact RetA_view 0 rfl ⟨⟨rfl, rfl⟩, rfl⟩
   ·rintro e ⟨he, _⟩
    conv=>whnf
    refine brk_i (fun h => absurd h (by simp)) (fun _ => ?_)
    conv=>whnf
    have he : entE c rota = e := by
     rw [he]
     split
     ·rename_i h; rw [h]; rfl
     ·rfl
    rw [he]
    exact RetA_view 0 rfl ⟨⟨rfl, rfl⟩, rfl⟩
  ·have h1 : ¬ rota.length > 40 := by have := of_decide_eq_false h1; simp at this; omega
   obtain ⟨hE, hb⟩ := fin 0 (by rw [entE, if_pos h0, if_neg h1]; rfl) (fun _ => ⟨hm.2, by omega⟩)
   rw [h0]
   conv=>whnf
   refine LoopA_i (T := tys) tysOk (by exact drawsB_spec mixed tysOk (by decide +kernel)) rota (fun i (e : Int) => ⟨[(1, .d (rotaD rota)), (2, .ptr 2 0), (4, .d (i64 0)), (7, .d (i64 e)), (8, .d (i64 i))], [(2, .box (.dd c.cells))], st⟩) (fun i r e => (entE c rota = if e = 0 then firstErr (ascF c.men.length (-1)) r else e) ∧ (e = 0 → c.men.length ≤ 5 ∧ rota.length ≤ 40)) (0) (Wk.sub ⟨(by first | rfl | (simp only [List.length_map]; rfl) | simp [PX.get]), (by first | rfl | (simp only [List.length_map]; rfl) | simp [PX.get]), (by first | rfl | (simp only [List.length_map]; rfl) | simp [PX.get]), (by first | rfl | (simp only [List.length_map]; rfl) | simp [PX.get]), (by first | rfl | (simp only [List.length_map]; rfl) | simp [PX.get]), trivial⟩ ⟨(by first | rfl | (simp only [List.length_map]; rfl) | simp [PX.get]), trivial⟩) ⟨hE, hb⟩ ?_ ?_
   ·rintro i x r e hx hi hr ⟨he, hbd⟩
    conv=>whnf
    refine brk_i (fun _ => ?_) (fun h => absurd hi (by have := of_decide_eq_false h; simp at this; omega))
    conv=>whnf
    refine brk_i (fun h2 => ?_) (fun h2 => ?_)
    ·have h2 : e = 0 := of_decide_eq_true h2
     subst h2
     obtain ⟨hb1, hb2⟩ := hbd rfl
     rw [if_pos rfl, firstErr] at he
     conv=>whnf
     refine elemK_nat hx ?_
     conv=>whnf
     rw [List.length_map]
     refine DrawCall_v (ds := [intsD x, i64 c.men.length]) (wa62 x c.men.length (by omega)) rfl rfl ?_
     conv=>whnf
     refine arith_in (wrap_i64 (by (try dsimp only); omega)) ?_
     conv=>whnf
     refine ⟨ascF c.men.length (-1) x, ⟨?_, fun _ => ⟨hb1, hb2⟩⟩, (Wk.sub ⟨(by first | rfl | (simp only [List.length_map]; rfl) | simp [PX.get]), (by first | rfl | (simp only [List.length_map]; rfl) | simp [PX.get]), (by first | rfl | (simp only [List.length_map]; rfl) | simp [PX.get]), (by first | rfl | (simp only [List.length_map]; rfl) | simp [PX.get]), (by first | rfl | (simp only [List.length_map]; rfl) | simp [PX.get]), trivial⟩ ⟨(by first | rfl | (simp only [List.length_map]; rfl) | simp [PX.get]), trivial⟩)⟩
     rw [he]
    ·have h2 : ¬ e = 0 := of_decide_eq_false h2
     rw [if_neg h2] at he
     conv=>whnf
     rw [he]
     exact RetA_view 0 rfl ⟨⟨rfl, rfl⟩, rfl⟩
   ·rintro e ⟨he, _⟩
    conv=>whnf
    refine brk_i (fun h => absurd h (by simp)) (fun _ => ?_)
    conv=>whnf
    have he : entE c rota = e := by
     rw [he]
     split
     ·rename_i h; rw [h]; rfl
     ·rfl
    rw [he]
    exact RetA_view 0 rfl ⟨⟨rfl, rfl⟩, rfl⟩
 ·have h0 : ¬ (checkW c).2.2 = 0 := of_decide_eq_false h0
  obtain ⟨hE, hb⟩ := fin (checkW c).2.2 (by rw [entE, if_neg h0, if_neg h0]) (fun h => absurd h h0)
  conv=>whnf
  refine LoopA_i (T := tys) tysOk (by exact drawsB_spec mixed tysOk (by decide +kernel)) rota (fun i (e : Int) => ⟨[(1, .d (rotaD rota)), (2, .ptr 2 0), (4, .d (i64 0)), (7, .d (i64 e)), (8, .d (i64 i))], [(2, .box (.dd c.cells))], st⟩) (fun i r e => (entE c rota = if e = 0 then firstErr (ascF c.men.length (-1)) r else e) ∧ (e = 0 → c.men.length ≤ 5 ∧ rota.length ≤ 40)) ((checkW c).2.2) (Wk.sub ⟨(by first | rfl | (simp only [List.length_map]; rfl) | simp [PX.get]), (by first | rfl | (simp only [List.length_map]; rfl) | simp [PX.get]), (by first | rfl | (simp only [List.length_map]; rfl) | simp [PX.get]), (by first | rfl | (simp only [List.length_map]; rfl) | simp [PX.get]), (by first | rfl | (simp only [List.length_map]; rfl) | simp [PX.get]), trivial⟩ ⟨(by first | rfl | (simp only [List.length_map]; rfl) | simp [PX.get]), trivial⟩) ⟨hE, hb⟩ ?_ ?_
  ·rintro i x r e hx hi hr ⟨he, hbd⟩
   conv=>whnf
   refine brk_i (fun _ => ?_) (fun h => absurd hi (by have := of_decide_eq_false h; simp at this; omega))
   conv=>whnf
   refine brk_i (fun h2 => ?_) (fun h2 => ?_)
   ·have h2 : e = 0 := of_decide_eq_true h2
    subst h2
    obtain ⟨hb1, hb2⟩ := hbd rfl
    rw [if_pos rfl, firstErr] at he
    conv=>whnf
    refine elemK_nat hx ?_
    conv=>whnf
    rw [List.length_map]
    refine DrawCall_v (ds := [intsD x, i64 c.men.length]) (wa62 x c.men.length (by omega)) rfl rfl ?_
    conv=>whnf
    refine arith_in (wrap_i64 (by (try dsimp only); omega)) ?_
    conv=>whnf
    refine ⟨ascF c.men.length (-1) x, ⟨?_, fun _ => ⟨hb1, hb2⟩⟩, (Wk.sub ⟨(by first | rfl | (simp only [List.length_map]; rfl) | simp [PX.get]), (by first | rfl | (simp only [List.length_map]; rfl) | simp [PX.get]), (by first | rfl | (simp only [List.length_map]; rfl) | simp [PX.get]), (by first | rfl | (simp only [List.length_map]; rfl) | simp [PX.get]), (by first | rfl | (simp only [List.length_map]; rfl) | simp [PX.get]), trivial⟩ ⟨(by first | rfl | (simp only [List.length_map]; rfl) | simp [PX.get]), trivial⟩)⟩
    rw [he]
   ·have h2 : ¬ e = 0 := of_decide_eq_false h2
    rw [if_neg h2] at he
    conv=>whnf
    rw [he]
    exact RetA_view 0 rfl ⟨⟨rfl, rfl⟩, rfl⟩
  ·rintro e ⟨he, _⟩
   conv=>whnf
   refine brk_i (fun h => absurd h (by simp)) (fun _ => ?_)
   conv=>whnf
   have he : entE c rota = e := by
    rw [he]
    split
    ·rename_i h; rw [h]; rfl
    ·rfl
   rw [he]
   exact RetA_view 0 rfl ⟨⟨rfl, rfl⟩, rfl⟩
def rowH (m : Int) : List (List Int) → Int
 | [] => 0
 | r :: h => if m ∈ r then rowH m h + 1 else 0
def restH (m : Int) : List (List Int) → Int
 | [] => -1
 | r :: h => if m ∈ r then 0 else if restH m h = -1 then -1 else restH m h + 1
theorem rev_get {α : Type} {l : List α} {i : Nat} (hi : i < l.length) : l[l.length - 1 - i]? = l.reverse[i]? := by
 rw [List.getElem?_reverse hi]
theorem wa96 (rota : List (List Int)) (m : Int) (hl : rota.length < 1000000) (hr : ∀ r ∈ rota, r.length < 1000000) : FnV Try.prog 96 [rotaD rota, i64 m] (i64 (rowH m rota.reverse)) := by
 refine fnV_of mixed tysOk Try.func96 rfl (ft := ft96) 2 (by decide +kernel) (by rfl) fun {σ} Y st => ?_
 conv=>whnf
 refine LoopA_i (T := tys) tysOk (by exact drawsB_spec mixed tysOk (by decide +kernel)) rota.reverse (fun i (_ : Unit) => ⟨[(0, .d (rotaD rota)), (1, .d (i64 m)), (4, .d (i64 0)), (5, .d (i64 i))], [], st⟩) (fun i r _ => rowH m rota.reverse = i + rowH m r) () (Wk.sub ⟨(by first | rfl | (simp only [List.length_map]; rfl) | simp [PX.get]), (by first | rfl | (simp only [List.length_map]; rfl) | simp [PX.get]), (by first | rfl | (simp only [List.length_map]; rfl) | simp [PX.get]), (by first | rfl | (simp only [List.length_map]; rfl) | simp [PX.get]), trivial⟩ trivial) (by simp) ?_ ?_
 ·intro i x r _ hx hi hr2 he
  have hir : i < rota.length := by simpa using hi
  rw [← rev_get hir] at hx
  rw [rowH] at he
  have hxr := hr x (List.mem_of_getElem? hx)
  conv=>whnf
  refine brk_i (fun _ => ?_) (fun h => absurd hir (by have := of_decide_eq_false h; simp at this; omega))
  conv=>whnf
  refine arith_to ((rota.length : Int) - 1) (by simp) (wrap_i64 (by omega)) ?_
  conv=>whnf
  refine arith_to (((rota.length - 1 - i : Nat) : Int)) (by (try dsimp only); omega) (wrap_i64 (by (try dsimp only); omega)) ?_
  conv=>whnf
  refine elemK_nat hx ?_
  conv=>whnf
  refine CallA_v (ds := [intsD x, i64 m]) (wa49 x m (by omega)) rfl rfl ?_
  conv=>whnf
  refine brk_i (fun h1 => ?_) (fun h1 => ?_)
  ·have h1 : m ∈ x := of_decide_eq_true h1
   rw [if_pos h1] at he
   conv=>whnf
   refine arith_in (wrap_i64 (by (try dsimp only); omega)) ?_
   conv=>whnf
   exact ⟨(), by rw [he]; omega, (Wk.sub ⟨(by first | rfl | (simp only [List.length_map]; rfl) | simp [PX.get]), (by first | rfl | (simp only [List.length_map]; rfl) | simp [PX.get]), (by first | rfl | (simp only [List.length_map]; rfl) | simp [PX.get]), (by first | rfl | (simp only [List.length_map]; rfl) | simp [PX.get]), trivial⟩ trivial)⟩
  ·have h1 : ¬ m ∈ x := of_decide_eq_false h1
   rw [if_neg h1] at he
   conv=>whnf
   rw [he]
   exact RetA_view 0 rfl ⟨⟨rfl, rfl⟩, rfl⟩
 ·intro _ he
  conv=>whnf
  refine brk_i (fun h => absurd h (by simp)) (fun _ => ?_)
  conv=>whnf
  rw [he, rowH]
  exact RetA_view 0 rfl ⟨⟨rfl, rfl⟩, rfl⟩
theorem restH_ge (m : Int) : ∀ h, -1 ≤ restH m h
 | [] => by simp [restH]
 | r :: h => by
  have := restH_ge m h
  rw [restH]
  split
  ·omega
  ·split <;> omega
theorem wa95 (rota : List (List Int)) (m : Int) (hl : rota.length < 1000000) (hr : ∀ r ∈ rota, r.length < 1000000) : FnV Try.prog 95 [rotaD rota, i64 m] (i64 (restH m rota.reverse)) := by
 refine fnV_of mixed tysOk Try.func95 rfl (ft := ft95) 2 (by decide +kernel) (by rfl) fun {σ} Y st => ?_
 conv=>whnf
 refine LoopA_i (T := tys) tysOk (by exact drawsB_spec mixed tysOk (by decide +kernel)) rota.reverse (fun i (_ : Unit) => ⟨[(0, .d (rotaD rota)), (1, .d (i64 m)), (4, .d (i64 0)), (5, .d (i64 i))], [], st⟩) (fun i r _ => restH m rota.reverse = if restH m r = -1 then -1 else i + restH m r) () (Wk.sub ⟨(by first | rfl | (simp only [List.length_map]; rfl) | simp [PX.get]), (by first | rfl | (simp only [List.length_map]; rfl) | simp [PX.get]), (by first | rfl | (simp only [List.length_map]; rfl) | simp [PX.get]), (by first | rfl | (simp only [List.length_map]; rfl) | simp [PX.get]), trivial⟩ trivial) (by by_cases h : restH m rota.reverse = -1 <;> simp [h]) ?_ ?_
 ·intro i x r _ hx hi hr2 he
  have hir : i < rota.length := by simpa using hi
  rw [← rev_get hir] at hx
  rw [restH] at he
  have hxr := hr x (List.mem_of_getElem? hx)
  conv=>whnf
  refine brk_i (fun _ => ?_) (fun h => absurd hir (by have := of_decide_eq_false h; simp at this; omega))
  conv=>whnf
  refine arith_to ((rota.length : Int) - 1) (by simp) (wrap_i64 (by omega)) ?_
  conv=>whnf
  refine arith_to (((rota.length - 1 - i : Nat) : Int)) (by (try dsimp only); omega) (wrap_i64 (by (try dsimp only); omega)) ?_
  conv=>whnf
  refine elemK_nat hx ?_
  conv=>whnf
  refine CallA_v (ds := [intsD x, i64 m]) (wa49 x m (by omega)) rfl rfl ?_
  conv=>whnf
  refine brk_i (fun h1 => ?_) (fun h1 => ?_)
  ·have h1 : m ∈ x := of_decide_eq_true h1
   rw [if_pos h1] at he
   have he : restH m rota.reverse = i := by simpa using he
   conv=>whnf
   rw [he]
   exact RetA_view 0 rfl ⟨⟨rfl, rfl⟩, rfl⟩
  ·have h1 : ¬ m ∈ x := of_decide_eq_false h1
   rw [if_neg h1] at he
   conv=>whnf
   refine arith_in (wrap_i64 (by (try dsimp only); omega)) ?_
   conv=>whnf
   refine ⟨(), ?_, (Wk.sub ⟨(by first | rfl | (simp only [List.length_map]; rfl) | simp [PX.get]), (by first | rfl | (simp only [List.length_map]; rfl) | simp [PX.get]), (by first | rfl | (simp only [List.length_map]; rfl) | simp [PX.get]), (by first | rfl | (simp only [List.length_map]; rfl) | simp [PX.get]), trivial⟩ trivial)⟩
   have := restH_ge m r
   rw [he]
   by_cases h2 : restH m r = -1
   ·simp [h2]
   ·simp only [h2, if_false]
    rw [if_neg (by omega)]
    omega
 ·intro _ he
  conv=>whnf
  refine brk_i (fun h => absurd h (by simp)) (fun _ => ?_)
  conv=>whnf
  rw [he]
  exact RetA_view 0 rfl ⟨⟨rfl, rfl⟩, rfl⟩
end Go.PX
