import Derived.Test.YtggdbiadadojjaaGreatPxQ
import Derived.Test.YtggdbiadadojjaaGreatPxN
import Derived.Test.YtggdbiadadojjaaGreatPxM
import Derived.Test.YtggdbiadadojjaaGreatPxI
import Derived.Test.YtggdbiadadojjaaGreatPxH
set_option linter.all false
set_option maxRecDepth 10000
namespace Go.PX
open Go.Proofs
theorem kS : FnV Tryz.prog 23 [(caseK []).d, LTruth.d ⟨1, [2]⟩] (.tup [spansD [⟨0, 0⟩, ⟨6, 6⟩, ⟨12, 12⟩, ⟨18, 18⟩], i64 0]) := FnV.cast (la19 _ _) (by rw [vS.1, vS.2])
theorem kR : FnV Tryz.prog 25 [(caseK [⟨13, false⟩]).d] (.tup [Span.d ⟨1, 1⟩, spansD [⟨2, 2⟩], i64 0]) := FnV.cast (la23 _) (by rw [vR.1, vR.2.1, vR.2.2])
theorem kA1 : FnV Tryz.prog 26 [(caseK []).d, i64 2] (.tup [i64 2, i64 0]) := FnV.cast (la25 _ _) (by rw [vA1.1, vA1.2])
theorem kA2 : FnV Tryz.prog 26 [(caseK [⟨13, false⟩]).d, i64 6] (.tup [i64 1, i64 0]) := FnV.cast (la25 _ _) (by rw [vA2.1, vA2.2])
theorem kW : FnV Tryz.prog 27 [(caseK [⟨13, false⟩, ⟨18, false⟩]).d] (.tup [intsD [2], i64 0]) := FnV.cast (la27 _) (by rw [vW.1, vW.2])
theorem kF1 : FnV Tryz.prog 28 [(caseK []).d, sunkK.d, LTruth.d ⟨0, [1]⟩] (.tup [i64 2, i64 0]) := FnV.cast (la30 _ _ _) (by rw [vF1.1, vF1.2])
theorem kF2 : FnV Tryz.prog 28 [(caseK []).d, noreK.d, LTruth.d ⟨0, [1]⟩] (.tup [i64 (-1), i64 0]) := FnV.cast (la30 _ _ _) (by rw [vF2.1, vF2.2])
theorem kK1 : FnV Tryz.prog 31 [(caseK []).d, sunkK.d] (.tup [LTruth.d ⟨0, [1]⟩, i64 2, i64 0]) := FnV.cast (la32 _ _) (by rw [keptD, vK1.1, vK1.2])
theorem kK2 : FnV Tryz.prog 31 [(caseK [⟨13, false⟩]).d, sunkK.d] (.tup [(keptX (caseK [⟨13, false⟩]) sunkK).1.d, i64 (keptX (caseK [⟨13, false⟩]) sunkK).2, i64 4]) := FnV.cast (la32 _ _) (by rw [keptD, vK2])
theorem kWh : FnV Tryz.prog 32 [(caseK []).d, lightsD [noreK, sunkK]] (.tup [intsD [0, 1], i64 0]) := FnV.cast (la35 _ _) (by rw [vWh.1, vWh.2])
theorem kL : FnV Tryz.prog 9 [lampK.d, sunkK.d] (.tup [i64 2, i64 0]) := FnV.cast (la37 _ _) (by rw [vL.1, vL.2])
theorem kWi : FnV Tryz.prog 10 [lampK.d, sunkK.d] (.tup [intsD [2, 4, 6, 8, 10, 12, 14, 16, 18, 20, 22], i64 0]) := FnV.cast (la39 _ _) (by rw [vWi, vL.1])
theorem kT : FnV Tryz.prog 34 [lightsD [noreK, noreK]] (.tup [i64 (lightsF [noreK, noreK]).1, i64 5]) := FnV.cast (la17 _) (by rw [vT])
set_option maxHeartbeats 4000000 in
theorem la22 : FnV Tryz.prog 7 [] (.bool true) := by
 refine fnV_of mixed tysOk Tryz.func7 rfl (ft := ft7) 0 (by decide +kernel) (by rfl) fun {σ} Y st => ?_
 conv=>whnf
 refine CallA_v (ds := [i64 13, .bool false]) (la59 13 false) rfl rfl ?_
 conv=>whnf
 refine CallA_fz la42_1 1 [32] rfl rfl ?_
 conv=>whnf
 refine CallA_v la42_0 rfl rfl ?_
 conv=>whnf
 refine CallA_v (ds := [i64 1, i64 2]) (la43 1 2) rfl rfl ?_
 conv=>whnf
 refine CallA_v (kS) rfl rfl ?_
 conv=>whnf
 refine CallA_v (kR) rfl rfl ?_
 conv=>whnf
 refine CallA_v la42_0 rfl rfl ?_
 conv=>whnf
 refine CallA_v (kA1) rfl rfl ?_
 conv=>whnf
 refine CallA_v (kA2) rfl rfl ?_
 conv=>whnf
 refine CallA_v (ds := [i64 13, .bool false]) (la59 13 false) rfl rfl ?_
 conv=>whnf
 refine CallA_v (ds := [i64 18, .bool false]) (la59 18 false) rfl rfl ?_
 conv=>whnf
 refine CallA_fz la42_2 1 [59] rfl rfl ?_
 conv=>whnf
 refine CallA_v (kW) rfl rfl ?_
 conv=>whnf
 refine CallA_v la42_0 rfl rfl ?_
 conv=>whnf
 refine CallA_v (la44) rfl rfl ?_
 conv=>whnf
 refine CallA_v (ds := [i64 0, i64 1]) (la43 0 1) rfl rfl ?_
 conv=>whnf
 refine CallA_v (kF1) rfl rfl ?_
 conv=>whnf
 refine CallA_v la42_0 rfl rfl ?_
 conv=>whnf
 refine CallA_v (la45) rfl rfl ?_
 conv=>whnf
 refine CallA_v (ds := [i64 0, i64 1]) (la43 0 1) rfl rfl ?_
 conv=>whnf
 refine CallA_v (kF2) rfl rfl ?_
 conv=>whnf
 refine CallA_v la42_0 rfl rfl ?_
 conv=>whnf
 refine CallA_v (la44) rfl rfl ?_
 conv=>whnf
 refine CallA_v (kK1) rfl rfl ?_
 conv=>whnf
 refine DrawCall_v la44 rfl rfl ?_
 conv=>whnf
 refine DrawCall_v kK2 rfl rfl ?_
 conv=>whnf
 refine CallA_v la42_0 rfl rfl ?_
 conv=>whnf
 refine CallA_v (la45) rfl rfl ?_
 conv=>whnf
 refine CallA_v (la44) rfl rfl ?_
 conv=>whnf
 refine CallA_fz kWh 1 [96] rfl rfl ?_
 conv=>whnf
 refine CallA_v (la41) rfl rfl ?_
 conv=>whnf
 refine CallA_v (la44) rfl rfl ?_
 conv=>whnf
 refine CallA_v (kL) rfl rfl ?_
 conv=>whnf
 refine CallA_v (la41) rfl rfl ?_
 conv=>whnf
 refine CallA_v (la44) rfl rfl ?_
 conv=>whnf
 refine CallA_v (kWi) rfl rfl ?_
 conv=>whnf
 refine CallA_v (la45) rfl rfl ?_
 conv=>whnf
 refine CallA_v (la45) rfl rfl ?_
 conv=>whnf
 refine CallA_view kT rfl 1 rfl ?_
 conv=>whnf
 refine DrawCall_v (ds := [i64 0, i64 0]) (fn28 0 0) rfl rfl ?_
 conv=>whnf
 refine DrawCall_v (ds := [i64 6, i64 6]) (fn28 6 6) rfl rfl ?_
 conv=>whnf
 refine DrawCall_v (ds := [i64 12, i64 12]) (fn28 12 12) rfl rfl ?_
 conv=>whnf
 refine DrawCall_v (ds := [i64 18, i64 18]) (fn28 18 18) rfl rfl ?_
 conv=>whnf
 refine DrawCall_view (fn45 [⟨0, 0⟩, ⟨6, 6⟩, ⟨12, 12⟩, ⟨18, 18⟩] [⟨0, 0⟩, ⟨6, 6⟩, ⟨12, 12⟩, ⟨18, 18⟩] (by decide)) rfl 1 rfl ?_
 conv=>whnf
 refine DrawCall_v (ds := [i64 1, i64 1]) (fn28 1 1) rfl rfl ?_
 conv=>whnf
 refine DrawCall_v (ds := [i64 2, i64 2]) (fn28 2 2) rfl rfl ?_
 conv=>whnf
 refine DrawCall_view (fn45 [⟨2, 2⟩] [⟨2, 2⟩] (by decide)) rfl 1 rfl ?_
 conv=>whnf
 refine DrawCall_view (fn19 [2] [2] (by decide)) rfl 1 rfl ?_
 conv=>whnf
 refine DrawCall_v (ds := [i64 0, i64 1]) (la43 0 1) rfl rfl ?_
 conv=>whnf
 refine DrawCall_v (la34 ⟨0, [1]⟩ ⟨0, [1]⟩ (by decide)) rfl rfl ?_
 conv=>whnf
 refine DrawCall_view (fn19 [0, 1] [0, 1] (by decide)) rfl 1 rfl ?_
 conv=>whnf
 exact RetA_view 0 rfl ⟨⟨rfl, rfl⟩, rfl⟩
end Go.PX
namespace Go.PX
open Go.Proofs
theorem FnV.arg {P : Program} {f : FuncId} {ds ds' : List D} {res : D} (h : FnV P f ds res) (hr : ∀ (F : Nat → Nat) (w : World) (l : List Value), RepDL F w ds' l → RepDL F w ds l) : FnV P f ds' res :=
 fun {σ} Y st => ⟨(h Y st).enter, fun cx hY L F vals w hh hv => (h Y st).run cx hY L F vals w hh (RepVL.inj.2 (hr _ _ _ (RepVL.inj.1 hv)))⟩
theorem la16n (x : LLamp) : FnV Tryz.prog 4 [.agg (x.cells ++ [.nils, .nils])] (tri (checkL (aloneC x))) :=
 FnV.arg (fun {_} => la16 (aloneC x)) (fun F w vs h => by
  obtain ⟨a, r, rfl, ha, hr⟩ := h
  refine ⟨a, r, rfl, ?_, hr⟩
  have e : relax (.agg (x.cells ++ [.nils, .nils])) = (aloneC x).d := by
   show D.agg (relaxL (x.cells ++ [.nils, .nils])) = _
   simp only [LLamp.cells, List.cons_append, List.nil_append, relaxL, relax, spansD, relaxE_spans]
   rfl
  exact e ▸ RepD.relax _ _ (show RepD F w (.agg (x.cells ++ [.nils, .nils])) a from ha))
theorem tw12 (r : List (List Int) × Int) (k : Nat) (hf : 0 ≤ r.2 ∧ r.2 < r.1.length) (hl : r.1.length ≤ 100000) (hk : k ≤ 100000) : FnV Tryz.prog 12 [rotaD r.1, i64 r.2, i64 k] (intsD (rowAtF r k)) := by
 obtain ⟨rota, frm⟩ := r
 simp only at hf hl
 obtain ⟨f, rfl⟩ : ∃ f : Nat, frm = f := ⟨frm.toNat, by omega⟩
 refine fnV_of mixed tysOk Tryz.func12 rfl (ft := ft12) 3 (by decide +kernel) (by rfl) fun {σ} Y st => ?_
 conv=>whnf
 refine brk_i (fun h1 => ?_) (fun h1 => ?_)
 ·have h1 : k < rota.length := by have := of_decide_eq_true h1; simp at this; omega
  have e : rowAtF (rota, (f : Int)) k = rota[k] := by
   unfold rowAtF
   simp only
   rw [if_pos h1, List.getD_eq_getElem?_getD, List.getElem?_eq_getElem h1]; rfl
  rw [e]
  have hg : rota[k]? = some rota[k] := List.getElem?_eq_getElem h1
  conv=>whnf
  refine elemK_nat hg ?_
  conv=>whnf
  exact RetA_view 0 rfl ⟨⟨rfl, rfl⟩, rfl⟩
 ·have h1 : rota.length ≤ k := by have := of_decide_eq_false h1; simp at this; omega
  have hm : (k - f) % (rota.length - f) < rota.length - f := Nat.mod_lt _ (by omega)
  have e : rowAtF (rota, (f : Int)) k = rota[f + (k - f) % (rota.length - f)] := by
   unfold rowAtF
   simp only [Int.toNat_natCast]
   rw [if_neg (by omega), List.getD_eq_getElem?_getD, List.getElem?_eq_getElem (by omega)]; rfl
  rw [e]
  have hg : rota[f + (k - f) % (rota.length - f)]? = some rota[f + (k - f) % (rota.length - f)] := List.getElem?_eq_getElem (by omega)
  generalize rota[f + (k - f) % (rota.length - f)] = row at hg ⊢
  conv=>whnf
  refine arith_to (((k - f : Nat) : Int)) (by (try dsimp only); omega) (wrap_i64 (by (try dsimp only); omega)) ?_
  conv=>whnf
  refine arith_to ((rota.length - f : Nat) : Int) (by simp only [List.length_map]; omega) (wrap_i64 (by omega)) ?_
  conv=>whnf
  refine chk_i (decide_eq_true (by omega)) ?_
  conv=>whnf
  have hte : (((k - f : Nat) : Int).tmod ((rota.length - f : Nat) : Int)) = (((k - f) % (rota.length - f) : Nat) : Int) := by
   rw [Int.tmod_eq_emod_of_nonneg (by omega)]; omega
  refine arith_to ((f + (k - f) % (rota.length - f) : Nat) : Int) (by rw [hte]; simp only; omega) (wrap_i64 (by omega)) ?_
  conv=>whnf
  refine elemK_nat hg ?_
  conv=>whnf
  exact RetA_view 0 rfl ⟨⟨rfl, rfl⟩, rfl⟩
set_option maxHeartbeats 2000000 in
theorem tw3 (x : LLamp) (c : WCase) (l : LLight) (b : Int) (hb : 0 ≤ b ∧ b ≤ 255) : FnV Tryz.prog 3 [x.d, c.d, .agg (l.cells ++ [.int .u8 b])] (.bool true) := by
 refine fnV_of mixed tysOk Tryz.func3 rfl (ft := ft3) 3 (by decide +kernel) (by rfl) fun {σ} Y st => ?_
 conv=>whnf
 refine CallA_v (la16n x) rfl rfl ?_
 conv=>whnf
 refine CallA_view (ds := [lightsD [l]]) (la18 [l]) rfl 1 rfl ?_
 conv=>whnf
 refine CallA_v (wa16 c) rfl rfl ?_
 conv=>whnf
 refine brk_i (fun h1 => ?_) (fun h1 => ?_)
 ·conv=>whnf
  refine CallA_v (la22) rfl rfl ?_
  conv=>whnf
  refine CallA_v (wa27) rfl rfl ?_
  conv=>whnf
  exact RetA_view 0 rfl ⟨⟨rfl, rfl⟩, rfl⟩
 have hx0 : (checkL (aloneC x)).2.2 = 0 := by simpa using h1
 conv=>whnf
 refine brk_i (fun h1 => ?_) (fun h1 => ?_)
 ·conv=>whnf
  refine CallA_v (la22) rfl rfl ?_
  conv=>whnf
  refine CallA_v (wa27) rfl rfl ?_
  conv=>whnf
  exact RetA_view 0 rfl ⟨⟨rfl, rfl⟩, rfl⟩
 have hl0 : (lightsF [l]).2 = 0 := by simpa using h1
 conv=>whnf
 refine brk_i (fun h1 => ?_) (fun h1 => ?_)
 ·conv=>whnf
  refine CallA_v (la22) rfl rfl ?_
  conv=>whnf
  refine CallA_v (wa27) rfl rfl ?_
  conv=>whnf
  exact RetA_view 0 rfl ⟨⟨rfl, rfl⟩, rfl⟩
 have hc0 : (checkW c).2.2 = 0 := by simpa using h1
 have h0 : longE x l = 0 := by unfold longE entrE; rw [if_pos hx0]; exact hl0
 have hE : entE c [] = 0 := by
  unfold entE
  rw [if_pos hc0]; rfl
 obtain ⟨hR, hl⟩ := long_ok h0
 have hn := hR.night
 have hV : longV x l = longF x l.phases := by unfold longV; rw [if_pos h0]
 have hW : windV x l = windL ((x.night - 1).tdiv (longV x l)).toNat (longV x l) := by unfold windV; rw [if_pos h0]
 have hr := longF_rng (ps := l.phases) hR
 rw [← hV] at hr
 conv=>whnf
 refine CallA_v (la37 x l) rfl rfl ?_
 conv=>whnf
 rw [h0]
 refine CallA_v (la39 x l) rfl rfl ?_
 conv=>whnf
 rw [h0]
 generalize longV x l = n at hr hW ⊢
 have hq : (x.night - 1).tdiv n = (x.night - 1) / n := Int.tdiv_eq_ediv_of_nonneg (by omega)
 obtain ⟨k, hk⟩ : ∃ k : Nat, (x.night - 1) / n = k := ⟨((x.night - 1) / n).toNat, by have := Int.ediv_nonneg (a := x.night - 1) (b := n) (by omega) (by omega); omega⟩
 have hdm := Int.mul_ediv_add_emod (x.night - 1) n
 have hm1 := Int.emod_nonneg (x.night - 1) (b := n) (by omega)
 have hm2 := Int.emod_lt_of_pos (x.night - 1) (b := n) (by omega)
 rw [hk] at hdm
 have hkn : (k : Int) * n ≤ x.night - 1 ∧ x.night - 1 < (k : Int) * n + n := by rw [Int.mul_comm]; omega
 have hk200 : k ≤ 200 := by
  have h1 : (k : Int) * 1 ≤ (k : Int) * n := Int.mul_le_mul_of_nonneg_left (by omega) (by omega)
  omega
 rw [hq, hk, Int.toNat_natCast] at hW
 have hlen : (windV x l).length = k := by rw [hW, windL_len]
 have hwb : ∀ v ∈ windV x l, 0 ≤ v ∧ v ≤ 200 := by
  intro v hv
  rw [hW] at hv
  obtain ⟨i, hi, rfl⟩ := List.mem_map.1 hv
  have hik := List.mem_range.1 hi
  have a1 : 0 ≤ ((i : Int) + 1) * n := Int.mul_nonneg (by omega) (by omega)
  have a2 : ((i : Int) + 1) * n ≤ (k : Int) * n := Int.mul_le_mul_of_nonneg_right (by omega) (by omega)
  omega
 generalize windV x l = w at hW hlen hwb ⊢
 conv=>whnf
 refine CallA_v (wa30 c) rfl rfl ?_
 conv=>whnf
 have hk0 := fun ha => endlW_ok (wR hc0) ha
 have hev := fun ha m hm => ever_can hc0 ha m hm
 have hcm := can_len (wR hc0)
 rw [hE]
 simp only [if_true, true_and]
 generalize endlW c = r at hk0 hev ⊢
 generalize hEB : endB c (allMen c) .zero = ev at hk0 hev ⊢
 conv=>whnf
 refine LoopA_p (T := tys) tysOk (by exact drawsB_spec mixed tysOk (by decide +kernel)) (α := Nat) (fun i => ⟨[(3, .ptr 3 0), (4, .ptr 4 0), (5, .ptr 5 0), (6, .d (.bool false)), (14, .d (i64 (if ev = true then 0 else 9))), (15, .d (i64 n)), (16, .d (intsD w)), (17, .d (if ev = true then rotaD r.1 else .nils)), (18, .d (i64 (if ev = true then r.2 else 0))), (19, .d (i64 (if i = k + 1 then x.night else (i : Int) * n))), (20, .d (i64 i))], [(3, .box (.dd x.cells)), (4, .box (.dd c.cells)), (5, .box (.dd (l.cells ++ [.int .u8 b])))], st⟩)
  (fun i => i ≤ k + 1) (fun i => k + 1 - i) 0 (by
   rw [if_neg (show ¬ 0 = k + 1 by omega)]
   exact Wk.sub ⟨rfl, rfl, rfl, rfl, rfl, rfl, rfl, rfl, rfl, by simp [PX.get], rfl, trivial⟩ ⟨rfl, rfl, rfl, trivial⟩) (Nat.zero_le _) ?_
 intro i hi
 conv=>whnf
 refine brk_i (fun h1 => ?_) (fun h1 => ?_)
 ·have h1 : i ≤ k := by have := of_decide_eq_true h1; simp [hlen] at this; omega
  rw [if_neg (show ¬ i = k + 1 by omega)]
  have him : (i : Int) * n ≤ (k : Int) * n := Int.mul_le_mul_of_nonneg_right (by omega) (by omega)
  have hi0 : 0 ≤ (i : Int) * n := Int.mul_nonneg (by omega) (by omega)
  have hsucc : ((i : Int) + 1) * n = (i : Int) * n + n := by rw [Int.add_mul, Int.one_mul]
  conv=>whnf
  refine brk_i (fun h2 => ?_) (fun h2 => ?_)
  ·have h2 : i < k := by have := of_decide_eq_true h2; simpa [hlen] using this
   have hwi : w[i]? = some (((i : Int) + 1) * n) := by rw [hW]; unfold windL; simp [h2]
   have him2 : ((i : Int) + 1) * n ≤ (k : Int) * n := Int.mul_le_mul_of_nonneg_right (by omega) (by omega)
   conv=>whnf
   refine elemK_nat hwi ?_
   conv=>whnf
   refine brk_i (fun h => absurd (of_decide_eq_true h) (by omega)) (fun _ => ?_)
   conv=>whnf
   refine arith_in (wrap_i64 (by (try dsimp only); omega)) ?_
   conv=>whnf
   refine brk_i (fun h => absurd (of_decide_eq_true h) (by omega)) (fun _ => ?_)
   conv=>whnf
   refine arith_in (wrap_i64 (by (try dsimp only); omega)) ?_
   conv=>whnf
   refine ⟨i + 1, by omega, by omega, Wk.sub ⟨rfl, rfl, rfl, rfl, rfl, rfl, rfl, rfl, rfl, ?_, rfl, trivial⟩ ⟨rfl, rfl, rfl, trivial⟩⟩
   show some (V.d (i64 (((i : Int) + 1) * n))) = some (V.d (i64 (if i + 1 = k + 1 then x.night else ((i + 1 : Nat) : Int) * n)))
   rw [if_neg (by omega)]; simp
  ·have h2 : i = k := by have := of_decide_eq_false h2; simp only [List.length_map, hlen] at this; omega
   have hik : (i : Int) * n = (k : Int) * n := by rw [h2]
   conv=>whnf
   refine brk_i (fun h => absurd (of_decide_eq_true h) (by omega)) (fun _ => ?_)
   conv=>whnf
   refine arith_in (wrap_i64 (by (try dsimp only); omega)) ?_
   conv=>whnf
   refine brk_i (fun h => absurd (of_decide_eq_true h) (by omega)) (fun _ => ?_)
   conv=>whnf
   refine arith_in (wrap_i64 (by (try dsimp only); omega)) ?_
   conv=>whnf
   refine ⟨i + 1, by omega, by omega, Wk.sub ⟨rfl, rfl, rfl, rfl, rfl, rfl, rfl, rfl, rfl, ?_, rfl, trivial⟩ ⟨rfl, rfl, rfl, trivial⟩⟩
   show some (V.d (i64 (x.night))) = some (V.d (i64 (if i + 1 = k + 1 then x.night else ((i + 1 : Nat) : Int) * n)))
   rw [if_pos (by omega)]
 ·have h1 : i = k + 1 := by have := of_decide_eq_false h1; simp [hlen] at this; omega
  subst h1
  cases ev with
  | false =>
   conv=>whnf
   refine CallA_v (la22) rfl rfl ?_
   conv=>whnf
   refine CallA_v (wa27) rfl rfl ?_
   conv=>whnf
   exact RetA_view 0 rfl ⟨⟨rfl, rfl⟩, rfl⟩
  | true =>
   have hk := hk0 rfl
   have hf := hk.frm
   have hfl : r.1.length ≤ 46656 := hk.len
   have hev := hev rfl
   conv=>whnf
   refine brk_i (fun h => absurd h (by simp; omega)) (fun _ => ?_)
   conv=>whnf
   refine brk_i (fun h => absurd h (by simp; omega)) (fun _ => ?_)
   conv=>whnf
   have hb60 : 0 ≤ b.tmod 60 ∧ b.tmod 60 < 60 := ⟨Int.tmod_nonneg _ hb.1, Int.tmod_lt_of_pos _ (by omega)⟩
   refine arith_in (wrap_i64 (by (try dsimp only); omega)) ?_
   conv=>whnf
   obtain ⟨L, hL⟩ : ∃ L, 1 + b.tmod 60 = L := ⟨_, rfl⟩
   refine arith_to L hL (wrap_i64 (by omega)) ?_
   conv=>whnf
   have hL1 : 1 ≤ L ∧ L ≤ 60 := by omega
   clear hL hb60
   refine LoopA_i (T := tys) tysOk (by exact drawsB_spec mixed tysOk (by decide +kernel)) w (fun i (_ : Unit) => ⟨[(4, .ptr 4 0), (6, .d (.bool false)), (16, .d (intsD w)), (17, .d (rotaD r.1)), (18, .d (i64 r.2)), (22, .d (i64 L)), (23, .d (i64 i))], [(4, .box (.dd c.cells))], st⟩) (fun i _ _ => True) () (Wk.sub ⟨(by first | rfl | (simp only [List.length_map]; rfl) | simp [PX.get]), (by first | rfl | (simp only [List.length_map]; rfl) | simp [PX.get]), (by first | rfl | (simp only [List.length_map]; rfl) | simp [PX.get]), (by first | rfl | (simp only [List.length_map]; rfl) | simp [PX.get]), (by first | rfl | (simp only [List.length_map]; rfl) | simp [PX.get]), (by first | rfl | (simp only [List.length_map]; rfl) | simp [PX.get]), (by first | rfl | (simp only [List.length_map]; rfl) | simp [PX.get]), trivial⟩ ⟨(by first | rfl | (simp only [List.length_map]; rfl) | simp [PX.get]), trivial⟩) trivial ?_ ?_
   ·rintro i v rest _ hv hlt hrl _
    have hvb := hwb v (List.mem_of_getElem? hv)
    have hwl : w.length ≤ 200 := by omega
    have hq1 : v.tdiv L = v / L := Int.tdiv_eq_ediv_of_nonneg hvb.1
    have hq2 := Int.ediv_nonneg (a := v) (b := L) hvb.1 (by omega)
    have hq3 := Int.ediv_le_self (a := v) L hvb.1
    obtain ⟨m, hm⟩ : ∃ m : Nat, v / L = m := ⟨(v / L).toNat, by omega⟩
    conv=>whnf
    refine brk_i (fun _ => ?_) (fun h => absurd hlt (by have := of_decide_eq_false h; simp at this; omega))
    conv=>whnf
    refine elemK_nat hv ?_
    conv=>whnf
    refine chk_i (decide_eq_true (by omega)) ?_
    conv=>whnf
    refine arith_to (m : Int) (by rw [hq1, hm]) (wrap_i64 (by omega)) ?_
    conv=>whnf
    refine brk_i (fun h1 => ?_) (fun h1 => ?_)
    ·conv=>whnf
     refine arith_in (wrap_i64 (by (try dsimp only); omega)) ?_
     conv=>whnf
     exact ⟨(), trivial, (Wk.sub ⟨(by first | rfl | (simp only [List.length_map]; rfl) | simp [PX.get]), (by first | rfl | (simp only [List.length_map]; rfl) | simp [PX.get]), (by first | rfl | (simp only [List.length_map]; rfl) | simp [PX.get]), (by first | rfl | (simp only [List.length_map]; rfl) | simp [PX.get]), (by first | rfl | (simp only [List.length_map]; rfl) | simp [PX.get]), (by first | rfl | (simp only [List.length_map]; rfl) | simp [PX.get]), (by first | rfl | (simp only [List.length_map]; rfl) | simp [PX.get]), trivial⟩ ⟨(by first | rfl | (simp only [List.length_map]; rfl) | simp [PX.get]), trivial⟩)⟩
    have hm40 : m ≤ 40 := by have := of_decide_eq_false h1; omega
    obtain ⟨g1, g2⟩ := hev m hm40
    obtain ⟨n1, n2⟩ := hcm (beforeF r m)
    conv=>whnf
    refine LoopA_i (T := tys) tysOk (by exact drawsB_spec mixed tysOk (by decide +kernel)) (List.range m) (fun j (acc : List (List Int)) => ⟨[(4, .ptr 4 0), (6, .d (.bool false)), (16, .d (intsD w)), (17, .d (rotaD r.1)), (18, .d (i64 r.2)), (22, .d (i64 L)), (23, .d (i64 i)), (24, .d (i64 m)), (25, .sl 179 1 0 acc.length), (26, .d (i64 j))], [(4, .box (.dd c.cells)), (179, .arr 1 (.dd (acc.map fun r => [intsD r])))], st⟩)
     (fun j q acc => acc.length ≤ j ∧ beforeF r m = acc ++ q.map (rowAtF r)) [] ((Wk.born 25 179 1 rfl rfl rfl).trans (Wk.sub ⟨(by first | rfl | (simp only [List.length_map]; rfl) | simp [PX.get]), (by first | rfl | (simp only [List.length_map]; rfl) | simp [PX.get]), (by first | rfl | (simp only [List.length_map]; rfl) | simp [PX.get]), (by first | rfl | (simp only [List.length_map]; rfl) | simp [PX.get]), (by first | rfl | (simp only [List.length_map]; rfl) | simp [PX.get]), (by first | rfl | (simp only [List.length_map]; rfl) | simp [PX.get]), (by first | rfl | (simp only [List.length_map]; rfl) | simp [PX.get]), (by first | rfl | (simp only [List.length_map]; rfl) | simp [PX.get]), (by first | rfl | (simp only [List.length_map]; rfl) | simp [PX.get]), (by first | rfl | (simp only [List.length_map]; rfl) | simp [PX.get]), trivial⟩ ⟨(by first | rfl | (simp only [List.length_map]; rfl) | simp [PX.get]), (by first | rfl | (simp only [List.length_map]; rfl) | simp [PX.get]), trivial⟩)) ⟨by simp, rfl⟩ ?_ ?_
    ·rintro j y q acc hy hj hq ⟨hal, he⟩
     have hxj : j = y := by
      rw [List.getElem?_range (by simpa using hj)] at hy
      exact Option.some.inj hy
     subst hxj
     have hjm : j < m := by simpa using hj
     rw [List.map_cons] at he
     conv=>whnf
     refine brk_i (fun _ => ?_) (fun h => absurd hjm (by have := of_decide_eq_false h; omega))
     conv=>whnf
     refine CallA_v (ds := [rotaD r.1, i64 r.2, i64 j]) (tw12 r j (by omega) (by omega) (by omega)) rfl rfl ?_
     conv=>whnf
     refine ownK_whole rfl ?_
     conv=>whnf
     refine ownK_whole (by simp [Els.len]) ?_
     conv=>whnf
     refine chk_i (decide_eq_true (by
      show ((acc.map fun r => [intsD r]).length + 1) * 24 ≤ 140737488355328
      rw [List.length_map]; omega)) ?_
     conv=>whnf
     refine arith_in (wrap_i64 (by (try dsimp only); omega)) ?_
     conv=>whnf
     refine ⟨acc ++ [rowAtF r j], ⟨by simp; omega, by rw [he]; simp⟩, Wk.sub ⟨rfl, rfl, rfl, rfl, rfl, rfl, rfl, rfl, ?_, rfl, trivial⟩ ⟨rfl, ?_, trivial⟩⟩
     ·show some (V.sl 179 1 0 ((acc.map fun r => [intsD r]).length + 1)) = _
      simp
     ·show some (Obj.arr 1 (Els.dd ((acc.map fun r => [intsD r]) ++ [[intsD (rowAtF r j)]]))) = _
      simp
    ·rintro acc ⟨_, he⟩
     have he : beforeF r m = acc := by simpa using he
     rw [he] at g1 g2 n1 n2
     conv=>whnf
     refine brk_i (fun h => absurd h (by simp)) (fun _ => ?_)
     conv=>whnf
     refine CallA_fz (ds := [c.d, rotaD acc]) (wa22 c acc) 1 [179] (viewL_cons rfl (viewL_cons (viewV_sl rfl (by simp)) rfl)) rfl ?_
     rw [g1]
     generalize canL c acc = can at g2 n1 n2 ⊢
     have hrn : rotaN can = rotaD can := by
      cases can with
      | nil => cases g2
      | cons a q => rfl
     rw [if_pos rfl, hrn]
     have hany : can.any (fun g => decide (g = rowAtF r m)) = true := List.any_eq_true.2 ⟨_, g2, decide_eq_true rfl⟩
     conv=>whnf
     refine LoopA_i (T := tys) tysOk (by exact drawsB_spec mixed tysOk (by decide +kernel)) can (fun j (bl : Bool) => ⟨[(4, .ptr 4 0), (6, .d (.bool false)), (16, .d (intsD w)), (17, .d (rotaD r.1)), (18, .d (i64 r.2)), (22, .d (i64 L)), (23, .d (i64 i)), (24, .d (i64 m)), (27, .d (rotaD can)), (28, .d (i64 0)), (29, .d (.bool bl)), (30, .d (i64 j))], [(4, .box (.dd c.cells))], st⟩)
      (fun j q bl => can.any (fun g => decide (g = rowAtF r m)) = (bl || q.any fun g => decide (g = rowAtF r m))) false (Wk.sub ⟨(by first | rfl | (simp only [List.length_map]; rfl) | simp [PX.get]), (by first | rfl | (simp only [List.length_map]; rfl) | simp [PX.get]), (by first | rfl | (simp only [List.length_map]; rfl) | simp [PX.get]), (by first | rfl | (simp only [List.length_map]; rfl) | simp [PX.get]), (by first | rfl | (simp only [List.length_map]; rfl) | simp [PX.get]), (by first | rfl | (simp only [List.length_map]; rfl) | simp [PX.get]), (by first | rfl | (simp only [List.length_map]; rfl) | simp [PX.get]), (by first | rfl | (simp only [List.length_map]; rfl) | simp [PX.get]), (by first | rfl | (simp only [List.length_map]; rfl) | simp [PX.get]), (by first | rfl | (simp only [List.length_map]; rfl) | simp [PX.get]), (by first | rfl | (simp only [List.length_map]; rfl) | simp [PX.get]), (by first | rfl | (simp only [List.length_map]; rfl) | simp [PX.get]), trivial⟩ ⟨(by first | rfl | (simp only [List.length_map]; rfl) | simp [PX.get]), trivial⟩) (by simp) ?_ ?_
     ·rintro j g q bl hg hj hq hb
      have hgl := n2 g (List.mem_of_getElem? hg)
      rw [List.any_cons] at hb
      conv=>whnf
      refine brk_i (fun _ => ?_) (fun h => absurd hj (by have := of_decide_eq_false h; simp at this; omega))
      conv=>whnf
      cases bl with
      | true =>
       conv=>whnf
       refine arith_in (wrap_i64 (by (try dsimp only); omega)) ?_
       conv=>whnf
       exact ⟨true, by rw [hb]; simp, (Wk.sub ⟨(by first | rfl | (simp only [List.length_map]; rfl) | simp [PX.get]), (by first | rfl | (simp only [List.length_map]; rfl) | simp [PX.get]), (by first | rfl | (simp only [List.length_map]; rfl) | simp [PX.get]), (by first | rfl | (simp only [List.length_map]; rfl) | simp [PX.get]), (by first | rfl | (simp only [List.length_map]; rfl) | simp [PX.get]), (by first | rfl | (simp only [List.length_map]; rfl) | simp [PX.get]), (by first | rfl | (simp only [List.length_map]; rfl) | simp [PX.get]), (by first | rfl | (simp only [List.length_map]; rfl) | simp [PX.get]), (by first | rfl | (simp only [List.length_map]; rfl) | simp [PX.get]), (by first | rfl | (simp only [List.length_map]; rfl) | simp [PX.get]), (by first | rfl | (simp only [List.length_map]; rfl) | simp [PX.get]), (by first | rfl | (simp only [List.length_map]; rfl) | simp [PX.get]), trivial⟩ ⟨(by first | rfl | (simp only [List.length_map]; rfl) | simp [PX.get]), trivial⟩)⟩
      | false =>
       conv=>whnf
       refine elemK_nat hg ?_
       conv=>whnf
       refine DrawCall_v (ds := [rotaD r.1, i64 r.2, i64 m]) (tw12 r m (by omega) (by omega) (by omega)) rfl rfl ?_
       conv=>whnf
       refine DrawCall_v (ds := [intsD g, intsD (rowAtF r m)]) (fn19 g (rowAtF r m) (by omega)) rfl rfl ?_
       conv=>whnf
       refine arith_in (wrap_i64 (by (try dsimp only); omega)) ?_
       conv=>whnf
       exact ⟨decide (g = rowAtF r m), by rw [hb]; simp, (Wk.sub ⟨(by first | rfl | (simp only [List.length_map]; rfl) | simp [PX.get]), (by first | rfl | (simp only [List.length_map]; rfl) | simp [PX.get]), (by first | rfl | (simp only [List.length_map]; rfl) | simp [PX.get]), (by first | rfl | (simp only [List.length_map]; rfl) | simp [PX.get]), (by first | rfl | (simp only [List.length_map]; rfl) | simp [PX.get]), (by first | rfl | (simp only [List.length_map]; rfl) | simp [PX.get]), (by first | rfl | (simp only [List.length_map]; rfl) | simp [PX.get]), (by first | rfl | (simp only [List.length_map]; rfl) | simp [PX.get]), (by first | rfl | (simp only [List.length_map]; rfl) | simp [PX.get]), (by first | rfl | (simp only [List.length_map]; rfl) | simp [PX.get]), (by first | rfl | (simp only [List.length_map]; rfl) | simp [PX.get]), (by first | rfl | (simp only [List.length_map]; rfl) | simp [PX.get]), trivial⟩ ⟨(by first | rfl | (simp only [List.length_map]; rfl) | simp [PX.get]), trivial⟩)⟩
     ·rintro bl hb
      have hb : bl = true := by rw [hany] at hb; simpa using hb.symm
      subst hb
      conv=>whnf
      refine brk_i (fun h => absurd h (by simp)) (fun _ => ?_)
      conv=>whnf
      refine arith_in (wrap_i64 (by (try dsimp only); omega)) ?_
      conv=>whnf
      exact ⟨(), trivial, (Wk.sub ⟨(by first | rfl | (simp only [List.length_map]; rfl) | simp [PX.get]), (by first | rfl | (simp only [List.length_map]; rfl) | simp [PX.get]), (by first | rfl | (simp only [List.length_map]; rfl) | simp [PX.get]), (by first | rfl | (simp only [List.length_map]; rfl) | simp [PX.get]), (by first | rfl | (simp only [List.length_map]; rfl) | simp [PX.get]), (by first | rfl | (simp only [List.length_map]; rfl) | simp [PX.get]), (by first | rfl | (simp only [List.length_map]; rfl) | simp [PX.get]), trivial⟩ ⟨(by first | rfl | (simp only [List.length_map]; rfl) | simp [PX.get]), trivial⟩)⟩
   ·rintro _ _
    conv=>whnf
    refine brk_i (fun h => absurd h (by simp)) (fun _ => ?_)
    conv=>whnf
    refine CallA_v (la22) rfl rfl ?_
    conv=>whnf
    refine CallA_v (wa27) rfl rfl ?_
    conv=>whnf
    exact RetA_view 0 rfl ⟨⟨rfl, rfl⟩, rfl⟩
end Go.PX
namespace Go.PX
open Go.Proofs Go.RowKit Go.ChangeShapes
theorem c3 : Tryz.prog.cellsOf 3 = 1 := by kernel_rfl
theorem c5 : Tryz.prog.cellsOf 5 = 1 := by kernel_rfl
theorem c9 : Tryz.prog.cellsOf 9 = 1 := by kernel_rfl
theorem c22 : Tryz.prog.cellsOf 22 = 1 := by kernel_rfl
theorem c24 : Tryz.prog.cellsOf 24 = 2 := by kernel_rfl
theorem c26 : Tryz.prog.cellsOf 26 = 8 := by kernel_rfl
theorem c27 : Tryz.prog.cellsOf 27 = 1 := by kernel_rfl
theorem c28 : Tryz.prog.cellsOf 28 = 1 := by kernel_rfl
theorem c30 : Tryz.prog.cellsOf 30 = 4 := by kernel_rfl
theorem c31 : Tryz.prog.cellsOf 31 = 1 := by kernel_rfl
theorem c33 : Tryz.prog.cellsOf 33 = 2 := by kernel_rfl
theorem c35 : Tryz.prog.cellsOf 35 = 3 := by kernel_rfl
theorem c39 : Tryz.prog.cellsOf 39 = 1 := by kernel_rfl
theorem c67 : Tryz.prog.cellsOf 67 = 2 := by kernel_rfl
theorem c69 : Tryz.prog.cellsOf 69 = 3 := by kernel_rfl
theorem c133 : Tryz.prog.cellsOf 133 = 4 := by kernel_rfl
theorem byteIn {n : Int} (h : (Lit.int .u8 n).wf = true) : 0 ≤ n ∧ n ≤ 255 := by
 simp only [Lit.wf, Bool.and_eq_true, decide_eq_true_eq] at h
 exact h
theorem Rd.intw {P : Program} {W : World} {t : TypeId} {k : IntKind} (ht : P.underlying t = some (.int k)) : Rd P W t fun ds => ∃ n, ds = [.int k n] ∧ (Lit.int k n).wf = true := by
 refine ⟨?_⟩
 intro H enc sp held fuel cs x h
 obtain ⟨n, rfl, _, hw⟩ := DataW.trod_int ht h
 exact ⟨[.int k n], ⟨n, rfl, hw⟩, _, [], rfl, rfl, rfl⟩
section
variable (W : World)
theorem rdInt : Rd Tryz.prog W 3 fun ds => ∃ n, ds = [i64 n] := Rd.int Tryz.underlying3
theorem rdStr : Rd Tryz.prog W 9 fun ds => ∃ s, ds = [.str s] := Rd.str Tryz.underlying9
theorem rdByte : Rd Tryz.prog W 5 fun ds => ∃ n, ds = [.int .u8 n] ∧ 0 ≤ n ∧ n ≤ 255 := (Rd.intw Tryz.underlying5).mono fun ds ⟨n, h, w⟩ => ⟨n, h, byteIn w⟩
theorem rdInts : Rd Tryz.prog W 39 fun ds => ∃ l : List Int, ds = [intsD l] :=
 (Rd.slice Tryz.underlying39 c3 (by omega) (rdInt W)).mono fun ds h => by
  obtain ⟨es, rfl, he⟩ := h
  obtain ⟨l, rfl⟩ := list_of (f := fun n => [i64 n]) (fun _ h => h) he
  exact ⟨l, rfl⟩
theorem rdSpan : Rd Tryz.prog W 24 fun ds => ∃ s : Span, ds = s.cells :=
 (Rd.struct Tryz.underlying24 c24 (.cons rfl c3 (rdInt W) (.cons rfl c3 (rdInt W) (.nil _)))).mono fun ds h => by
  obtain ⟨_, _, rfl, ⟨a, rfl⟩, _, _, rfl, ⟨b, rfl⟩, rfl⟩ := h
  exact ⟨⟨a, b⟩, rfl⟩
theorem rdSpans : Rd Tryz.prog W 22 fun ds => ∃ l : List Span, ds = [spansD l] :=
 (Rd.slice Tryz.underlying22 c24 (by omega) (rdSpan W)).mono fun ds h => by
  obtain ⟨es, rfl, he⟩ := h
  obtain ⟨l, rfl⟩ := list_of (f := Span.cells) (fun _ h => h) he
  exact ⟨l, rfl⟩
theorem rdLamp : Rd Tryz.prog W 26 fun ds => ∃ x : LLamp, ds = x.cells :=
 (Rd.struct Tryz.underlying26 c26 (.cons rfl c3 (rdInt W) (.cons rfl c22 (rdSpans W) (.cons rfl c24 (rdSpan W) (.cons rfl c24 (rdSpan W) (.cons rfl c3 (rdInt W) (.cons rfl c3 (rdInt W) (.nil _)))))))).mono fun ds h => by
  obtain ⟨_, _, rfl, ⟨a, rfl⟩, _, _, rfl, ⟨b, rfl⟩, _, _, rfl, ⟨c, rfl⟩, _, _, rfl, ⟨d, rfl⟩, _, _, rfl, ⟨e, rfl⟩, _, _, rfl, ⟨f, rfl⟩, rfl⟩ := h
  exact ⟨⟨a, b, c, d, e, f⟩, rfl⟩
theorem rdPhase : Rd Tryz.prog W 133 fun ds => ∃ s : LPhase, ds = s.cells :=
 (Rd.struct Tryz.underlying133 c133 (.cons rfl c24 (rdSpan W) (.cons rfl c24 (rdSpan W) (.nil _)))).mono fun ds h => by
  obtain ⟨_, _, rfl, ⟨a, rfl⟩, _, _, rfl, ⟨b, rfl⟩, rfl⟩ := h
  exact ⟨⟨a, b⟩, rfl⟩
theorem rdPhases : Rd Tryz.prog W 31 fun ds => ∃ l : List LPhase, ds = [phasesD l] :=
 (Rd.slice Tryz.underlying31 c133 (by omega) (rdPhase W)).mono fun ds h => by
  obtain ⟨es, rfl, he⟩ := h
  obtain ⟨l, rfl⟩ := list_of (f := LPhase.cells) (fun _ h => h) he
  exact ⟨l, rfl⟩
theorem rdLight : Rd Tryz.prog W 33 fun ds => ∃ x : LLight, ds = x.cells :=
 (Rd.struct Tryz.underlying33 c33 (.cons rfl c9 (rdStr W) (.cons rfl c31 (rdPhases W) (.nil _)))).mono fun ds h => by
  obtain ⟨_, _, rfl, ⟨a, rfl⟩, _, _, rfl, ⟨b, rfl⟩, rfl⟩ := h
  exact ⟨⟨a, b⟩, rfl⟩
theorem rdWound : Rd Tryz.prog W 35 fun ds => ∃ (x : LLight) (b : Int), ds = x.cells ++ [.int .u8 b] ∧ (0 ≤ b ∧ b ≤ 255) :=
 (Rd.struct Tryz.underlying35 c35 (.cons rfl c33 (rdLight W) (.cons rfl c5 (rdByte W) (.nil _)))).mono fun ds h => by
  obtain ⟨_, _, rfl, ⟨a, rfl⟩, _, _, rfl, ⟨b, rfl, hb⟩, rfl⟩ := h
  exact ⟨a, b, rfl, hb⟩
theorem rdMan : Rd Tryz.prog W 69 fun ds => ∃ m : Man, ds = m.cells :=
 (Rd.struct Tryz.underlying69 c69 (.cons rfl c9 (rdStr W) (.cons rfl c3 (rdInt W) (.cons rfl c39 (rdInts W) (.nil _))))).mono fun ds h => by
  obtain ⟨_, _, rfl, ⟨a, rfl⟩, _, _, rfl, ⟨b, rfl⟩, _, _, rfl, ⟨c, rfl⟩, rfl⟩ := h
  exact ⟨⟨a, b, c⟩, rfl⟩
theorem rdSlot : Rd Tryz.prog W 67 fun ds => ∃ s : Slot, ds = s.cells :=
 (Rd.struct Tryz.underlying67 c67 (.cons rfl c3 (rdInt W) (.cons rfl c3 (rdInt W) (.nil _)))).mono fun ds h => by
  obtain ⟨_, _, rfl, ⟨a, rfl⟩, _, _, rfl, ⟨b, rfl⟩, rfl⟩ := h
  exact ⟨⟨a, b⟩, rfl⟩
theorem rdMen : Rd Tryz.prog W 27 fun ds => ∃ l : List Man, ds = [mansD l] :=
 (Rd.slice Tryz.underlying27 c69 (by omega) (rdMan W)).mono fun ds h => by
  obtain ⟨es, rfl, he⟩ := h
  obtain ⟨l, rfl⟩ := list_of (f := Man.cells) (fun _ h => h) he
  exact ⟨l, rfl⟩
theorem rdSlots : Rd Tryz.prog W 28 fun ds => ∃ l : List Slot, ds = [slotsD l] :=
 (Rd.slice Tryz.underlying28 c67 (by omega) (rdSlot W)).mono fun ds h => by
  obtain ⟨es, rfl, he⟩ := h
  obtain ⟨l, rfl⟩ := list_of (f := Slot.cells) (fun _ h => h) he
  exact ⟨l, rfl⟩
theorem rdCase : Rd Tryz.prog W 30 fun ds => ∃ c : WCase, ds = c.cells :=
 (Rd.struct Tryz.underlying30 c30 (.cons rfl c27 (rdMen W) (.cons rfl c28 (rdSlots W) (.cons rfl c3 (rdInt W) (.cons rfl c3 (rdInt W) (.nil _)))))).mono fun ds h => by
  obtain ⟨_, _, rfl, ⟨a, rfl⟩, _, _, rfl, ⟨b, rfl⟩, _, _, rfl, ⟨c, rfl⟩, _, _, rfl, ⟨d, rfl⟩, rfl⟩ := h
  exact ⟨⟨a, b, c, d⟩, rfl⟩
end
end Go.PX
