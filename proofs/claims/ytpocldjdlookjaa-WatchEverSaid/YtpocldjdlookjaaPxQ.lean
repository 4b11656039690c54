import Derived.Test.YtpocldjdlookjaaPxP
import Derived.Test.YtpocldjdlookjaaPxM
import Derived.Test.YtpocldjdlookjaaPxN
set_option linter.all false
set_option maxRecDepth 10000
namespace Go.PX
open Go.Proofs
theorem zero_tok : TOk Tired.zero := by constructor <;> simp [Tired.zero]
theorem wa75_a (c : WCase) (hR : WR c) (men : List Int) (hmen : men.length ≤ 5) (hs : ∃ set, SameSet c men set) : FnV Try.prog 75 [c.d, intsD men] (webD c men) := by
 refine fnV_of mixed tysOk Try.func75 rfl (ft := ft75) 2 (by decide +kernel) (by rfl) fun {σ} Y st => ?_
 conv=>whnf
 obtain ⟨WB, hWB⟩ : ∃ WB, webW0 c men = WB := ⟨_, rfl⟩
 have hWD : webD c men = webDW WB.1 WB.2 := by rw [← hWB]; rfl
 unfold webW0 at hWB
 obtain ⟨set, hset⟩ := hs
 have h98 : FnV Try.prog 98 [Tired.zero.d] (i64 (codT .zero)) := fun {σ} => wa98 .zero zero_tok
 obtain ⟨k0, hk0, hk1⟩ : ∃ k0 : Nat, codT .zero = k0 ∧ codN .zero = k0 := ⟨codN .zero, by have := codT_bd hR (InU.zero hR); unfold codN; omega, rfl⟩
 have hklt : k0 < 196608 := by have := codT_bd hR (InU.zero hR); omega
 rw [hk0] at h98
 have hrep : List.replicate (Int.toNat 196608) [D.int IntKind.i64 0] = intsC (List.replicate manyN 0) := by
  unfold intsC
  rw [List.map_replicate]
  rfl
 rw [hrep]
 have hixl : (List.replicate manyN (0 : Int)).length = manyN := List.length_replicate
 have hixz : ∀ n, KN.atI (List.replicate manyN (0 : Int)) n = 0 := by
  intro n
  unfold KN.atI
  rw [List.getElem?_replicate]
  split <;> rfl
 generalize List.replicate manyN (0 : Int) = ix0 at hixl hixz hWB ⊢
 obtain ⟨N, hN⟩ : ∃ N, N = Int.toNat 196608 := ⟨_, rfl⟩
 have hN2 : N = 196608 := hN
 rw [← hN]
 have hixN : ix0.length = N := by rw [hixl, hN2]; rfl
 refine DrawCall_v (ds := [Tired.zero.d]) h98 rfl rfl ?_
 conv=>whnf
 refine brk_i (fun _ => ?_) (fun h => absurd h (by simp; omega))
 conv=>whnf
 have hT0 : Tired.zero.cells = [i64 0, i64 0, i64 0, i64 0, i64 0, i64 0] := rfl
 have hst := web_start hR (men := men) hixl hixz
 rw [hk1] at hst hWB
 refine cellK_i [i64 (KN.atI ix0 k0)] (intsC_get (by omega)) ?_
 conv=>whnf
 refine LoopA_p (T := tys) tysOk (by exact drawsB_spec mixed tysOk (by decide +kernel)) (α := KN.WS Tired × List (List Nat)) (fun x => ⟨[(1, .d (intsD men)), (2, .ptr 2 0), (4, .ptr 4 0), (5, .ptr 5 0), (6, .d (i64 x.2.length))], [(2, .box (.dd c.cells)), (4, .box (.dd [.nils, .nils, .nils, .nils])), (5, .box (.vv [.sl 21 1 0 N, .sl 900000 6 0 x.1.sts.length, .sl 97 1 0 x.2.length, .d .nils])), (21, .arr 1 (.dd (intsC x.1.ix))), (900000, .arr 6 (.dd (statesC x.1.sts))), (97, .arr 1 (.dd ((rowsI x.2).map fun r => [intsD r])))], st⟩)
  (fun x => WebOk c men x.1 x.2 ∧ KN.webW (sucS c men) codN (46656 - x.2.length) x.1 x.2 = WB) (fun x => 46656 - x.2.length) (⟨ix0.set k0 1, [.zero]⟩, []) ?wk ⟨hst, hWB⟩ ?_
 case wk =>
  refine (Wk.bornAt 5 97 1 [.sl 21 1 0 N, .sl 23 6 0 1] [.d .nils] rfl rfl rfl rfl).trans ((Wk.move 23 900000 rfl rfl).trans (Wk.sub ⟨rfl, rfl, rfl, rfl, rfl, trivial⟩ ⟨rfl, rfl, rfl, ?_, rfl, rfl, trivial⟩))
  show some (Obj.arr 1 (Els.dd ((intsC ix0).set (0 + ((k0 : Nat) : Int).toNat) [i64 1]))) = _
  rw [intsC_set]
 rintro ⟨w, b⟩ ⟨hw, hweb⟩
 have hfew := sts_few hR hw.ok
 simp only at hw hfew hweb
 have hble := hw.le
 conv=>whnf
 refine brk_i (fun h1 => ?_) (fun h1 => ?_)
 ·have h1 : b.length < w.sts.length := by have := of_decide_eq_true h1; simp only at this; omega
  obtain ⟨t, ht⟩ : ∃ t, w.sts[b.length]? = some t := ⟨_, List.getElem?_eq_getElem h1⟩
  have htV := hw.ok.inU t (List.mem_of_getElem? ht)
  obtain ⟨hg1, hg2, hg3⟩ := canS_facts hR hset htV
  have hstep := KN.wstep (fun s hs => codN_lt hR s hs) (fun s t hs ht e => codN_inj hR s t hs ht e) (fun s hs => suc_InV hR hset s hs) hw ht
  obtain ⟨f, hf⟩ : ∃ f, 46656 - b.length = f + 1 := ⟨46656 - b.length - 1, by omega⟩
  rw [hf, KN.webW, ht] at hweb
  simp only at hweb
  have hsuc : sucS c men t = (canS c men t).map (behindF c t) := rfl
  rw [hsuc] at hstep hweb
  have h97 : FnV Try.prog 97 [c.d, t.d, intsD men] (rotaD (canS c men t)) := fun {σ} => wa97 c hR t htV.u men hmen
  generalize hgs : canS c men t = gs at hg1 hg2 hg3 hstep h97 hweb hsuc
  conv=>whnf
  refine brk_i (fun _ => ?_) (fun h => absurd h (by simp [h1]))
  conv=>whnf
  refine cellK_i t.cells (statesC_get ht) ?_
  conv=>whnf
  refine DrawCall_v (ds := [c.d, t.d, intsD men]) h97 rfl rfl ?_
  conv=>whnf
  generalize hR' : KN.rowW codN (gs.map (behindF c t)) w [] = R at hstep hweb
  refine LoopA_i (T := tys) tysOk (by exact drawsB_spec mixed tysOk (by decide +kernel)) gs (fun k (x : KN.WS Tired × List Nat) => ⟨[(1, .d (intsD men)), (2, .ptr 2 0), (4, .ptr 4 0), (5, .ptr 5 0), (6, .d (i64 b.length)), (7, .sl 92 1 0 x.2.length), (8, .d (rotaD gs)), (9, .d (i64 k))], [(2, .box (.dd c.cells)), (4, .box (.dd [.nils, .nils, .nils, .nils])), (5, .box (.vv [.sl 21 1 0 N, .sl 900000 6 0 x.1.sts.length, .sl 97 1 0 b.length, .d .nils])), (21, .arr 1 (.dd (intsC x.1.ix))), (900000, .arr 6 (.dd (statesC x.1.sts))), (97, .arr 1 (.dd ((rowsI b).map fun r => [intsD r]))), (92, .arr 1 (.dd (intsC (natC x.2))))], st⟩)
   (fun k r x => KN.WOk codN manyN (InV c) x.1 ∧ KN.rowW codN (r.map (behindF c t)) x.1 x.2 = R ∧ x.1.sts[b.length]? = some t ∧ x.2.length ≤ k ∧ (∀ g ∈ r, InV c (behindF c t g) ∧ g.length ≤ 2)) (w, []) ((Wk.born 7 92 1 rfl rfl rfl).trans (Wk.sub (by repeat' first|exact trivial|refine⟨?_,?_⟩|rfl|(simp only[List.length_map];rfl)|simp[PX.get]) (by repeat' first|exact trivial|refine⟨?_,?_⟩|rfl|(simp only[List.length_map];rfl)|simp[PX.get]))) ⟨hw.ok, hR', ht, by simp, fun g hg => ⟨hg3 _ (List.mem_map_of_mem hg), hg2 g hg⟩⟩ ?_ ?_
  ·rintro k g r ⟨w1, l⟩ hx hk hr ⟨hok, hrow, ht1, hll, hin⟩
   simp only at hok hrow ht1 hll
   obtain ⟨hu, hgl⟩ := hin g (by simp)
   have h78 : FnV Try.prog 78 [c.d, t.d, intsD g] (behindF c t g).d := fun {σ} => wa78 c hR t (InU.tokV hR htV) htV.z g (by omega)
   obtain ⟨hok2, ⟨tt, htt⟩, q, hq1, hq2⟩ := KN.ent_ok (fun s hs => codN_lt hR s hs) (fun s t hs ht e => codN_inj hR s t hs ht e) hok hu
   rw [List.map_cons, KN.rowW] at hrow
   generalize hub : behindF c t g = u at h78 hu hok2 htt hq1 hq2 hrow
   have h98u : FnV Try.prog 98 [u.d] (i64 (codT u)) := fun {σ} => wa98 u (InU.tokV hR hu)
   obtain ⟨n, hn0, hn1⟩ : ∃ n : Nat, codT u = n ∧ codN u = n := ⟨codN u, by have := codT_bd hR hu.u; unfold codN; omega, rfl⟩
   have hnlt : n < 196608 := by have := codT_bd hR hu.u; omega
   rw [hn0] at h98u
   rw [hn1] at hq1 hrow
   have hbl := (List.getElem?_eq_some_iff.1 ht1).1
   have hixN1 : w1.ix.length = N := by rw [hok.len, hN2]; rfl
   have hfew1 := sts_few hR hok
   conv=>whnf
   refine brk_i (fun _ => ?_) (fun h => absurd hk (by have := of_decide_eq_false h; simp at this; omega))
   conv=>whnf
   refine brk_i (fun _ => ?_) (fun h => absurd h (by simp [hbl]))
   conv=>whnf
   refine cellK_i t.cells (statesC_get ht1) ?_
   conv=>whnf
   refine elemK_nat hx ?_
   conv=>whnf
   refine DrawCall_v (ds := [c.d, t.d, intsD g]) h78 rfl rfl ?_
   conv=>whnf
   refine DrawCall_v (ds := [u.d]) h98u rfl rfl ?_
   conv=>whnf
   refine brk_i (fun _ => ?_) (fun h => absurd h (by simp; omega))
   conv=>whnf
   refine cellK_i [i64 (KN.atI w1.ix n)] (intsC_get (l := w1.ix) (by omega)) ?_
   conv=>whnf
   refine brk_i (fun h2 => ?_) (fun h2 => ?_)
   ·have h2 : KN.atI w1.ix n = 0 := of_decide_eq_true h2
    conv=>whnf
    refine ownK_whole rfl ?_
    conv=>whnf
    refine ownK_whole (by simp [Els.len, statesC]) ?_
    conv=>whnf
    refine chk_i (decide_eq_true (by
     show ((statesC w1.sts).length + 1) * 48 ≤ 140737488355328
     simp [statesC]; omega)) ?_
    conv=>whnf
    refine DrawCall_v (ds := [u.d]) h98u rfl rfl ?_
    conv=>whnf
    refine brk_i (fun _ => ?_) (fun h => absurd h (by simp; omega))
    conv=>whnf
    refine cellK_i [i64 (KN.atI w1.ix n)] (intsC_get (l := w1.ix) (by omega)) ?_
    conv=>whnf
    have hew : KN.entW codN w1 u = ⟨w1.ix.set n ((w1.sts.length + 1 : Nat) : Int), w1.sts ++ [u]⟩ := by unfold KN.entW; rw [hn1, if_pos h2]
    rw [hew] at hq1 hq2 hrow hok2 htt
    simp only at hq1 hq2 hrow
    have hqv : ((q : Int) + 1 - 1).toNat = q := by omega
    rw [hq1, hqv] at hrow
    refine DrawCall_v (ds := [u.d]) h98u rfl rfl ?_
    conv=>whnf
    refine brk_i (fun _ => ?_) (fun h => absurd h (by simp; omega))
    conv=>whnf
    have hlen1 : (statesC w1.sts).length = w1.sts.length := by simp [statesC]
    refine cellK_i [i64 ((q : Int) + 1)] (show ((intsC w1.ix).set (0 + ((n : Nat) : Int).toNat) [i64 (((statesC w1.sts).length + 1 : Nat) : Int)])[0 + ((n : Nat) : Int).toNat]? = _ from by
     rw [intsC_set, hlen1, intsC_get (by rw [List.length_set]; omega), hq1]) ?_
    conv=>whnf
    refine arith_to (q : Int) (by omega) (wrap_i64 (by have := (List.getElem?_eq_some_iff.1 hq2).1; simp at this; omega)) ?_
    conv=>whnf
    refine ownK_whole rfl ?_
    conv=>whnf
    refine ownK_whole (by simp [Els.len, intsC, natC]) ?_
    conv=>whnf
    refine chk_i (decide_eq_true (by
     show ((intsC (natC l)).length + 1) * 8 ≤ 140737488355328
     simp [intsC, natC]; omega)) ?_
    conv=>whnf
    refine arith_in (wrap_i64 (by (try dsimp only); omega)) ?_
    conv=>whnf
    refine ⟨(⟨w1.ix.set n ((w1.sts.length + 1 : Nat) : Int), w1.sts ++ [u]⟩, l ++ [q]), ⟨hok2, hrow, KN.get_pre ht1, by simp; omega, fun g hg => hin g (by simp [hg])⟩, (Wk.move 73 900000 rfl rfl).trans (Wk.sub ⟨rfl, rfl, rfl, rfl, rfl, ?_, rfl, rfl, trivial⟩ ⟨rfl, rfl, ?_, ?_, ?_, rfl, ?_, trivial⟩)⟩
    ·show some (V.sl 92 1 0 ((intsC (natC l)).length + 1)) = _
     simp [intsC, natC]
    ·show some (Obj.box (Cells.vv [.sl 21 1 0 N, .sl 900000 6 0 ((statesC w1.sts).length + 1), .sl 97 1 0 b.length, .d .nils])) = some (Obj.box (Cells.vv [.sl 21 1 0 N, .sl 900000 6 0 (w1.sts ++ [u]).length, .sl 97 1 0 b.length, .d .nils]))
     simp [statesC]
    ·show some (Obj.arr 1 (Els.dd ((intsC w1.ix).set (0 + ((n : Nat) : Int).toNat) [i64 (((statesC w1.sts).length + 1 : Nat) : Int)]))) = _
     rw [intsC_set, hlen1]
    ·show some (Obj.arr 6 (Els.dd (statesC w1.sts ++ [u.cells]))) = _
     simp [statesC]
    ·show some (Obj.arr 1 (Els.dd (intsC (natC l) ++ [[i64 (q : Int)]]))) = _
     simp [intsC, natC]
   ·have h2 : ¬ KN.atI w1.ix n = 0 := of_decide_eq_false h2
    have hew : KN.entW codN w1 u = w1 := by unfold KN.entW; rw [hn1, if_neg h2]
    rw [hew] at hq1 hq2 hrow hok2 htt
    conv=>whnf
    refine DrawCall_v (ds := [u.d]) h98u rfl rfl ?_
    conv=>whnf
    refine brk_i (fun _ => ?_) (fun h => absurd h (by simp; omega))
    conv=>whnf
    refine cellK_i [i64 (KN.atI w1.ix n)] (intsC_get (l := w1.ix) (by omega)) ?_
    conv=>whnf
    rw [hq1]
    have hqv : ((q : Int) + 1 - 1).toNat = q := by omega
    rw [hq1, hqv] at hrow
    refine arith_to (q : Int) (by omega) (wrap_i64 (by have := (List.getElem?_eq_some_iff.1 hq2).1; omega)) ?_
    conv=>whnf
    refine ownK_whole rfl ?_
    conv=>whnf
    refine ownK_whole (by simp [Els.len, intsC, natC]) ?_
    conv=>whnf
    refine chk_i (decide_eq_true (by
     show ((intsC (natC l)).length + 1) * 8 ≤ 140737488355328
     simp [intsC, natC]; omega)) ?_
    conv=>whnf
    refine arith_in (wrap_i64 (by (try dsimp only); omega)) ?_
    conv=>whnf
    refine ⟨(w1, l ++ [q]), ⟨hok2, hrow, ht1, by simp; omega, fun g hg => hin g (by simp [hg])⟩, Wk.sub ⟨rfl, rfl, rfl, rfl, rfl, ?_, rfl, rfl, trivial⟩ ⟨rfl, rfl, rfl, rfl, rfl, rfl, ?_, trivial⟩⟩
    ·show some (V.sl 92 1 0 ((intsC (natC l)).length + 1)) = _
     simp [intsC, natC]
    ·show some (Obj.arr 1 (Els.dd (intsC (natC l) ++ [[i64 (q : Int)]]))) = _
     simp [intsC, natC]
  ·rintro ⟨w1, l⟩ ⟨hok, hrow, ht1, hll, _⟩
   simp only at hok hrow ht1 hll
   have hrow : (w1, l) = R := hrow
   rw [← hrow] at hstep hweb
   simp only at hweb
   obtain ⟨hnew, tt, htt⟩ := hstep
   simp only at hnew htt
   have hfew1 := sts_few hR hok
   conv=>whnf
   refine brk_i (fun h => absurd h (by simp)) (fun _ => ?_)
   conv=>whnf
   refine ownK_whole rfl ?_
   conv=>whnf
   refine ownK_whole (by simp [Els.len, rowsI]) ?_
   conv=>whnf
   have hfree : (true && !nameBL 97 ((injL ((rowsI b).map fun r => [intsD r]) ++ [[V.sl 92 1 0 l.length]]).flatten)) = true := by
    rw [nameBL_injL]; rfl
   refine chk_i hfree ?_
   conv=>whnf
   refine chk_i (decide_eq_true (by
    show (((rowsI b).map fun r => [intsD r]).length + 1) * 24 ≤ 140737488355328
    simp [rowsI]; omega)) ?_
   conv=>whnf
   refine arith_in (wrap_i64 (by (try dsimp only); omega)) ?_
   conv=>whnf
   refine ⟨(w1, b ++ [l]), by simp; omega, ⟨hnew, by simp only [List.length_append, List.length_singleton]; rw [show 46656 - (b.length + 1) = f by omega]; exact hweb⟩, (Wk.frzArr 1 [92] 97 (sz := 1) (vs := injL ((rowsI b).map fun r => [intsD r]) ++ [[.sl 92 1 0 l.length]]) (ds := ((rowsI b).map fun r => [intsD r]) ++ [[intsD (natC l)]]) ?_ (viewLL_app (viewLL_one (viewL_cons (viewV_sl rfl (by simp [intsC, natC])) rfl)) _)).trans ?_⟩
   ·rfl
   ·refine Wk.sub ⟨rfl, rfl, rfl, rfl, ?_, trivial⟩ ⟨rfl, rfl, ?_, rfl, rfl, ?_, trivial⟩
    ·show some (V.d (i64 ((b.length : Int) + 1))) = some (V.d (i64 ((b ++ [l]).length : Nat)))
     simp
    ·show some (Obj.box (Cells.vv [.sl 21 1 0 N, .sl 900000 6 0 w1.sts.length, .sl 97 1 0 (((rowsI b).map fun r => [intsD r]).length + 1), .d .nils])) = some (Obj.box (Cells.vv [.sl 21 1 0 N, .sl 900000 6 0 w1.sts.length, .sl 97 1 0 (b ++ [l]).length, .d .nils]))
     simp [rowsI]
    ·show some (Obj.arr 1 (Els.dd (((rowsI b).map fun r => [intsD r]) ++ [[intsD (natC l)]]))) = some (Obj.arr 1 (Els.dd ((rowsI (b ++ [l])).map fun r => [intsD r])))
     simp [rowsI, natC]
 ·have h1 : ¬ b.length < w.sts.length := by have := of_decide_eq_false h1; simp only at this; omega
  have hfull : b.length = w.sts.length := by omega
  rw [webW_end (by omega)] at hweb
  subst hweb
  conv=>whnf
  refine chk_i (by simp; rfl) ?_
  conv=>whnf
  refine chk_i (decide_eq_true (by simp only; omega)) ?_
  conv=>whnf
  refine chk_i (by simp; rfl) ?_
  conv=>whnf
  refine chk_i (decide_eq_true (by simp only; omega)) ?_
  conv=>whnf
  obtain ⟨B, hB⟩ : ∃ B : Nat, 3000000 ≤ B := ⟨3000000, Nat.le_refl _⟩
  have hrows : List.replicate w.sts.length (Rw.at' []) = rowsN (List.replicate w.sts.length []) := by
   unfold rowsN
   rw [List.map_replicate]; rfl
  generalize hBFF : KN.befF 0 b (List.replicate w.sts.length []) = BFF
  refine LoopA_i (T := tys) tysOk (by exact drawsB_spec mixed tysOk (by decide +kernel)) b (fun i (x : List Int × List Int × List (List Nat) × List Nat) => ⟨[(2, .ptr 2 0), (4, .ptr 4 0), (5, .ptr 5 0), (11, .sl 102 1 0 w.sts.length), (12, .sl 106 1 0 w.sts.length), (13, .sl 170 1 0 x.2.2.2.length), (14, .d (i64 i))],
    (102, outO B 1 (rowsN x.2.2.1)) :: ([(4, .box (.dd [.nils, .nils, .nils, .nils])), (5, .box (.vv [.sl 21 1 0 N, .sl 900000 6 0 w.sts.length, .sl 97 1 0 b.length, .sl 117 1 0 x.1.length])), (21, .arr 1 (.dd (intsC w.ix))), (900000, .arr 6 (.dd (statesC w.sts))), (97, .arr 1 (.dd ((rowsI b).map fun r => [intsD r]))), (106, .arr 1 (.dd (intsC x.2.1))), (117, .arr 1 (.dd (intsC x.1))), (170, .arr 1 (.dd (intsC (natC x.2.2.2))))] ++ famR B 1 0 (rowsN x.2.2.1)), st⟩)
   (fun i r x => x.1 = List.replicate i (-1) ∧ x.2.1.length = w.sts.length ∧ x.2.2.1.length = w.sts.length ∧ (∀ j, j < i → KN.atI x.2.1 j = (KN.atL b j).length) ∧ KN.befF i r x.2.2.1 = BFF ∧ x.2.2.2 = KN.line0 b i ∧ ∀ j, (KN.atL x.2.2.1 j).length ≤ 25 * i) ([], List.replicate w.sts.length 0, List.replicate w.sts.length [], []) ?wk2 ⟨rfl, by simp, by simp, fun j hj => by omega, hBFF, rfl, fun j => by rw [atL_rep]; simp⟩ ?_ ?_
  case wk2 =>
   refine (Wk.bornAt 5 117 1 [.sl 21 1 0 N, .sl 900000 6 0 w.sts.length, .sl 97 1 0 b.length] [] rfl rfl rfl rfl).trans ((Wk.born 13 170 1 rfl rfl rfl).trans ((Wk.sub (e' := [(2, .ptr 2 0), (4, .ptr 4 0), (5, .ptr 5 0), (11, .sl 102 1 0 w.sts.length), (12, .sl 106 1 0 w.sts.length), (13, .sl 170 1 0 0), (14, .d (i64 0))]) (h' := (102, .arr 1 (.dd (List.replicate w.sts.length [D.nils]))) :: [(4, .box (.dd [.nils, .nils, .nils, .nils])), (5, .box (.vv [.sl 21 1 0 N, .sl 900000 6 0 w.sts.length, .sl 97 1 0 b.length, .sl 117 1 0 0])), (21, .arr 1 (.dd (intsC w.ix))), (900000, .arr 6 (.dd (statesC w.sts))), (97, .arr 1 (.dd ((rowsI b).map fun r => [intsD r]))), (106, .arr 1 (.dd (intsC (List.replicate w.sts.length 0)))), (117, .arr 1 (.dd [])), (170, .arr 1 (.dd []))]) ⟨rfl, rfl, rfl, rfl, rfl, rfl, rfl, trivial⟩ ⟨rfl, rfl, rfl, rfl, rfl, rfl, ?_, rfl, rfl, trivial⟩).trans ((Wk.makeF (sz := 1) hB (by decide) rfl rfl).trans ?_)))
   ·show some (Obj.arr 1 (Els.dd (List.replicate w.sts.length [i64 0]))) = _
    simp [intsC]
   ·rw [hrows]
    exact Wk.refl _
  ·rintro i l r ⟨H, left, bf, line⟩ hx hi hr ⟨hH, hll, hbl, hlj, hbef, hlin, hfewB⟩
   simp only at hH hll hbl hlj hbef hlin hfewB
   have hl25 := row_few hR hset hw hx
   rw [KN.befF] at hbef
   have hHl : H.length = i := by rw [hH, List.length_replicate]
   conv=>whnf
   repeat (refine forceH_fam (T' := famR B 1 0 (rowsN bf)) (by first | exact rfl | exact cut_famR (by omega) | exact map_famR _ | exact mapcut_famR _ (by omega)) ?_; conv=>whnf)
   refine brk_i (fun _ => ?_) (fun h => absurd h (by simp; omega))
   conv=>whnf
   repeat (refine forceH_fam (T' := famR B 1 0 (rowsN bf)) (by first | exact rfl | exact cut_famR (by omega) | exact map_famR _ | exact mapcut_famR _ (by omega)) ?_; conv=>whnf)
   refine ownK_whole rfl ?_
   conv=>whnf
   repeat (refine forceH_fam (T' := famR B 1 0 (rowsN bf)) (by first | exact rfl | exact cut_famR (by omega) | exact map_famR _ | exact mapcut_famR _ (by omega)) ?_; conv=>whnf)
   refine ownK_whole (by simp [Els.len, intsC]) ?_
   conv=>whnf
   repeat (refine forceH_fam (T' := famR B 1 0 (rowsN bf)) (by first | exact rfl | exact cut_famR (by omega) | exact map_famR _ | exact mapcut_famR _ (by omega)) ?_; conv=>whnf)
   refine chk_i (decide_eq_true (by
    show ((intsC H).length + 1) * 8 ≤ 140737488355328
    simp [intsC]; omega)) ?_
   conv=>whnf
   repeat (refine forceH_fam (T' := famR B 1 0 (rowsN bf)) (by first | exact rfl | exact cut_famR (by omega) | exact map_famR _ | exact mapcut_famR _ (by omega)) ?_; conv=>whnf)
   refine brk_i (fun _ => ?_) (fun h => absurd h (by simp; omega))
   conv=>whnf
   repeat (refine forceH_fam (T' := famR B 1 0 (rowsN bf)) (by first | exact rfl | exact cut_famR (by omega) | exact map_famR _ | exact mapcut_famR _ (by omega)) ?_; conv=>whnf)
   refine cellK_i [intsD (natC l)] (rowsI_get hx) ?_
   conv=>whnf
   repeat (refine forceH_fam (T' := famR B 1 0 (rowsN bf)) (by first | exact rfl | exact cut_famR (by omega) | exact map_famR _ | exact mapcut_famR _ (by omega)) ?_; conv=>whnf)
   refine brk_i (fun _ => ?_) (fun h => absurd h (by simp; omega))
   conv=>whnf
   repeat (refine forceH_fam (T' := famR B 1 0 (rowsN bf)) (by first | exact rfl | exact cut_famR (by omega) | exact map_famR _ | exact mapcut_famR _ (by omega)) ?_; conv=>whnf)
   refine cellK_i [i64 (KN.atI left i)] (intsC_get (l := left) (by omega)) ?_
   conv=>whnf
   repeat (refine forceH_fam (T' := famR B 1 0 (rowsN bf)) (by first | exact rfl | exact cut_famR (by omega) | exact map_famR _ | exact mapcut_famR _ (by omega)) ?_; conv=>whnf)
   have hlow : ∀ v ∈ l, v < w.sts.length := by
    have := hw.low i
    unfold KN.atL at this
    rw [hx] at this
    exact this
   generalize hBF : KN.addBs i l bf = BF
   refine LoopA_o (T := tys) tysOk (by exact drawsB_spec mixed tysOk (by decide +kernel)) l (fun k (bf2 : List (List Nat)) => ⟨[(2, .ptr 2 0), (4, .ptr 4 0), (5, .ptr 5 0), (11, .sl 102 1 0 w.sts.length), (12, .sl 106 1 0 w.sts.length), (13, .sl 170 1 0 line.length), (14, .d (i64 i)), (15, .d (i64 k))],
    (102, outO B 1 (rowsN bf2)) :: ([(4, .box (.dd [.nils, .nils, .nils, .nils])), (5, .box (.vv [.sl 21 1 0 N, .sl 900000 6 0 w.sts.length, .sl 97 1 0 b.length, .sl 117 1 0 (i + 1)])), (21, .arr 1 (.dd (intsC w.ix))), (900000, .arr 6 (.dd (statesC w.sts))), (97, .arr 1 (.dd ((rowsI b).map fun r => [intsD r]))), (106, .arr 1 (.dd (intsC (left.set i (l.length : Nat))))), (117, .arr 1 (.dd (intsC (H ++ [-1])))), (170, .arr 1 (.dd (intsC (natC line))))] ++ famR B 1 0 (rowsN bf2)), st⟩)
    (fun k r bf2 => bf2.length = w.sts.length ∧ KN.addBs i r bf2 = BF ∧ ∀ j, (KN.atL bf2 j).length ≤ 25 * i + k) bf ?wk3 ⟨hbl, hBF, fun j => by have := hfewB j; omega⟩ ?_ ?_
   case wk3 =>
    refine Wk.subG ((102, outO B 1 (rowsN bf)) :: [(4, .box (.dd [.nils, .nils, .nils, .nils])), (5, .box (.vv [.sl 21 1 0 N, .sl 900000 6 0 w.sts.length, .sl 97 1 0 b.length, .sl 117 1 0 (i + 1)])), (21, .arr 1 (.dd (intsC w.ix))), (900000, .arr 6 (.dd (statesC w.sts))), (97, .arr 1 (.dd ((rowsI b).map fun r => [intsD r]))), (106, .arr 1 (.dd (intsC (left.set i (l.length : Nat))))), (117, .arr 1 (.dd (intsC (H ++ [-1])))), (170, .arr 1 (.dd (intsC (natC line))))]) hB ⟨rfl, rfl, rfl, rfl, rfl, rfl, rfl, rfl, trivial⟩ (fun k hk => by repeat (first | rw [get_one, if_neg (by omega)] | rw [List.cons_append] | rw [List.nil_append])) ⟨?_, rfl, ?_, rfl, rfl, rfl, ?_, ?_, rfl, trivial⟩
    ·show some (Obj.arr 1 (.vv (mapIdLL (killF 117) (mapIdLL (killF 116) (hdrs B 1 0 (rowsN bf)))))) = _
     rw [kill_rowsN (by omega), kill_rowsN (by omega)]; rfl
    ·show some (Obj.box (Cells.vv [.sl 21 1 0 N, .sl 900000 6 0 w.sts.length, .sl 97 1 0 b.length, .sl 117 1 0 ((intsC H).length + 1)])) = _
     simp [intsC, hHl]
    ·show some (Obj.arr 1 (Els.dd ((intsC left).set (0 + ((i : Nat) : Int).toNat) [i64 ((natC l).map fun n => [i64 n]).length]))) = _
     rw [intsC_set]
     simp [natC]
    ·show some (Obj.arr 1 (Els.dd (intsC H ++ [[i64 (-1)]]))) = _
     simp [intsC]
   ·rintro k v r bf2 hv hk hr3 ⟨hb2, hadd, hfew2⟩
    have hvn := hlow v (List.mem_of_getElem? hv)
    have hrow : (rowsN bf2)[v]? = some (.at' (intsC (natC (KN.atL bf2 v)))) := by
     unfold rowsN KN.atL
     rw [List.getElem?_map, List.getElem?_eq_getElem (by omega)]
     rfl
    refine ⟨_, Wk.openF 900002 v (sz := 1) (B := B) (O := 102) [(4, .box (.dd [.nils, .nils, .nils, .nils])), (5, .box (.vv [.sl 21 1 0 N, .sl 900000 6 0 w.sts.length, .sl 97 1 0 b.length, .sl 117 1 0 (i + 1)])), (21, .arr 1 (.dd (intsC w.ix))), (900000, .arr 6 (.dd (statesC w.sts))), (97, .arr 1 (.dd ((rowsI b).map fun r => [intsD r]))), (106, .arr 1 (.dd (intsC (left.set i (l.length : Nat))))), (117, .arr 1 (.dd (intsC (H ++ [-1])))), (170, .arr 1 (.dd (intsC (natC line))))] ?fam (by decide) (by decide) hrow rfl rfl ?sub, ?_⟩
    case fam =>
     exact ⟨hB, rfl, fun k hk => by repeat (first | rw [get_one, if_neg (by omega)] | rw [List.cons_append] | rw [List.nil_append]), by decide, fun K' n hm => by
      unfold rowsN at hm
      obtain ⟨x, _, hx⟩ := List.mem_map.1 hm
      cases hx⟩
    case sub => exact ⟨rfl, rfl, rfl, rfl, rfl, rfl, rfl, rfl, trivial⟩
    generalize hR2 : (rowsN bf2).set v (.foc 900002 (intsC (natC (KN.atL bf2 v))).length) = R2
    have hkill : ∀ k : Nat, k < B → k ≠ 900002 → mapIdLL (killF k) (hdrs B 1 0 R2) = hdrs B 1 0 R2 := fun k hk h9 => kill_foc hk fun K n hm => by
     rw [← hR2] at hm
     obtain ⟨j, hj⟩ := List.getElem?_of_mem hm
     rw [List.getElem?_set] at hj
     split at hj
     ·split at hj
      ·cases hj; omega
      ·cases hj
     ·unfold rowsN at hj
      rw [List.getElem?_map] at hj
      cases hb : bf2[j]? with
      | none => rw [hb] at hj; cases hj
      | some x => rw [hb] at hj; cases hj
    conv=>whnf
    repeat (first
     | (refine forceH_fam (T' := famR B 1 0 R2) (by first | exact rfl | exact cut_famR (by omega) | exact map_famR _ | exact mapcut_famR _ (by omega) | exact aside_famR (by omega) (by omega) _ | exact moveT_famR (by omega)) ?_; conv=>whnf)
     | (refine forceH_fam (T' := []) (by exact keepT_famR hB rfl) ?_; conv=>whnf))
    refine brk_i (fun _ => ?_) (fun h => absurd h (by simp; omega))
    conv=>whnf
    repeat (first
     | (refine forceH_fam (T' := famR B 1 0 R2) (by first | exact rfl | exact cut_famR (by omega) | exact map_famR _ | exact mapcut_famR _ (by omega) | exact aside_famR (by omega) (by omega) _ | exact moveT_famR (by omega)) ?_; conv=>whnf)
     | (refine forceH_fam (T' := []) (by exact keepT_famR hB rfl) ?_; conv=>whnf))
    refine cellK_i [intsD (natC l)] (rowsI_get hx) ?_
    conv=>whnf
    repeat (first
     | (refine forceH_fam (T' := famR B 1 0 R2) (by first | exact rfl | exact cut_famR (by omega) | exact map_famR _ | exact mapcut_famR _ (by omega) | exact aside_famR (by omega) (by omega) _ | exact moveT_famR (by omega)) ?_; conv=>whnf)
     | (refine forceH_fam (T' := []) (by exact keepT_famR hB rfl) ?_; conv=>whnf))
    refine brk_i (fun _ => ?_) (fun h => absurd h (by simp [natC]; omega))
    conv=>whnf
    repeat (first
     | (refine forceH_fam (T' := famR B 1 0 R2) (by first | exact rfl | exact cut_famR (by omega) | exact map_famR _ | exact mapcut_famR _ (by omega) | exact aside_famR (by omega) (by omega) _ | exact moveT_famR (by omega)) ?_; conv=>whnf)
     | (refine forceH_fam (T' := []) (by exact keepT_famR hB rfl) ?_; conv=>whnf))
    rw [get2_none (k := 159) (by decide) (by decide) rfl (by omega)]
    conv=>whnf
    repeat (first
     | (refine forceH_fam (T' := famR B 1 0 R2) (by first | exact rfl | exact cut_famR (by omega) | exact map_famR _ | exact mapcut_famR _ (by omega) | exact aside_famR (by omega) (by omega) _ | exact moveT_famR (by omega)) ?_; conv=>whnf)
     | (refine forceH_fam (T' := []) (by exact keepT_famR hB rfl) ?_; conv=>whnf))
    rw [get10_no (k := 160) (by rfl) (by omega)]
    conv=>whnf
    repeat (first
     | (refine forceH_fam (T' := famR B 1 0 R2) (by first | exact rfl | exact cut_famR (by omega) | exact map_famR _ | exact mapcut_famR _ (by omega) | exact aside_famR (by omega) (by omega) _ | exact moveT_famR (by omega)) ?_; conv=>whnf)
     | (refine forceH_fam (T' := []) (by exact keepT_famR hB rfl) ?_; conv=>whnf))
    refine brk_i (fun _ => ?_) (fun h => absurd h (by simp; omega))
    conv=>whnf
    repeat (first
     | (refine forceH_fam (T' := famR B 1 0 R2) (by first | exact rfl | exact cut_famR (by omega) | exact map_famR _ | exact mapcut_famR _ (by omega) | exact aside_famR (by omega) (by omega) _ | exact moveT_famR (by omega)) ?_; conv=>whnf)
     | (refine forceH_fam (T' := []) (by exact keepT_famR hB rfl) ?_; conv=>whnf))
    refine cellK_i [intsD (natC l)] (rowsI_get hx) ?_
    conv=>whnf
    repeat (first
     | (refine forceH_fam (T' := famR B 1 0 R2) (by first | exact rfl | exact cut_famR (by omega) | exact map_famR _ | exact mapcut_famR _ (by omega) | exact aside_famR (by omega) (by omega) _ | exact moveT_famR (by omega)) ?_; conv=>whnf)
     | (refine forceH_fam (T' := []) (by exact keepT_famR hB rfl) ?_; conv=>whnf))
    refine elemK_i [i64 (v : Nat)] ⟨by omega, by have := natC_get hv; rwa [Nat.zero_add] at this⟩ ?_
    conv=>whnf
    repeat (first
     | (refine forceH_fam (T' := famR B 1 0 R2) (by first | exact rfl | exact cut_famR (by omega) | exact map_famR _ | exact mapcut_famR _ (by omega) | exact aside_famR (by omega) (by omega) _ | exact moveT_famR (by omega)) ?_; conv=>whnf)
     | (refine forceH_fam (T' := []) (by exact keepT_famR hB rfl) ?_; conv=>whnf))
    refine brk_i (fun _ => ?_) (fun h => absurd h (by simp; omega))
    conv=>whnf
    repeat (first
     | (refine forceH_fam (T' := famR B 1 0 R2) (by first | exact rfl | exact cut_famR (by omega) | exact map_famR _ | exact mapcut_famR _ (by omega) | exact aside_famR (by omega) (by omega) _ | exact moveT_famR (by omega)) ?_; conv=>whnf)
     | (refine forceH_fam (T' := []) (by exact keepT_famR hB rfl) ?_; conv=>whnf))
    refine cellK_i [intsD (natC l)] (rowsI_get hx) ?_
    conv=>whnf
    repeat (first
     | (refine forceH_fam (T' := famR B 1 0 R2) (by first | exact rfl | exact cut_famR (by omega) | exact map_famR _ | exact mapcut_famR _ (by omega) | exact aside_famR (by omega) (by omega) _ | exact moveT_famR (by omega)) ?_; conv=>whnf)
     | (refine forceH_fam (T' := []) (by exact keepT_famR hB rfl) ?_; conv=>whnf))
    refine elemK_i [i64 (v : Nat)] ⟨by omega, by have := natC_get hv; rwa [Nat.zero_add] at this⟩ ?_
    conv=>whnf
    repeat (first
     | (refine forceH_fam (T' := famR B 1 0 R2) (by first | exact rfl | exact cut_famR (by omega) | exact map_famR _ | exact mapcut_famR _ (by omega) | exact aside_famR (by omega) (by omega) _ | exact moveT_famR (by omega)) ?_; conv=>whnf)
     | (refine forceH_fam (T' := []) (by exact keepT_famR hB rfl) ?_; conv=>whnf))
    rw [hkill 159 (by omega) (by omega), hkill 160 (by omega) (by omega)]
    refine brk_i (fun _ => ?_) (fun h => absurd h (by simp; omega))
    conv=>whnf
    repeat (first
     | (refine forceH_fam (T' := famR B 1 0 R2) (by first | exact rfl | exact cut_famR (by omega) | exact map_famR _ | exact mapcut_famR _ (by omega) | exact aside_famR (by omega) (by omega) _ | exact moveT_famR (by omega)) ?_; conv=>whnf)
     | (refine forceH_fam (T' := []) (by exact keepT_famR hB rfl) ?_; conv=>whnf))
    have hcell : (hdrs B 1 0 R2)[0 + ((v : Nat) : Int).toNat]? = some [V.sl 900002 1 0 (intsC (natC (KN.atL bf2 v))).length] := by
     rw [hdrs_at, ← hR2, Int.toNat_natCast]; simp only [Nat.zero_add]; rw [List.getElem?_set, if_pos rfl, if_pos (by unfold rowsN; simp; omega)]; rfl
    rw [hcell]
    conv=>whnf
    repeat (first
     | (refine forceH_fam (T' := famR B 1 0 R2) (by first | exact rfl | exact cut_famR (by omega) | exact map_famR _ | exact mapcut_famR _ (by omega) | exact aside_famR (by omega) (by omega) _ | exact moveT_famR (by omega)) ?_; conv=>whnf)
     | (refine forceH_fam (T' := []) (by exact keepT_famR hB rfl) ?_; conv=>whnf))
    refine ownK_whole rfl ?_
    conv=>whnf
    repeat (first
     | (refine forceH_fam (T' := famR B 1 0 R2) (by first | exact rfl | exact cut_famR (by omega) | exact map_famR _ | exact mapcut_famR _ (by omega) | exact aside_famR (by omega) (by omega) _ | exact moveT_famR (by omega)) ?_; conv=>whnf)
     | (refine forceH_fam (T' := []) (by exact keepT_famR hB rfl) ?_; conv=>whnf))
    refine ownK_whole (by simp [Els.len, intsC, natC]) ?_
    conv=>whnf
    repeat (first
     | (refine forceH_fam (T' := famR B 1 0 R2) (by first | exact rfl | exact cut_famR (by omega) | exact map_famR _ | exact mapcut_famR _ (by omega) | exact aside_famR (by omega) (by omega) _ | exact moveT_famR (by omega)) ?_; conv=>whnf)
     | (refine forceH_fam (T' := []) (by exact keepT_famR hB rfl) ?_; conv=>whnf))
    refine chk_i (decide_eq_true (by
     show ((intsC (natC (KN.atL bf2 v))).length + 1) * 8 ≤ 140737488355328
     have := hfew2 v
     simp [intsC, natC]; omega)) ?_
    conv=>whnf
    repeat (first
     | (refine forceH_fam (T' := famR B 1 0 R2) (by first | exact rfl | exact cut_famR (by omega) | exact map_famR _ | exact mapcut_famR _ (by omega) | exact aside_famR (by omega) (by omega) _ | exact moveT_famR (by omega)) ?_; conv=>whnf)
     | (refine forceH_fam (T' := []) (by exact keepT_famR hB rfl) ?_; conv=>whnf))
    refine brk_i (fun _ => ?_) (fun h => absurd h (by simp; omega))
    conv=>whnf
    repeat (first
     | (refine forceH_fam (T' := famR B 1 0 R2) (by first | exact rfl | exact cut_famR (by omega) | exact map_famR _ | exact mapcut_famR _ (by omega) | exact aside_famR (by omega) (by omega) _ | exact moveT_famR (by omega)) ?_; conv=>whnf)
     | (refine forceH_fam (T' := []) (by exact keepT_famR hB rfl) ?_; conv=>whnf))
    rw [hcell]
    conv=>whnf
    repeat (first
     | (refine forceH_fam (T' := famR B 1 0 R2) (by first | exact rfl | exact cut_famR (by omega) | exact map_famR _ | exact mapcut_famR _ (by omega) | exact aside_famR (by omega) (by omega) _ | exact moveT_famR (by omega)) ?_; conv=>whnf)
     | (refine forceH_fam (T' := []) (by exact keepT_famR hB rfl) ?_; conv=>whnf))
    refine forceN_any ?_
    conv=>whnf
    refine chk_i (by rfl) ?_
    conv=>whnf
    repeat (first
     | (refine forceH_fam (T' := famR B 1 0 R2) (by first | exact rfl | exact cut_famR (by omega) | exact map_famR _ | exact mapcut_famR _ (by omega) | exact aside_famR (by omega) (by omega) _ | exact moveT_famR (by omega)) ?_; conv=>whnf)
     | (refine forceH_fam (T' := []) (by exact keepT_famR hB rfl) ?_; conv=>whnf))
    refine arith_in (wrap_i64 (by (try dsimp only); omega)) ?_
    conv=>whnf
    repeat (first
     | (refine forceH_fam (T' := famR B 1 0 R2) (by first | exact rfl | exact cut_famR (by omega) | exact map_famR _ | exact mapcut_famR _ (by omega) | exact aside_famR (by omega) (by omega) _ | exact moveT_famR (by omega)) ?_; conv=>whnf)
     | (refine forceH_fam (T' := []) (by exact keepT_famR hB rfl) ?_; conv=>whnf))
    refine ⟨KN.addB bf2 v i, ⟨by unfold KN.addB; rw [List.length_set]; exact hb2, hadd, fun j => addB_len (by omega) hfew2 j⟩, (Wk.closeF (O := 102) (sz := 1) (B := B) (rows := R2.set v (.foc 160 ((intsC (natC (KN.atL bf2 v))).length + 1))) (l := intsC (natC (KN.atL bf2 v ++ [i]))) (n := (intsC (natC (KN.atL bf2 v))).length + 1) 160 v [(4, .box (.dd [.nils, .nils, .nils, .nils])), (5, .box (.vv [.sl 21 1 0 N, .sl 900000 6 0 w.sts.length, .sl 97 1 0 b.length, .sl 117 1 0 (i + 1)])), (21, .arr 1 (.dd (intsC w.ix))), (900000, .arr 6 (.dd (statesC w.sts))), (97, .arr 1 (.dd ((rowsI b).map fun r => [intsD r]))), (106, .arr 1 (.dd (intsC (left.set i (l.length : Nat))))), (117, .arr 1 (.dd (intsC (H ++ [-1])))), (170, .arr 1 (.dd (intsC (natC line))))] hB ?hO ?hT (by decide) ?hfo (by decide) (by decide) ?hi ?hn ?hrow rfl rfl ⟨rfl, rfl, rfl, rfl, rfl, rfl, rfl, rfl, trivial⟩).trans ?hend⟩
    case hO =>
     show some (Obj.arr 1 (Els.vv ((hdrs B 1 0 R2).set (0 + ((v : Nat) : Int).toNat) [V.sl 160 1 0 ((intsC (natC (KN.atL bf2 v))).length + 1)]))) = _
     rw [Int.toNat_natCast, Nat.zero_add, hdrs_store rfl]
     rfl
    case hT =>
     intro k hk
     repeat rw [get_one, if_neg (by omega)]
     rw [← hR2]
     exact famR_refoc k
    case hfo =>
     rw [← hR2, List.set_set, List.set_set]
     exact foc_rows
    case hi =>
     rw [List.getElem?_set, if_pos rfl, if_pos (by rw [← hR2, List.length_set]; unfold rowsN; simp; omega)]
    case hn => simp [intsC, natC]
    case hrow =>
     show some (Obj.arr 1 (Els.dd (intsC (natC (KN.atL bf2 v)) ++ [[i64 (i : Nat)]]))) = _
     simp [intsC, natC]
    case hend =>
     rw [← hR2, List.set_set, List.set_set, rowsN_set]
     exact Wk.subT (subEnv_t ⟨rfl, rfl, rfl, rfl, rfl, rfl, rfl, rfl, trivial⟩) fun _ _ h => h
   ·rintro bf2 ⟨hb2, hadd, hfew2⟩
    have hadd : bf2 = BF := hadd
    subst hadd
    rw [hBF] at hbef
    conv=>whnf
    repeat (refine forceH_fam (T' := famR B 1 0 (rowsN bf2)) (by first | exact rfl | exact cut_famR (by omega) | exact map_famR _ | exact mapcut_famR _ (by omega)) ?_; conv=>whnf)
    refine brk_i (fun _ => ?_) (fun h => absurd h (by simp; omega))
    conv=>whnf
    repeat (refine forceH_fam (T' := famR B 1 0 (rowsN bf2)) (by first | exact rfl | exact cut_famR (by omega) | exact map_famR _ | exact mapcut_famR _ (by omega)) ?_; conv=>whnf)
    refine cellK_i [intsD (natC l)] (rowsI_get hx) ?_
    conv=>whnf
    repeat (refine forceH_fam (T' := famR B 1 0 (rowsN bf2)) (by first | exact rfl | exact cut_famR (by omega) | exact map_famR _ | exact mapcut_famR _ (by omega)) ?_; conv=>whnf)
    refine brk_i (fun h => absurd h (by simp [natC])) (fun _ => ?_)
    conv=>whnf
    repeat (refine forceH_fam (T' := famR B 1 0 (rowsN bf2)) (by first | exact rfl | exact cut_famR (by omega) | exact map_famR _ | exact mapcut_famR _ (by omega)) ?_; conv=>whnf)
    refine brk_i (fun _ => ?_) (fun h => absurd h (by simp; omega))
    conv=>whnf
    repeat (refine forceH_fam (T' := famR B 1 0 (rowsN bf2)) (by first | exact rfl | exact cut_famR (by omega) | exact map_famR _ | exact mapcut_famR _ (by omega)) ?_; conv=>whnf)
    have hleft : KN.atI (left.set i (l.length : Nat)) i = l.length := by rw [KN.atI_set (by omega), if_pos rfl]
    refine cellK_i [i64 (KN.atI (left.set i (l.length : Nat)) i)] (intsC_get (l := left.set i (l.length : Nat)) (by rw [List.length_set]; omega)) ?_
    rw [hleft]
    conv=>whnf
    repeat (refine forceH_fam (T' := famR B 1 0 (rowsN bf2)) (by first | exact rfl | exact cut_famR (by omega) | exact map_famR _ | exact mapcut_famR _ (by omega)) ?_; conv=>whnf)
    have hlj2 : ∀ j, j < i + 1 → KN.atI (left.set i (l.length : Nat)) j = (KN.atL b j).length := by
     intro j hj
     rw [KN.atI_set (by omega)]
     by_cases hji : i = j
     ·rw [if_pos hji]
      subst hji
      unfold KN.atL
      rw [hx]; rfl
     ·rw [if_neg hji]
      exact hlj j (by omega)
    have hHs : H ++ [-1] = List.replicate (i + 1) (-1) := by rw [hH, List.replicate_succ']
    have hline : line.length ≤ i := by
     rw [hlin]
     unfold KN.line0
     refine Nat.le_trans (List.length_filter_le _ _) ?_
     rw [List.length_range]
     exact Nat.le_refl _
    have hf25 : ∀ j, (KN.atL bf2 j).length ≤ 25 * (i + 1) := fun j => by have := hfew2 j; omega
    have hlen5 : (H ++ [-1]).length = i + 1 := by rw [hHs, List.length_replicate]
    refine brk_i (fun h2 => ?_) (fun h2 => ?_)
    ·have h2 : (l.length : Int) = 0 := of_decide_eq_true h2
     conv=>whnf
     repeat (refine forceH_fam (T' := famR B 1 0 (rowsN bf2)) (by first | exact rfl | exact cut_famR (by omega) | exact map_famR _ | exact mapcut_famR _ (by omega)) ?_; conv=>whnf)
     refine ownK_whole rfl ?_
     conv=>whnf
     repeat (first
      | (refine forceH_fam (T' := famR B 1 0 (rowsN bf2)) (by first | exact rfl | exact cut_famR (by omega) | exact map_famR _ | exact mapcut_famR _ (by omega) | exact aside_famR (by omega) (by omega) _ | exact moveT_famR (by omega)) ?_; conv=>whnf)
      | (refine forceH_fam (T' := []) (by exact keepT_famR hB rfl) ?_; conv=>whnf))
     refine ownK_whole (by simp [Els.len, intsC, natC]) ?_
     conv=>whnf
     repeat (first
      | (refine forceH_fam (T' := famR B 1 0 (rowsN bf2)) (by first | exact rfl | exact cut_famR (by omega) | exact map_famR _ | exact mapcut_famR _ (by omega) | exact aside_famR (by omega) (by omega) _ | exact moveT_famR (by omega)) ?_; conv=>whnf)
      | (refine forceH_fam (T' := []) (by exact keepT_famR hB rfl) ?_; conv=>whnf))
     refine chk_i (decide_eq_true (by
      show ((intsC (natC line)).length + 1) * 8 ≤ 140737488355328
      simp [intsC, natC]; omega)) ?_
     conv=>whnf
     repeat (first
      | (refine forceH_fam (T' := famR B 1 0 (rowsN bf2)) (by first | exact rfl | exact cut_famR (by omega) | exact map_famR _ | exact mapcut_famR _ (by omega) | exact aside_famR (by omega) (by omega) _ | exact moveT_famR (by omega)) ?_; conv=>whnf)
      | (refine forceH_fam (T' := []) (by exact keepT_famR hB rfl) ?_; conv=>whnf))
     refine arith_in (wrap_i64 (by (try dsimp only); omega)) ?_
     conv=>whnf
     repeat (first
      | (refine forceH_fam (T' := famR B 1 0 (rowsN bf2)) (by first | exact rfl | exact cut_famR (by omega) | exact map_famR _ | exact mapcut_famR _ (by omega) | exact aside_famR (by omega) (by omega) _ | exact moveT_famR (by omega)) ?_; conv=>whnf)
      | (refine forceH_fam (T' := []) (by exact keepT_famR hB rfl) ?_; conv=>whnf))
     refine ⟨(H ++ [-1], left.set i (l.length : Nat), bf2, line ++ [i]), ⟨hHs, by simp only; rw [List.length_set]; exact hll, hb2, hlj2, hbef, by rw [line0_succ hx, if_pos h2, hlin], hf25⟩, ?_⟩
     refine (Wk.subG (B := B) (sz := 1) (rows := rowsN bf2) (e' := [(2, .ptr 2 0), (4, .ptr 4 0), (5, .ptr 5 0), (11, .sl 102 1 0 w.sts.length), (12, .sl 106 1 0 w.sts.length), (13, .sl 170 1 0 (line ++ [i]).length), (14, .d (i64 (i + 1 : Nat)))]) ((102, outO B 1 (rowsN bf2)) :: [(4, .box (.dd [.nils, .nils, .nils, .nils])), (5, .box (.vv [.sl 21 1 0 N, .sl 900000 6 0 w.sts.length, .sl 97 1 0 b.length, .sl 117 1 0 (H ++ [-1]).length])), (21, .arr 1 (.dd (intsC w.ix))), (900000, .arr 6 (.dd (statesC w.sts))), (97, .arr 1 (.dd ((rowsI b).map fun r => [intsD r]))), (106, .arr 1 (.dd (intsC (left.set i (l.length : Nat))))), (117, .arr 1 (.dd (intsC (H ++ [-1])))), (170, .arr 1 (.dd (intsC (natC (line ++ [i])))))]) hB ⟨rfl, rfl, rfl, rfl, rfl, ?env1, rfl, trivial⟩ (fun k hk => by repeat (first | rw [get_one, if_neg (by omega)] | rw [List.cons_append] | rw [List.nil_append])) ⟨?out1, rfl, ?box1, rfl, rfl, rfl, rfl, rfl, ?line1, trivial⟩).trans (Wk.refl _)
     case env1 =>
      show some (V.sl 170 1 0 ((intsC (natC line)).length + 1)) = _
      simp [intsC, natC]
     case out1 =>
      show some (Obj.arr 1 (Els.vv (mapIdLL (killF 170) (mapIdLL (killF 169) (hdrs B 1 0 (rowsN bf2)))))) = _
      rw [kill_rowsN (B := B) (k := 169) (by omega), kill_rowsN (B := B) (k := 170) (by omega)]; rfl
     case box1 => rw [hlen5]; rfl
     case line1 =>
      show some (Obj.arr 1 (Els.dd (intsC (natC line) ++ [[i64 (i : Nat)]]))) = _
      simp [intsC, natC]
    ·have h2 : ¬ (l.length : Int) = 0 := of_decide_eq_false h2
     conv=>whnf
     repeat (refine forceH_fam (T' := famR B 1 0 (rowsN bf2)) (by first | exact rfl | exact cut_famR (by omega) | exact map_famR _ | exact mapcut_famR _ (by omega)) ?_; conv=>whnf)
     refine arith_in (wrap_i64 (by (try dsimp only); omega)) ?_
     conv=>whnf
     repeat (refine forceH_fam (T' := famR B 1 0 (rowsN bf2)) (by first | exact rfl | exact cut_famR (by omega) | exact map_famR _ | exact mapcut_famR _ (by omega)) ?_; conv=>whnf)
     refine ⟨(H ++ [-1], left.set i (l.length : Nat), bf2, line), ⟨hHs, by simp only; rw [List.length_set]; exact hll, hb2, hlj2, hbef, by rw [line0_succ hx, if_neg h2]; exact hlin, hf25⟩, ?_⟩
     refine (Wk.subG (B := B) (sz := 1) (rows := rowsN bf2) (e' := [(2, .ptr 2 0), (4, .ptr 4 0), (5, .ptr 5 0), (11, .sl 102 1 0 w.sts.length), (12, .sl 106 1 0 w.sts.length), (13, .sl 170 1 0 line.length), (14, .d (i64 (i + 1 : Nat)))]) ((102, outO B 1 (rowsN bf2)) :: [(4, .box (.dd [.nils, .nils, .nils, .nils])), (5, .box (.vv [.sl 21 1 0 N, .sl 900000 6 0 w.sts.length, .sl 97 1 0 b.length, .sl 117 1 0 (H ++ [-1]).length])), (21, .arr 1 (.dd (intsC w.ix))), (900000, .arr 6 (.dd (statesC w.sts))), (97, .arr 1 (.dd ((rowsI b).map fun r => [intsD r]))), (106, .arr 1 (.dd (intsC (left.set i (l.length : Nat))))), (117, .arr 1 (.dd (intsC (H ++ [-1])))), (170, .arr 1 (.dd (intsC (natC line))))]) hB ⟨rfl, rfl, rfl, rfl, rfl, rfl, rfl, trivial⟩ (fun k hk => by repeat (first | rw [get_one, if_neg (by omega)] | rw [List.cons_append] | rw [List.nil_append])) ⟨rfl, rfl, ?box1, rfl, rfl, rfl, rfl, rfl, rfl, trivial⟩).trans (Wk.refl _)
     rw [hlen5]; rfl
  ·rintro ⟨H, left, bf, line⟩ ⟨hH, hll, hbl, hlj, hbef, hlin, hfewB⟩
   simp only at hH hll hbl hlj hbef hlin hfewB
   have hbef : bf = BFF := hbef
   rw [hfull] at hH hlj hlin hfewB
   have hleft := left_done (b := b) (by omega) (fun j hj => hlj j (by omega))
   obtain ⟨hbc, hbs⟩ := bef_ok hfull fun i => hw.low i
   rw [hBFF] at hbc hbs
   have hk0 := KN.kfirst (n := w.sts.length) (bf := BFF) hfull
   rw [← hleft, ← hlin, ← hH] at hk0
   have hlf : ∀ j, KN.atI left j ≤ 25 := fun j => by
    by_cases hj : j < w.sts.length
    ·rw [hlj j hj]
     have h1 : b[j]? = some (b[j]'(by omega)) := List.getElem?_eq_getElem _
     have := row_few hR hset hw h1
     unfold KN.atL
     rw [h1]
     simp only [Option.getD_some]; omega
    ·unfold KN.atI
     rw [List.getElem?_eq_none (by omega)]
     simp
   subst hbef
   conv=>whnf
   repeat (refine forceH_fam (T' := famR B 1 0 (rowsN bf)) (by first | exact rfl | exact cut_famR (by omega) | exact map_famR _ | exact mapcut_famR _ (by omega)) ?_; conv=>whnf)
   refine brk_i (fun h => absurd h (by simp; omega)) (fun _ => ?_)
   conv=>whnf
   repeat (refine forceH_fam (T' := famR B 1 0 (rowsN bf)) (by first | exact rfl | exact cut_famR (by omega) | exact map_famR _ | exact mapcut_famR _ (by omega)) ?_; conv=>whnf)
   have hbl2 : bf.length = w.sts.length := hbl
   generalize hRES : KN.loopK b bf w.sts.length 0 H ⟨left, line⟩ = RES
   have hhei0 : heiW b w.sts.length = RES := by
    unfold heiW
    rw [hBFF, ← hleft, ← hlin, ← hH]
    exact hRES
   refine LoopA_p (T := tys) tysOk (by exact drawsB_spec mixed tysOk (by decide +kernel)) (α := Nat × List Int × KN.KS) (fun x => ⟨[(2, .ptr 2 0), (4, .ptr 4 0), (5, .ptr 5 0), (11, .sl 102 1 0 w.sts.length), (12, .sl 106 1 0 w.sts.length), (13, .sl 170 1 0 x.2.2.line.length), (16, .d (i64 x.1))], [(102, .arr 1 (.dd ((rowsI bf).map fun r => [intsD r]))), (4, .box (.dd [.nils, .nils, .nils, .nils])), (5, .box (.vv [.sl 21 1 0 N, .sl 900000 6 0 w.sts.length, .sl 97 1 0 b.length, .sl 117 1 0 b.length])), (21, .arr 1 (.dd (intsC w.ix))), (900000, .arr 6 (.dd (statesC w.sts))), (97, .arr 1 (.dd ((rowsI b).map fun r => [intsD r]))), (106, .arr 1 (.dd (intsC x.2.2.left))), (117, .arr 1 (.dd (intsC x.2.1))), (170, .arr 1 (.dd (intsC (natC x.2.2.line))))], st⟩)
    (fun x => KN.KInv w.sts.length b bf x.1 x.2.1 x.2.2 ∧ (∀ j, KN.atI x.2.2.left j ≤ 25) ∧ KN.loopK b bf (w.sts.length - x.1) x.1 x.2.1 x.2.2 = RES) (fun x => w.sts.length - x.1) (0, H, ⟨left, line⟩) ?wk4 ⟨hk0, hlf, hRES⟩ ?_
   case wk4 =>
    refine (Wk.frzF (O := 102) (B := B) (sz := 1) (ls := bf.map fun l => intsC (natC l)) [(4, .box (.dd [.nils, .nils, .nils, .nils])), (5, .box (.vv [.sl 21 1 0 N, .sl 900000 6 0 w.sts.length, .sl 97 1 0 b.length, .sl 117 1 0 b.length])), (21, .arr 1 (.dd (intsC w.ix))), (900000, .arr 6 (.dd (statesC w.sts))), (97, .arr 1 (.dd ((rowsI b).map fun r => [intsD r]))), (106, .arr 1 (.dd (intsC left))), (117, .arr 1 (.dd (intsC H))), (170, .arr 1 (.dd (intsC (natC line))))] ?fam2 rfl ⟨rfl, ?box2, rfl, rfl, rfl, rfl, rfl, rfl, trivial⟩).trans (Wk.sub ⟨rfl, rfl, rfl, rfl, rfl, rfl, rfl, trivial⟩ ⟨?_, rfl, rfl, rfl, rfl, rfl, rfl, rfl, rfl, trivial⟩)
    case fam2 =>
     have e : (bf.map fun l => intsC (natC l)).map Rw.at' = rowsN bf := by unfold rowsN; rw [List.map_map]; rfl
     rw [e]
     exact ⟨hB, rfl, fun k hk => by repeat (first | rw [get_one, if_neg (by omega)] | rw [List.cons_append] | rw [List.nil_append]), by decide, fun K' n hm => by
      unfold rowsN at hm
      obtain ⟨x, _, hx⟩ := List.mem_map.1 hm
      cases hx⟩
    case box2 =>
     show some (Obj.box (Cells.vv [V.sl 21 1 0 N, V.sl 900000 6 0 w.sts.length, V.sl 97 1 0 b.length, V.sl 117 1 0 H.length])) = _
     rw [hH, List.length_replicate, hfull]
    ·show some (Obj.arr 1 (Els.dd ((bf.map fun l => intsC (natC l)).map fun l => [D.vs l]))) = _
     unfold rowsI
     rw [List.map_map, List.map_map]
     rfl
   rintro ⟨p, H, s⟩ ⟨hK, hl25, hres⟩
   simp only at hK hl25 hres
   have hpl := hK.hp
   have hln := KN.nodup_len hK.inn.nodup hK.inn.low
   have hHl := hK.hH
   conv=>whnf
   refine brk_i (fun h1 => ?_) (fun h1 => ?_)
   ·have h1 : p < s.line.length := by have := of_decide_eq_true h1; simp only at this; omega
    obtain ⟨i, hi⟩ : ∃ i, s.line[p]? = some i := ⟨_, List.getElem?_eq_getElem h1⟩
    obtain ⟨hK2, hin⟩ := KN.kstep hbc hbs hK hi
    have hi_n := hK.inn.low i (List.mem_of_getElem? hi)
    obtain ⟨l, hx⟩ : ∃ l, b[i]? = some l := ⟨_, List.getElem?_eq_getElem (by omega)⟩
    have hxl : KN.atL b i = l := by unfold KN.atL; rw [hx]; rfl
    have hl25b := row_few hR hset hw hx
    have hl_n : ∀ v ∈ l, v < w.sts.length := fun v hv => hw.low i v (by rw [hxl]; exact hv)
    obtain ⟨f, hf⟩ : ∃ f, w.sts.length - p = f + 1 := ⟨w.sts.length - p - 1, by omega⟩
    rw [hf, KN.loopK, hi] at hres
    simp only at hres
    rw [hxl] at hK2 hres
    conv=>whnf
    refine brk_i (fun _ => ?_) (fun h => absurd h (by simp [h1]))
    conv=>whnf
    refine cellK_i [i64 (i : Nat)] (by
     have : (natC s.line)[p]? = some (i : Int) := by unfold natC; rw [List.getElem?_map, hi]; rfl
     unfold intsC
     rw [Int.toNat_natCast, Nat.zero_add, List.getElem?_map, this]; rfl) ?_
    conv=>whnf
    generalize hHF : KN.highF H l = HF at hK2 hres
    refine LoopA_i (T := tys) tysOk (by exact drawsB_spec mixed tysOk (by decide +kernel)) l (fun k (h : Int) => ⟨[(2, .ptr 2 0), (4, .ptr 4 0), (5, .ptr 5 0), (11, .sl 102 1 0 w.sts.length), (12, .sl 106 1 0 w.sts.length), (13, .sl 170 1 0 s.line.length), (16, .d (i64 p)), (17, .d (i64 i)), (18, .d (i64 h)), (19, .d (i64 k))], [(102, .arr 1 (.dd ((rowsI bf).map fun r => [intsD r]))), (4, .box (.dd [.nils, .nils, .nils, .nils])), (5, .box (.vv [.sl 21 1 0 N, .sl 900000 6 0 w.sts.length, .sl 97 1 0 b.length, .sl 117 1 0 b.length])), (21, .arr 1 (.dd (intsC w.ix))), (900000, .arr 6 (.dd (statesC w.sts))), (97, .arr 1 (.dd ((rowsI b).map fun r => [intsD r]))), (106, .arr 1 (.dd (intsC s.left))), (117, .arr 1 (.dd (intsC H))), (170, .arr 1 (.dd (intsC (natC s.line))))], st⟩)
     (fun k r h => r.foldl (fun h j => max h (KN.atI H j + 1)) h = HF ∧ 0 ≤ h ∧ h ≤ 46656) 0 (Wk.sub (by repeat' first|exact trivial|refine⟨?_,?_⟩|rfl|(simp only[List.length_map];rfl)|simp[PX.get]) (by repeat' first|exact trivial|refine⟨?_,?_⟩|rfl|(simp only[List.length_map];rfl)|simp[PX.get])) ⟨hHF, by omega, by omega⟩ ?_ ?_
    ·rintro k v r h hv hk hr3 ⟨hfold, hh0, hh1⟩
     have hvn := hl_n v (List.mem_of_getElem? hv)
     have hbd := hK.bd v hvn
     rw [List.foldl_cons] at hfold
     conv=>whnf
     refine brk_i (fun _ => ?_) (fun h => absurd h (by simp; omega))
     conv=>whnf
     refine cellK_i [intsD (natC l)] (rowsI_get hx) ?_
     conv=>whnf
     refine brk_i (fun _ => ?_) (fun h => absurd h (by simp [natC]; omega))
     conv=>whnf
     refine brk_i (fun _ => ?_) (fun h => absurd h (by simp; omega))
     conv=>whnf
     refine cellK_i [intsD (natC l)] (rowsI_get hx) ?_
     conv=>whnf
     refine elemK_i [i64 (v : Nat)] ⟨by omega, by have := natC_get hv; rwa [Nat.zero_add] at this⟩ ?_
     conv=>whnf
     refine brk_i (fun _ => ?_) (fun h => absurd h (by simp; omega))
     conv=>whnf
     refine cellK_i [i64 (KN.atI H v)] (intsC_get (l := H) (by omega)) ?_
     conv=>whnf
     refine arith_in (wrap_i64 (by (try dsimp only); omega)) ?_
     conv=>whnf
     refine arith_in (wrap_i64 (by (try dsimp only); omega)) ?_
     conv=>whnf
     exact ⟨max h (KN.atI H v + 1), ⟨hfold, by omega, by omega⟩, (Wk.sub ⟨rfl, rfl, rfl, rfl, rfl, rfl, rfl, rfl, rfl, rfl, trivial⟩ ⟨rfl, rfl, rfl, rfl, rfl, rfl, rfl, rfl, rfl, trivial⟩)⟩
    ·rintro h ⟨hfold, hh0, hh1⟩
     have hfold : h = HF := hfold
     subst hfold
     conv=>whnf
     refine brk_i (fun _ => ?_) (fun h => absurd h (by simp; omega))
     conv=>whnf
     refine cellK_i [intsD (natC l)] (rowsI_get hx) ?_
     conv=>whnf
     refine brk_i (fun h => absurd h (by simp [natC])) (fun _ => ?_)
     conv=>whnf
     refine brk_i (fun _ => ?_) (fun h => absurd h (by simp; omega))
     conv=>whnf
     refine cellK_i [i64 (KN.atI H i)] (intsC_get (l := H) (by omega)) ?_
     conv=>whnf
     have hrb : bf[i]? = some (KN.atL bf i) := by
      unfold KN.atL
      rw [List.getElem?_eq_getElem (by omega)]; rfl
     have hbn := hbs i hi_n
     have hblen := hfewB i
     generalize hbi : KN.atL bf i = bl at hK2 hin hres hrb hbn hblen
     rw [List.append_nil] at hin
     generalize hS2 : bl.foldl KN.lessK s = S2 at hK2 hres
     refine LoopA_i (T := tys) tysOk (by exact drawsB_spec mixed tysOk (by decide +kernel)) bl (fun k (s2 : KN.KS) => ⟨[(2, .ptr 2 0), (4, .ptr 4 0), (5, .ptr 5 0), (11, .sl 102 1 0 w.sts.length), (12, .sl 106 1 0 w.sts.length), (13, .sl 170 1 0 s2.line.length), (16, .d (i64 p)), (17, .d (i64 i)), (20, .d (i64 k))], [(102, .arr 1 (.dd ((rowsI bf).map fun r => [intsD r]))), (4, .box (.dd [.nils, .nils, .nils, .nils])), (5, .box (.vv [.sl 21 1 0 N, .sl 900000 6 0 w.sts.length, .sl 97 1 0 b.length, .sl 117 1 0 b.length])), (21, .arr 1 (.dd (intsC w.ix))), (900000, .arr 6 (.dd (statesC w.sts))), (97, .arr 1 (.dd ((rowsI b).map fun r => [intsD r]))), (106, .arr 1 (.dd (intsC s2.left))), (117, .arr 1 (.dd (intsC (H.set i h)))), (170, .arr 1 (.dd (intsC (natC s2.line))))], st⟩)
      (fun k r s2 => KN.Inner w.sts.length s2 r ∧ r.foldl KN.lessK s2 = S2 ∧ ∀ j, KN.atI s2.left j ≤ 25) s ?wk5 ⟨hin, hS2, hl25⟩ ?_ ?_
     case wk5 =>
      refine Wk.sub ⟨rfl, rfl, rfl, rfl, rfl, rfl, rfl, rfl, rfl, trivial⟩ ⟨rfl, rfl, rfl, rfl, rfl, rfl, rfl, ?_, rfl, trivial⟩
      show some (Obj.arr 1 (Els.dd ((intsC H).set (0 + ((i : Nat) : Int).toNat) [i64 h]))) = _
      rw [intsC_set]
     ·rintro k v r s2 hv hk hr3 ⟨hinn, hfold2, hs25⟩
      have hvn := hbn v (List.mem_of_getElem? hv)
      have hinn2 := KN.inner_step hvn hinn
      have hmore := hinn.more v hvn
      rw [List.count_cons_self] at hmore
      have hv25 := hs25 v
      have hsl := hinn.len
      have hsl2 := KN.nodup_len hinn.nodup hinn.low
      rw [List.foldl_cons] at hfold2
      have hs25' := less_bd hsl hvn hs25
      conv=>whnf
      refine brk_i (fun _ => ?_) (fun h => absurd h (by simp; omega))
      conv=>whnf
      refine cellK_i [intsD (natC bl)] (rowsI_get hrb) ?_
      conv=>whnf
      refine brk_i (fun _ => ?_) (fun h => absurd h (by simp [natC]; omega))
      conv=>whnf
      refine brk_i (fun _ => ?_) (fun h => absurd h (by simp; omega))
      conv=>whnf
      refine cellK_i [intsD (natC bl)] (rowsI_get hrb) ?_
      conv=>whnf
      refine elemK_i [i64 (v : Nat)] ⟨by omega, by have := natC_get hv; rwa [Nat.zero_add] at this⟩ ?_
      conv=>whnf
      refine brk_i (fun _ => ?_) (fun h => absurd h (by simp; omega))
      conv=>whnf
      refine cellK_i [i64 (KN.atI s2.left v)] (intsC_get (l := s2.left) (by omega)) ?_
      conv=>whnf
      refine arith_in (wrap_i64 (by (try dsimp only); omega)) ?_
      conv=>whnf
      refine brk_i (fun _ => ?_) (fun h => absurd h (by simp; omega))
      conv=>whnf
      refine cellK_i [i64 (KN.atI s2.left v)] (intsC_get (l := s2.left) (by omega)) ?_
      conv=>whnf
      refine brk_i (fun _ => ?_) (fun h => absurd h (by simp; omega))
      conv=>whnf
      refine cellK_i [intsD (natC bl)] (rowsI_get hrb) ?_
      conv=>whnf
      refine elemK_i [i64 (v : Nat)] ⟨by omega, by have := natC_get hv; rwa [Nat.zero_add] at this⟩ ?_
      conv=>whnf
      refine brk_i (fun _ => ?_) (fun h => absurd h (by simp; omega))
      conv=>whnf
      refine cellK_i [i64 (KN.atI s2.left v - 1)] (by
       show ((intsC s2.left).set (0 + ((v : Nat) : Int).toNat) [i64 (KN.atI s2.left v - 1)])[0 + ((v : Nat) : Int).toNat]? = _
       rw [intsC_set, intsC_get (by rw [List.length_set]; omega), KN.atI_set (by omega), if_pos rfl]) ?_
      conv=>whnf
      refine brk_i (fun h2 => ?_) (fun h2 => ?_)
      ·have h2 : KN.atI s2.left v - 1 = 0 := of_decide_eq_true h2
       have hless : KN.lessK s2 v = ⟨s2.left.set v (KN.atI s2.left v - 1), s2.line ++ [v]⟩ := by unfold KN.lessK; rw [if_pos h2]
       rw [hless] at hinn2 hfold2 hs25'
       conv=>whnf
       refine brk_i (fun _ => ?_) (fun h => absurd h (by simp; omega))
       conv=>whnf
       refine cellK_i [intsD (natC bl)] (rowsI_get hrb) ?_
       conv=>whnf
       refine elemK_i [i64 (v : Nat)] ⟨by omega, by have := natC_get hv; rwa [Nat.zero_add] at this⟩ ?_
       conv=>whnf
       refine ownK_whole rfl ?_
       conv=>whnf
       refine ownK_whole (by simp [Els.len, intsC, natC]) ?_
       conv=>whnf
       refine chk_i (decide_eq_true (by
        show ((intsC (natC s2.line)).length + 1) * 8 ≤ 140737488355328
        simp [intsC, natC]; omega)) ?_
       conv=>whnf
       refine arith_in (wrap_i64 (by (try dsimp only); omega)) ?_
       conv=>whnf
       refine ⟨⟨s2.left.set v (KN.atI s2.left v - 1), s2.line ++ [v]⟩, ⟨hinn2, hfold2, hs25'⟩, (Wk.move 252 170 rfl rfl).trans (Wk.sub ⟨rfl, rfl, rfl, rfl, rfl, ?_, rfl, rfl, rfl, trivial⟩ ⟨rfl, rfl, rfl, rfl, rfl, rfl, ?_, rfl, ?_, trivial⟩)⟩
       ·show some (V.sl 170 1 0 ((intsC (natC s2.line)).length + 1)) = _
        simp [intsC, natC]
       ·show some (Obj.arr 1 (Els.dd ((intsC s2.left).set (0 + ((v : Nat) : Int).toNat) [i64 (KN.atI s2.left v - 1)]))) = _
        rw [intsC_set]
       ·show some (Obj.arr 1 (Els.dd (intsC (natC s2.line) ++ [[i64 (v : Nat)]]))) = _
        simp [intsC, natC]
      ·have h2 : ¬ KN.atI s2.left v - 1 = 0 := of_decide_eq_false h2
       have hless : KN.lessK s2 v = ⟨s2.left.set v (KN.atI s2.left v - 1), s2.line⟩ := by unfold KN.lessK; rw [if_neg h2]
       rw [hless] at hinn2 hfold2 hs25'
       conv=>whnf
       refine arith_in (wrap_i64 (by (try dsimp only); omega)) ?_
       conv=>whnf
       refine ⟨⟨s2.left.set v (KN.atI s2.left v - 1), s2.line⟩, ⟨hinn2, hfold2, hs25'⟩, Wk.sub ⟨rfl, rfl, rfl, rfl, rfl, rfl, rfl, rfl, rfl, trivial⟩ ⟨rfl, rfl, rfl, rfl, rfl, rfl, ?_, rfl, rfl, trivial⟩⟩
       show some (Obj.arr 1 (Els.dd ((intsC s2.left).set (0 + ((v : Nat) : Int).toNat) [i64 (KN.atI s2.left v - 1)]))) = _
       rw [intsC_set]
     ·rintro s2 ⟨hinn, hfold2, hs25⟩
      have hfold2 : s2 = S2 := hfold2
      subst hfold2
      conv=>whnf
      refine brk_i (fun _ => ?_) (fun h => absurd h (by simp; omega))
      conv=>whnf
      refine cellK_i [intsD (natC bl)] (rowsI_get hrb) ?_
      conv=>whnf
      refine brk_i (fun h => absurd h (by simp [natC])) (fun _ => ?_)
      conv=>whnf
      refine arith_in (wrap_i64 (by (try dsimp only); omega)) ?_
      conv=>whnf
      exact ⟨(p + 1, H.set i h, s2), by simp only; omega, ⟨hK2, hs25, by simp only; rw [show w.sts.length - (p + 1) = f by omega]; exact hres⟩, (Wk.sub ⟨rfl, rfl, rfl, rfl, rfl, rfl, rfl, trivial⟩ ⟨rfl, rfl, rfl, rfl, rfl, rfl, rfl, rfl, rfl, trivial⟩)⟩
   ·have h1 : ¬ p < s.line.length := by have := of_decide_eq_false h1; simp only at this; omega
    rw [loopK_end (by omega)] at hres
    have hhei : heiW b w.sts.length = H := hhei0.trans hres.symm
    conv=>whnf
    rw [hWD]
    unfold webDW
    rw [hhei]
    refine RetA_view 1 (ds := [.agg [intsD w.ix, statesD w.sts, rotaD (rowsI b), intsD H]]) (viewL_cons (show viewV _ (.agg [.sl 21 1 0 N, .sl 900000 6 0 w.sts.length, .sl 97 1 0 b.length, .sl 117 1 0 b.length]) = _ from (by
     rw [viewV, viewL_cons (viewV_sl' (es' := intsC w.ix) rfl rfl (by simp [intsC, hw.ok.len, hN2, manyN])) (viewL_cons (viewV_sl' (es' := statesC w.sts) rfl rfl (by simp [statesC])) (viewL_cons (viewV_sl' (es' := (rowsI b).map fun r => [intsD r]) rfl rfl (by simp [rowsI])) (viewL_cons (viewV_sl' (es' := intsC H) rfl rfl (by simp [intsC, hHl, hfull])) rfl)))]
     rfl
     )) rfl) ⟨⟨?_, rfl⟩, rfl⟩
    rfl
end Go.PX
namespace Go.PX
open Go.Proofs
def onL (c : WCase) (t : Tired) : List (List Int) := (canS c (othersR c (-1)) t).filter fun g => endB c (allMen c) (behindF c t g)
theorem WebR.step {c : WCase} (hR : WR c) (W : WebR c (othersR c (-1))) {t : Tired} (ht : t ∈ W.w.sts) {g : List Int} (hg : g ∈ canS c (othersR c (-1)) t) :
  behindF c t g ∈ W.w.sts ∧ ∃ q : Nat, KN.atI W.w.ix (codN (behindF c t g)) = (q : Int) + 1 ∧ q < W.w.sts.length ∧ (KN.atI W.H q < 0 ↔ endB c (allMen c) (behindF c t g) = true) := by
 obtain ⟨h1, q, h2, h3⟩ := W.done.find W.full ht (List.mem_map_of_mem (f := behindF c t) hg)
 exact ⟨h1, q, h2, (List.getElem?_eq_some_iff.1 h3).1, W.neg hR (othersR_set hR) h3⟩
theorem intsD_get {l : List Int} {k : Nat} (h : k < l.length) : (l.map fun n => [i64 n])[k]? = some [i64 (KN.atI l k)] := by
 unfold KN.atI
 rw [List.getElem?_map, List.getElem?_eq_getElem h]
 rfl
theorem wa74 (c : WCase) (hR : WR c) (W : WebR c (othersR c (-1))) (t : Tired) (ht : t ∈ W.w.sts) : FnV Try.prog 74 [c.d, W.d, t.d] (rotaD (onL c t)) := by
 refine fnV_of mixed tysOk Try.func74 rfl (ft := ft74) 3 (by decide +kernel) (by rfl) fun {σ} Y st => ?_
 conv=>whnf
 have hm := hR.men
 have htV := W.done.ok.inU t ht
 obtain ⟨hg1, hg2, hg3⟩ := canS_facts hR (othersR_set hR) htV
 have hol : (othersR c (-1)).length ≤ 5 := by
  unfold othersR
  rw [List.length_map]
  exact Nat.le_trans (List.length_filter_le _ _) (by rw [List.length_range]; exact hm.2)
 refine DrawCall_v (ds := [c.d, i64 (-1)]) (wa50 c hm.2 (-1)) rfl rfl ?_
 conv=>whnf
 refine DrawCall_v (ds := [c.d, t.d, intsD (othersR c (-1))]) (wa97 c hR t htV.u _ hol) rfl rfl ?_
 conv=>whnf
 generalize hM : onL c t = M
 unfold onL at hM
 have hstep := fun g hg => W.step hR ht (g := g) hg
 generalize canS c (othersR c (-1)) t = gs at hM hg1 hg2 hg3 hstep ⊢
 have hWd : W.d = .agg [intsD W.w.ix, statesD W.w.sts, rotaD (rowsI W.b), intsD W.H] := rfl
 refine LoopA_i (T := tys) tysOk (by exact drawsB_spec mixed tysOk (by decide +kernel)) gs (fun i (acc : List (List Int)) => ⟨[(3, .ptr 3 0), (4, .ptr 4 0), (5, .ptr 5 0), (7, .d (rotaD gs)), (8, .sl 45 1 0 acc.length), (9, .d (i64 i))], [(3, .box (.dd c.cells)), (4, .box (.dd [intsD W.w.ix, statesD W.w.sts, rotaD (rowsI W.b), intsD W.H])), (5, .box (.dd t.cells)), (45, .arr 1 (.dd (acc.map fun r => [intsD r])))], st⟩)
  (fun i r acc => acc.length ≤ i ∧ M = acc ++ r.filter fun g => endB c (allMen c) (behindF c t g)) [] ((Wk.born 8 45 1 rfl rfl rfl).trans (Wk.sub (by repeat' first|exact trivial|refine⟨?_,?_⟩|rfl|(simp only[List.length_map];rfl)|simp[PX.get]) (by repeat' first|exact trivial|refine⟨?_,?_⟩|rfl|(simp only[List.length_map];rfl)|simp[PX.get]))) ⟨by simp, hM.symm⟩ ?_ ?_
 ·rintro i x r acc hx hi hr2 ⟨hal, he⟩
  have hxm := List.mem_of_getElem? hx
  obtain ⟨_, q, hq1, hq2, hq3⟩ := hstep x hxm
  have huV := hg3 _ (List.mem_map_of_mem (f := behindF c t) hxm)
  have hcod := codT_bd hR huV.u
  have hcN := codN_lt hR _ huV
  have hixl := W.done.ok.len
  have hHl := W.kahn.hH
  have hfew := W.few
  rw [List.filter_cons] at he
  conv=>whnf
  refine brk_i (fun _ => ?_) (fun h => absurd hi (by have := of_decide_eq_false h; simp at this; omega))
  conv=>whnf
  refine elemK_nat hx ?_
  conv=>whnf
  refine DrawCall_v (ds := [c.d, t.d, intsD x]) (wa78 c hR t (InU.tokV hR htV) htV.z x (by have := hg2 x hxm; omega)) rfl rfl ?_
  conv=>whnf
  refine DrawCall_v (ds := [(behindF c t x).d]) (wa98 _ (InU.tokV hR huV)) rfl rfl ?_
  conv=>whnf
  have hcn : codT (behindF c t x) = ((codN (behindF c t x) : Nat) : Int) := by unfold codN; omega
  refine elemK_i [i64 (KN.atI W.w.ix (codN (behindF c t x)))] ⟨hcod.1, intsD_get (l := W.w.ix) (k := codN (behindF c t x)) (by omega)⟩ ?_
  rw [hq1]
  conv=>whnf
  refine arith_to (q : Int) (by omega) (wrap_i64 (by omega)) ?_
  conv=>whnf
  refine elemK_i [i64 (KN.atI W.H q)] ⟨by omega, intsD_get (l := W.H) (k := q) (by omega)⟩ ?_
  conv=>whnf
  refine brk_i (fun h1 => ?_) (fun h1 => ?_)
  ·have h1 := hq3.1 (of_decide_eq_true h1)
   rw [if_pos h1] at he
   conv=>whnf
   refine elemK_nat hx ?_
   conv=>whnf
   refine ownK_whole rfl ?_
   conv=>whnf
   refine ownK_whole (by simp [Els.len]) ?_
   conv=>whnf
   refine chk_i (decide_eq_true (by
    show ((acc.map fun r => [intsD r]).length + 1) * 24 ≤ 140737488355328
    rw [List.length_map]; omega)) ?_
   conv=>whnf
   refine arith_in (wrap_i64 (by (try dsimp only); omega)) ?_
   conv=>whnf
   refine ⟨acc ++ [x], ⟨by simp; omega, by rw [he]; simp⟩, Wk.sub ⟨rfl, rfl, rfl, rfl, ?_, rfl, trivial⟩ ⟨rfl, rfl, rfl, ?_, trivial⟩⟩
   ·show some (V.sl 45 1 0 ((acc.map fun r => [intsD r]).length + 1)) = _
    simp
   ·show some (Obj.arr 1 (Els.dd ((acc.map fun r => [intsD r]) ++ [[intsD x]]))) = _
    simp
  ·have h1 : ¬ (endB c (allMen c) (behindF c t x) = true) := fun h => (of_decide_eq_false h1) (hq3.2 h)
   rw [if_neg h1] at he
   conv=>whnf
   refine arith_in (wrap_i64 (by (try dsimp only); omega)) ?_
   conv=>whnf
   exact ⟨acc, ⟨by omega, he⟩, (Wk.sub (by repeat' first|exact trivial|refine⟨?_,?_⟩|rfl|(simp only[List.length_map];rfl)|simp[PX.get]) (by repeat' first|exact trivial|refine⟨?_,?_⟩|rfl|(simp only[List.length_map];rfl)|simp[PX.get]))⟩
 ·rintro acc ⟨hal, he⟩
  rw [List.filter_nil, List.append_nil] at he
  subst he
  conv=>whnf
  refine brk_i (fun h => absurd h (by simp)) (fun _ => ?_)
  conv=>whnf
  refine RetA_view 1 (ds := [rotaD M]) ?_ ⟨⟨rfl, rfl⟩, rfl⟩
  exact viewL_cons (viewV_sl (es := M.map fun r => [intsD r]) rfl (by simp)) rfl
theorem others_len {c : WCase} (hR : WR c) (but : Int) : (othersR c but).length ≤ 5 := by
 unfold othersR
 rw [List.length_map]
 exact Nat.le_trans (List.length_filter_le _ _) (by rw [List.length_range]; exact hR.men.2)
theorem wa75 (c : WCase) (hR : WR c) (men : List Int) (hmen : men.length ≤ 5) {set : Int} (hs : SameSet c men set) (W : WebR c men) (hW : W.d = webD c men) : FnV Try.prog 75 [c.d, intsD men] W.d := by
 rw [hW]
 exact fun {σ} => wa75_a c hR men hmen ⟨set, hs⟩
theorem zero_height {c : WCase} (hR : WR c) {men : List Int} {set : Int} (hs : SameSet c men set) (W : WebR c men) : (KN.atI W.H 0 < 0 ↔ endB c set .zero = true) ∧ 0 < W.H.length := by
 refine ⟨W.neg hR hs W.zero, ?_⟩
 rw [W.kahn.hH]
 exact (List.getElem?_eq_some_iff.1 W.zero).1
theorem wa82 (c : WCase) (hR : WR c) (men : List Int) (hmen : men.length ≤ 5) {set : Int} (hs : SameSet c men set) : FnV Try.prog 82 [c.d, intsD men] (.bool (endB c set .zero)) := by
 refine fnV_of mixed tysOk Try.func82 rfl (ft := ft82) 2 (by decide +kernel) (by rfl) fun {σ} Y st => ?_
 conv=>whnf
 obtain ⟨W, hW⟩ := webR_ex hR hs
 obtain ⟨h1, h2⟩ := zero_height hR hs W
 refine CallA_v (ds := [c.d, intsD men]) (wa75 c hR men hmen hs W hW) rfl rfl ?_
 conv=>whnf
 refine elemK_i [i64 (KN.atI W.H 0)] ⟨by omega, intsD_get (l := W.H) (k := 0) h2⟩ ?_
 conv=>whnf
 have e : decide (KN.atI W.H 0 < 0) = endB c set .zero := by
  rw [Bool.eq_iff_iff, decide_eq_true_iff]
  exact h1
 rw [← e]
 exact RetA_view 0 rfl ⟨⟨rfl, rfl⟩, rfl⟩
theorem wa81 (c : WCase) : FnV Try.prog 81 [c.d] (i64 (if entE c [] = 0 then (if endB c (allMen c) .zero = true then 0 else 9) else entE c [])) := by
 refine fnV_of mixed tysOk Try.func81 rfl (ft := ft81) 1 (by decide +kernel) (by rfl) fun {σ} Y st => ?_
 conv=>whnf
 refine CallA_v (wa16 c) rfl rfl ?_
 conv=>whnf
 rw [← ent_nil]
 by_cases h0 : entE c [] = 0
 ·obtain ⟨hR, _, _⟩ := ent_ok h0
  rw [if_pos h0]
  rw [h0]
  conv=>whnf
  refine DrawCall_v (ds := [c.d, i64 (-1)]) (wa50 c hR.men.2 (-1)) rfl rfl ?_
  conv=>whnf
  refine DrawCall_v (ds := [c.d, intsD (othersR c (-1))]) (wa82 c hR _ (others_len hR _) (othersR_set hR)) rfl rfl ?_
  conv=>whnf
  cases he : endB c (allMen c) .zero with
  | true =>
   conv=>whnf
   exact RetA_view 0 rfl ⟨⟨rfl, rfl⟩, rfl⟩
  | false =>
   conv=>whnf
   exact RetA_view 0 rfl ⟨⟨rfl, rfl⟩, rfl⟩
 ·rw [if_neg h0]
  conv=>whnf
  refine brk_i (fun h1 => absurd (of_decide_eq_true h1) h0) (fun _ => ?_)
  conv=>whnf
  exact RetA_view 0 rfl ⟨⟨rfl, rfl⟩, rfl⟩
theorem wa29 (c : WCase) : FnV Try.prog 29 [c.d] (.tup [i64 (if entE c [] = 0 then lonW c else 0), i64 (entE c [])]) := by
 refine fnV_of mixed tysOk Try.func29 rfl (ft := ft29) 1 (by decide +kernel) (by rfl) fun {σ} Y st => ?_
 conv=>whnf
 refine CallA_v (wa16 c) rfl rfl ?_
 conv=>whnf
 rw [← ent_nil]
 by_cases h0 : entE c [] = 0
 ·obtain ⟨hR, _, _⟩ := ent_ok h0
  rw [if_pos h0]
  rw [h0]
  obtain ⟨W, hW⟩ := webR_ex hR (othersR_set hR)
  have hlen := (zero_height hR (othersR_set hR) W).2
  have hlon : lonW c = KN.atI W.H 0 := by
   rcases W.height hR (othersR_set hR) W.zero with ⟨h1, h2⟩ | ⟨h1, h2⟩
   ·rw [lon_dead hR h1, h2]
   ·rw [h2, (lon_bd hR).2.2.2 h1]
  rw [hlon]
  conv=>whnf
  refine DrawCall_v (ds := [c.d, i64 (-1)]) (wa50 c hR.men.2 (-1)) rfl rfl ?_
  conv=>whnf
  refine DrawCall_v (ds := [c.d, intsD (othersR c (-1))]) (wa75 c hR _ (others_len hR _) (othersR_set hR) W hW) rfl rfl ?_
  conv=>whnf
  refine elemK_i [i64 (KN.atI W.H 0)] ⟨by omega, intsD_get (l := W.H) (k := 0) hlen⟩ ?_
  conv=>whnf
  exact RetA_view 0 rfl ⟨⟨rfl, rfl⟩, rfl⟩
 ·rw [if_neg h0]
  conv=>whnf
  refine brk_i (fun _ => ?_) (fun h1 => absurd h1 (by simp [h0]))
  conv=>whnf
  exact RetA_view 0 rfl ⟨⟨rfl, rfl⟩, rfl⟩
end Go.PX
namespace Go.PX
open Go.Proofs
theorem on_first {c : WCase} (hR : WR c) {t : Tired} (ht : InU c t) {g : List Int} {u : Tired} (h : firstF c t = some (g, u)) : ∃ r, onL c t = g :: r := by
 have e : onL c t = ((groupsF c (allMen c) t).filter fun p => endB c (allMen c) p.2).map (·.1) := by
  unfold onL
  rw [canS_eq hR (othersR_set hR) ht, List.filter_map]
  congr 1
  refine List.filter_congr fun p hp => ?_
  show endB c (allMen c) (behindF c t p.1) = endB c (allMen c) p.2
  rw [(groupsL_ok hp).2]
 unfold firstF at h
 rw [← List.head?_filter] at h
 rw [e]
 cases hl : (groupsF c (allMen c) t).filter fun p => endB c (allMen c) p.2 with
 | nil => rw [hl] at h; cases h
 | cons a r =>
  rw [hl] at h
  have h : a = (g, u) := by simpa using h
  subst h
  exact ⟨r.map (·.1), rfl⟩
structure SeenOk (c : WCase) (S : Kn) (states : List Tired) : Prop where
 at' : ∀ (i : Nat) u, states[i]? = some u → getK S u = some (i : Int)
 no : ∀ u, u ∉ states → getK S u = none
def goOn (c : WCase) (m : Nat) (S : Kn) (rota : List (List Int)) (t : Tired) : List (List Int) × Int := match firstF c t with
 | some p => endlF c m S (rota ++ [p.1]) p.2
 | none => ([], 0)
theorem goOn_eq (c : WCase) (n : Nat) : endlF c (n + 1) [] [] .zero = goOn c n (putK [] .zero 0) [] .zero := by
 rw [endlF]; rfl
theorem wa31 (c : WCase) : FnV Try.prog 31 [c.d] (.tup [if entE c [] = 0 ∧ endB c (allMen c) .zero = true then rotaD (endlW c).1 else .nils, i64 (if entE c [] = 0 ∧ endB c (allMen c) .zero = true then (endlW c).2 else 0), i64 (if entE c [] = 0 then (if endB c (allMen c) .zero = true then 0 else 9) else entE c [])]) := by
 refine fnV_of mixed tysOk Try.func31 rfl (ft := ft31) 1 (by decide +kernel) (by rfl) fun {σ} Y st => ?_
 conv=>whnf
 refine CallA_v (wa16 c) rfl rfl ?_
 conv=>whnf
 rw [← ent_nil]
 by_cases h0 : entE c [] = 0
 ·obtain ⟨hR, _, _⟩ := ent_ok h0
  rw [h0]
  simp only [if_true, true_and]
  obtain ⟨W, hW⟩ := webR_ex hR (othersR_set hR)
  obtain ⟨hz1, hz2⟩ := zero_height hR (othersR_set hR) W
  conv=>whnf
  refine DrawCall_v (ds := [c.d, i64 (-1)]) (wa50 c hR.men.2 (-1)) rfl rfl ?_
  conv=>whnf
  refine DrawCall_v (ds := [c.d, intsD (othersR c (-1))]) (wa75 c hR _ (others_len hR _) (othersR_set hR) W hW) rfl rfl ?_
  conv=>whnf
  refine elemK_i [i64 (KN.atI W.H 0)] ⟨by omega, intsD_get (l := W.H) (k := 0) hz2⟩ ?_
  conv=>whnf
  refine brk_i (fun h1 => ?_) (fun h1 => ?_)
  ·have h1 : 0 ≤ KN.atI W.H 0 := of_decide_eq_true h1
   have hf : endB c (allMen c) .zero = false := by
    cases hb : endB c (allMen c) .zero with
    | false => rfl
    | true => have := hz1.2 hb; omega
   rw [hf]
   conv=>whnf
   exact RetA_view 0 rfl ⟨⟨rfl, rfl⟩, rfl⟩
  ·have h1 : ¬ 0 ≤ KN.atI W.H 0 := of_decide_eq_false h1
   have ha : endB c (allMen c) .zero = true := hz1.1 (by omega)
   rw [ha]
   simp only [if_true]
   conv=>whnf
   unfold endlW
   generalize hres : endlF c (fuelW + 1) [] [] .zero = res
   refine LoopA_p (T := tys) tysOk (by exact drawsB_spec mixed tysOk (by decide +kernel)) (α := List Tired × List (List Int) × Kn × Tired) (fun x => ⟨[(1, .ptr 1 0), (8, .ptr 8 0), (9, .sl 900000 6 0 x.1.length), (10, .sl 50 1 0 x.2.1.length)], [(1, .box (.dd c.cells)), (8, .box (.dd [intsD W.w.ix, statesD W.w.sts, rotaD (rowsI W.b), intsD W.H])), (900000, .arr 6 (.dd (statesC x.1))), (50, .arr 1 (.dd (x.2.1.map fun r => [intsD r])))], st⟩)
    (fun x => (∃ l, x.1 = l ++ [x.2.2.2]) ∧ x.1.length = x.2.1.length + 1 ∧ SeenOk c x.2.2.1 x.1 ∧ x.2.2.2 ∈ W.w.sts ∧ endB c (allMen c) x.2.2.2 = true ∧ x.2.1.length + 1 + cntN c x.2.2.1 ≤ fuelW ∧ ∃ m, cntN c x.2.2.1 < m ∧ goOn c m x.2.2.1 x.2.1 x.2.2.2 = res) (fun x => cntN c x.2.2.1) ([.zero], [], putK [] .zero 0, .zero)
    ((Wk.born 10 50 1 rfl rfl rfl).trans ((Wk.move 34 900000 rfl rfl).trans (Wk.sub (by repeat' first|exact trivial|refine⟨?_,?_⟩|rfl|(simp only[List.length_map];rfl)|simp[PX.get]) (by repeat' first|exact trivial|refine⟨?_,?_⟩|rfl|(simp only[List.length_map];rfl)|simp[PX.get])))) ⟨⟨[], rfl⟩, rfl, ?seen, List.mem_of_getElem? W.zero, ha, ?few, fuelW, ?fu, ?re⟩ ?_
   case seen =>
    refine ⟨fun i u hi => ?_, fun u hu => ?_⟩
    ·rw [get_put_kn]
     cases i with
     | zero => simp at hi; rw [if_pos hi.symm]; rfl
     | succ i => simp at hi
    ·rw [get_put_kn, if_neg (fun e => hu (by simp [e]))]; rfl
   case few =>
    have h2 : cntN c [] ≤ (univ c).length := List.length_filter_le ..
    have h3 := cntN_put (c := c) (kn := []) (InU.zero hR) rfl 0
    have := univ_fuel hR
    simp only [List.length_nil]; omega
   case fu =>
    have h2 : cntN c [] ≤ (univ c).length := List.length_filter_le ..
    have h3 := cntN_put (c := c) (kn := []) (InU.zero hR) rfl 0
    have := univ_fuel hR
    simp only; omega
   case re => exact (goOn_eq c fuelW).symm.trans hres
   rintro ⟨sts, rota, S, t⟩ ⟨⟨l0, hl0⟩, hlen, hS, ht, hat, hfu, m, hm, hr⟩
   simp only at hl0 hlen hS ht hat hfu hm hr
   have htV := W.done.ok.inU t ht
   obtain ⟨⟨g, u⟩, hf⟩ := first_some hR htV.u hat
   obtain ⟨r0, hon⟩ := on_first hR htV.u hf
   have hp0 : (g, u) ∈ groupsF c (allMen c) t := List.mem_of_find?_eq_some hf
   have ha0 : endB c (allMen c) u = true := by have := List.find?_some hf; exact this
   have hgl := groups_len hR hp0
   have hub : behindF c t g = u := (groupsL_ok hp0).2.symm
   unfold goOn at hr
   rw [hf] at hr
   simp only at hr hgl
   obtain ⟨m', rfl⟩ : ∃ m', m = m' + 1 := ⟨m - 1, by omega⟩
   rw [endlF] at hr
   have hgm : g ∈ canS c (othersR c (-1)) t := by
    have : g ∈ onL c t := by rw [hon]; simp
    exact (List.mem_filter.1 this).1
   obtain ⟨hu, _⟩ := W.step hR ht hgm
   rw [hub] at hu
   have huV := W.done.ok.inU u hu
   have hl1 : sts.length = l0.length + 1 := by rw [hl0]; simp
   have hfW : fuelW = 46656 := rfl
   have hlast : sts[l0.length]? = some t := by rw [hl0]; simp
   conv=>whnf
   refine arith_to ((l0.length : Nat) : Int) (by show ((sts.length : Nat) : Int) - 1 = _; omega) (wrap_i64 (by omega)) ?_
   conv=>whnf
   refine brk_i (fun _ => ?_) (fun h => absurd h (by
    show ¬ ((decide (0 ≤ (l0.length : Int)) && decide ((l0.length : Int) < (sts.length : Nat))) = false)
    simp; omega))
   conv=>whnf
   refine cellK_i t.cells (statesC_get hlast) ?_
   conv=>whnf
   refine CallA_v (ds := [c.d, W.d, t.d]) (wa74 c hR W t ht) rfl rfl ?_
   rw [hon]
   conv=>whnf
   refine ownK_whole rfl ?_
   conv=>whnf
   refine ownK_whole (by simp [Els.len]) ?_
   conv=>whnf
   refine chk_i (decide_eq_true (by
    show ((rota.map fun r => [intsD r]).length + 1) * 24 ≤ 140737488355328
    rw [List.length_map]; omega)) ?_
   conv=>whnf
   refine CallA_v (ds := [c.d, t.d, intsD g]) (wa78 c hR t (InU.tokV hR htV) htV.z g (by omega)) rfl rfl ?_
   rw [hub]
   conv=>whnf
   refine LoopA_i (T := tys) tysOk (by exact drawsB_spec mixed tysOk (by decide +kernel)) sts (fun i (_ : Unit) => ⟨[(1, .ptr 1 0), (8, .ptr 8 0), (9, .sl 900000 6 0 sts.length), (10, .sl 50 1 0 (rota.length + 1)), (13, .ptr 13 0), (14, .d (i64 i))], [(1, .box (.dd c.cells)), (8, .box (.dd [intsD W.w.ix, statesD W.w.sts, rotaD (rowsI W.b), intsD W.H])), (900000, .arr 6 (.dd (statesC sts))), (50, .arr 1 (.dd ((rota ++ [g]).map fun r => [intsD r]))), (13, .box (.dd u.cells))], st⟩)
    (fun i r _ => ∀ j, j < i → sts[j]? ≠ some u) () ?wk2 (fun j hj => absurd hj (Nat.not_lt_zero j)) ?_ ?_
   case wk2 =>
    refine Wk.sub ⟨rfl, rfl, rfl, ?_, rfl, rfl, trivial⟩ ⟨rfl, rfl, rfl, ?_, rfl, trivial⟩
    ·show some (V.sl 50 1 0 ((rota.map fun r => [intsD r]).length + 1)) = _
     simp
    ·show some (Obj.arr 1 (Els.dd ((rota.map fun r => [intsD r]) ++ [[intsD g]]))) = _
     simp
   ·rintro i s r _ hs hi hr2 hno
    conv=>whnf
    refine brk_i (fun _ => ?_) (fun h => absurd hi (by have := of_decide_eq_false h; simp at this; omega))
    conv=>whnf
    refine brk_i (fun _ => ?_) (fun h => absurd h (by simp; omega))
    conv=>whnf
    refine cellK_i s.cells (statesC_get hs) ?_
    conv=>whnf
    refine brk_i (fun h1 => ?_) (fun h1 => ?_)
    ·have h1 : s = u := by
      cases s; cases u
      simp only [Bool.and_eq_true, decide_eq_true_eq] at h1
      obtain ⟨a0, ⟨a1, a2, a3, a4, a5, _⟩, _⟩ := h1
      rw [a0, a1, a2, a3, a4, a5]
     subst h1
     rw [hS.at' i s hs] at hr
     simp only at hr
     rw [← hr]
     conv=>whnf
     refine RetA_view 1 (ds := [rotaD (rota ++ [g]), i64 (i : Nat), i64 0]) ?_ ⟨⟨rfl, rfl⟩, rfl⟩
     exact viewL_cons (viewV_sl (es := (rota ++ [g]).map fun r => [intsD r]) rfl (by simp)) rfl
    ·have h1 : s ≠ u := by
      rintro rfl
      simp at h1
     conv=>whnf
     refine arith_in (wrap_i64 (by (try dsimp only); omega)) ?_
     conv=>whnf
     refine ⟨(), fun j hj => ?_, (Wk.sub ⟨rfl, rfl, rfl, rfl, rfl, rfl, trivial⟩ ⟨rfl, rfl, rfl, rfl, rfl, trivial⟩)⟩
     by_cases hji : j < i
     ·exact hno j hji
     ·have : j = i := by omega
      subst this
      rw [hs]
      exact fun e => h1 (Option.some.inj e)
   ·rintro _ hno
    conv=>whnf
    refine brk_i (fun h => absurd h (by simp)) (fun _ => ?_)
    conv=>whnf
    have hnu : u ∉ sts := fun hm => by
     obtain ⟨j, hj⟩ := List.getElem?_of_mem hm
     exact hno j (List.getElem?_eq_some_iff.1 hj).1 hj
    have hSu := hS.no u hnu
    have hcn := cntN_put (c := c) (kn := S) huV.u hSu (rota ++ [g]).length
    rw [hSu] at hr
    refine ownK_whole rfl ?_
    conv=>whnf
    refine ownK_whole (by simp [Els.len, statesC]) ?_
    conv=>whnf
    refine chk_i (decide_eq_true (by
     show ((statesC sts).length + 1) * 48 ≤ 140737488355328
     simp [statesC]; omega)) ?_
    conv=>whnf
    refine ⟨(sts ++ [u], rota ++ [g], putK S u (rota ++ [g]).length, u), hcn, ⟨⟨sts, rfl⟩, by simp [hlen], ⟨fun i v hi => ?_, fun v hv => ?_⟩, hu, ha0, by simp only [List.length_append, List.length_singleton] at hcn ⊢; omega, m', by simp only; omega, hr⟩, (Wk.move 72 900000 rfl rfl).trans (Wk.sub ⟨rfl, rfl, ?_, ?_, trivial⟩ ⟨rfl, rfl, ?_, rfl, trivial⟩)⟩
    ·simp only at hi
     rw [get_put_kn]
     by_cases hil : i < sts.length
     ·rw [List.getElem?_append_left hil] at hi
      have hvm := List.mem_of_getElem? hi
      rw [if_neg (fun e => hnu (by rw [← e]; exact hvm))]
      exact hS.at' i v hi
     ·have : i = sts.length := by
       have := (List.getElem?_eq_some_iff.1 hi).1
       simp at this; omega
      subst this
      rw [List.getElem?_append_right (Nat.le_refl _), Nat.sub_self] at hi
      have hi : u = v := by simpa using hi
      rw [if_pos hi.symm, hlen]; simp
    ·simp only at hv
     rw [get_put_kn, if_neg (fun e => hv (by simp [e]))]
     exact hS.no v fun hm => hv (by simp [hm])
    ·show some (V.sl 900000 6 0 ((statesC sts).length + 1)) = some (V.sl 900000 6 0 (sts ++ [u]).length)
     simp [statesC]
    ·show some (V.sl 50 1 0 (rota.length + 1)) = some (V.sl 50 1 0 (rota ++ [g]).length)
     simp
    ·show some (Obj.arr 6 (Els.dd (statesC sts ++ [u.cells]))) = some (Obj.arr 6 (Els.dd (statesC (sts ++ [u]))))
     simp [statesC]
 ·rw [if_neg h0]
  simp only [h0, false_and, if_false]
  conv=>whnf
  exact RetA_view 0 rfl ⟨⟨rfl, rfl⟩, rfl⟩
end Go.PX
namespace Go.PX
open Go.Proofs
end Go.PX
namespace Go.PX
open Go.Proofs
end Go.PX
namespace Go.PX
open Go.Proofs
end Go.PX
namespace Go.PX
open Go.Proofs
end Go.PX
namespace Go.PX
open Go.Proofs
end Go.PX
namespace Go.PX
open Go.Proofs
end Go.PX
namespace Go.PX
open Go.Proofs
end Go.PX
namespace Go.PX
open Go.Proofs
theorem best_fold {w : Int → Bool} {all : List Int} (hall : ∀ x ∈ all, 0 ≤ x) : ∀ (l done : List Int) (best : Int), (∀ x ∈ l, x ∈ all) → ((best = -1 ∧ ∀ x ∈ done, w x = false) ∨ (best ∈ all ∧ w best = true ∧ ∀ x ∈ done, w x = true → popC best ≤ popC x)) →
  ((l.foldl (bestF w) best = -1 ∧ ∀ x ∈ done ++ l, w x = false) ∨ (l.foldl (bestF w) best ∈ all ∧ w (l.foldl (bestF w) best) = true ∧ ∀ x ∈ done ++ l, w x = true → popC (l.foldl (bestF w) best) ≤ popC x))
 | [], done, best, _, h => by simpa using h
 | y :: r, done, best, hl, h => by
  rw [List.foldl_cons]
  have hs : done ++ y :: r = (done ++ [y]) ++ r := by simp
  rw [hs]
  refine best_fold hall r (done ++ [y]) _ (fun x hx => hl x (by simp [hx])) ?_
  have hy := hl y (by simp)
  unfold bestF
  split
  ·rename_i h1
   rw [Bool.and_eq_true] at h1
   refine .inr ⟨hy, h1.2, fun x hx hw => ?_⟩
   rcases List.mem_append.1 hx with hx | hx
   ·rcases h with ⟨_, h3⟩ | ⟨h2, _, h3⟩
    ·rw [h3 x hx] at hw; cases hw
    ·have h4 := h3 x hx hw
     have h5 := h1.1
     have h6 := hall best h2
     unfold beforeB at h5
     simp only [Bool.or_eq_true, Bool.and_eq_true, decide_eq_true_eq] at h5
     omega
   ·rw [List.mem_singleton] at hx
    subst hx; exact Int.le_refl _
  ·rename_i h1
   rcases h with ⟨h2, h3⟩ | ⟨h2, h4, h3⟩
   ·refine .inl ⟨h2, fun x hx => ?_⟩
    rcases List.mem_append.1 hx with hx | hx
    ·exact h3 x hx
    ·rw [List.mem_singleton] at hx
     subst hx
     subst h2
     cases hw : w x with
     | false => rfl
     | true =>
      rw [hw] at h1
      exact absurd rfl h1
   ·refine .inr ⟨h2, h4, fun x hx hw => ?_⟩
    rcases List.mem_append.1 hx with hx | hx
    ·exact h3 x hx hw
    ·rw [List.mem_singleton] at hx
     subst hx
     rw [hw, Bool.and_true] at h1
     unfold beforeB at h1
     simp only [Bool.or_eq_true, Bool.and_eq_true, decide_eq_true_eq, not_or] at h1
     omega
theorem sets_pos {many : Nat} : ∀ x ∈ setsL many, 1 ≤ x ∧ x < 2 ^ many := by
 intro x hx
 obtain ⟨i, hi, rfl⟩ := List.mem_map.1 hx
 rw [List.mem_range'_1] at hi
 have h1 : 1 ≤ (2 : Nat) ^ many := Nat.one_le_two_pow
 have h2 : ((2 : Int) ^ many) = ((2 ^ many : Nat) : Int) := by simp
 omega
theorem sets_mem {many : Nat} {x : Int} (h : 1 ≤ x ∧ x < 2 ^ many) : x ∈ setsL many := by
 have h2 : ((2 : Int) ^ many) = ((2 ^ many : Nat) : Int) := by simp
 exact List.mem_map.2 ⟨x.toNat, by rw [List.mem_range'_1]; omega, by omega⟩
theorem first_law (w : Int → Bool) (many : Nat) : (firstS w many = -1 ∧ ∀ x ∈ setsL many, w x = false) ∨ (firstS w many ∈ setsL many ∧ w (firstS w many) = true ∧ ∀ x ∈ setsL many, w x = true → popC (firstS w many) ≤ popC x) := by
 have := best_fold (w := w) (all := setsL many) (fun x hx => by have := sets_pos x hx; omega) (setsL many) [] (-1) (fun x hx => hx) (.inl ⟨rfl, fun x hx => by cases hx⟩)
 simpa [firstS] using this
end Go.PX
namespace Go.PX
open Go.Proofs
end Go.PX
namespace Go.PX
open Go.Proofs
theorem set_mono {c : WCase} (hR : WR c) {S S' : Int} (h : ∀ m : Int, 0 ≤ m ∧ m < c.men.length → inSet S m = true → inSet S' m = true) (ha : endB c S .zero = true) : endB c S' .zero = true := by
 have hs : SameRows c c S S' (fun t t' => t = t') := by
  intro t t' g hr hga hw
  subst hr
  have hin := asc_in hga
  obtain ⟨h1, h2, h3, h4, h5⟩ := why_zero hw
  exact ⟨hga, why_of h1 h2 (fun m hm => ⟨h m (hin m hm) (h3 m hm).1, (h3 m hm).2⟩) h4 h5, rfl⟩
 exact (endB_iff hR (InU.zero hR)).2 (sim_alive _ hs.succ rfl ((endB_iff hR (InU.zero hR)).1 ha))
theorem need_len (c : WCase) : (needL c).length ≤ c.men.length := by
 unfold needL
 rw [List.length_map]
 have := List.length_filter_le (fun (i : Nat) => !endB c (butSet c i) .zero) (List.range c.men.length)
 rw [List.length_range] at this
 exact this
end Go.PX
namespace Go.PX
open Go.Proofs
def setOf (l : List Int) : Int := l.foldl (fun s m => s + 2 ^ m.toNat) 0
def sizeL (n : Nat) : List (List Int) := (List.range' 1 n).flatMap fun k => listsF n k []
def ordB (n : Nat) : Bool :=
 let S := (sizeL n).map setOf
 ((List.range S.length).all fun i => (List.range S.length).all fun j => beforeB (S.getD i 0) (S.getD j 0) == decide (i < j)) && (S.all fun s => (setsL n).contains s) && ((setsL n).all fun s => S.contains s) &&
  (sizeL n).all fun l => (menOf (setOf l) n == l) && !l.isEmpty && (List.range n).all fun m => inSet (setOf l) m == decide ((m : Int) ∈ l)
theorem ord_all : (List.range 6).all ordB = true := by decide +kernel
structure OrdOk (n : Nat) : Prop where
 bef : ∀ (i j : Nat) a b, ((sizeL n).map setOf)[i]? = some a → ((sizeL n).map setOf)[j]? = some b → (beforeB a b = true ↔ i < j)
 sub : ∀ s, s ∈ (sizeL n).map setOf ↔ s ∈ setsL n
 men : ∀ l ∈ sizeL n, menOf (setOf l) n = l
 ne : ∀ l ∈ sizeL n, l ≠ []
 set : ∀ l ∈ sizeL n, ∀ m : Nat, m < n → (inSet (setOf l) m = true ↔ (m : Int) ∈ l)
theorem ord_ok {n : Nat} (hn : n ≤ 5) : OrdOk n := by
 have h := List.all_eq_true.1 ord_all n (List.mem_range.2 (by omega))
 unfold ordB at h
 simp only [Bool.and_eq_true] at h
 obtain ⟨⟨⟨h1, h2⟩, h3⟩, h4⟩ := h
 refine ⟨fun i j a b hi hj => ?_, fun s => ⟨fun hs => ?_, fun hs => ?_⟩, fun l hl => ?_, fun l hl => ?_, fun l hl m hm => ?_⟩
 ·have hil := (List.getElem?_eq_some_iff.1 hi).1
  have hjl := (List.getElem?_eq_some_iff.1 hj).1
  have h := List.all_eq_true.1 (List.all_eq_true.1 h1 i (List.mem_range.2 hil)) j (List.mem_range.2 hjl)
  rw [List.getD_eq_getElem?_getD, List.getD_eq_getElem?_getD, hi, hj] at h
  have h : beforeB a b = decide (i < j) := by simpa using h
  rw [h, decide_eq_true_iff]
 ·simpa using List.all_eq_true.1 h2 s hs
 ·simpa using List.all_eq_true.1 h3 s hs
 ·have h := List.all_eq_true.1 h4 l hl
  simp only [Bool.and_eq_true] at h
  exact by simpa using h.1.1
 ·have h := List.all_eq_true.1 h4 l hl
  simp only [Bool.and_eq_true] at h
  have := h.1.2
  rintro rfl
  simp at this
 ·have h := List.all_eq_true.1 h4 l hl
  simp only [Bool.and_eq_true] at h
  have h := List.all_eq_true.1 h.2 m (List.mem_range.2 hm)
  have h : inSet (setOf l) m = decide ((m : Int) ∈ l) := by simpa using h
  rw [h, decide_eq_true_iff]
theorem best_min {w : Int → Bool} {S : List Int} (hS : ∀ (i j : Nat) a b, S[i]? = some a → S[j]? = some b → (beforeB a b = true ↔ i < j)) : ∀ (l done : List Int) (best : Int), (∀ x ∈ l, x ∈ S) →
  ((best = -1 ∧ ∀ x ∈ done, w x = false) ∨ ∃ i, S[i]? = some best ∧ w best = true ∧ ∀ (j : Nat) x, S[j]? = some x → x ∈ done → w x = true → i ≤ j) →
  ((l.foldl (bestF w) best = -1 ∧ ∀ x ∈ done ++ l, w x = false) ∨ ∃ i, S[i]? = some (l.foldl (bestF w) best) ∧ w (l.foldl (bestF w) best) = true ∧ ∀ (j : Nat) x, S[j]? = some x → x ∈ done ++ l → w x = true → i ≤ j)
 | [], done, best, _, h => by simpa using h
 | y :: r, done, best, hl, h => by
  rw [List.foldl_cons, show done ++ y :: r = (done ++ [y]) ++ r by simp]
  refine best_min hS r (done ++ [y]) _ (fun x hx => hl x (by simp [hx])) ?_
  obtain ⟨k, hk⟩ := List.getElem?_of_mem (hl y (by simp))
  have hself : ∀ j, S[j]? = some y → j = k := by
   intro j hj
   have h1 := hS j k y y hj hk
   have h2 := hS k j y y hk hj
   have h3 := hS k k y y hk hk
   have h4 : ¬ (beforeB y y = true) := fun h => by have := h3.1 h; omega
   have h5 : ¬ j < k := fun h => h4 (h1.2 h)
   have h6 : ¬ k < j := fun h => h4 (h2.2 h)
   omega
  unfold bestF
  rcases h with ⟨rfl, h⟩ | ⟨i, h1, h2, h3⟩
  ·have hb : beforeB y (-1) = true := by unfold beforeB; simp
   rw [hb, Bool.true_and]
   split
   ·rename_i hw
    refine .inr ⟨k, hk, hw, fun j x hj hx hwx => ?_⟩
    rcases List.mem_append.1 hx with hx | hx
    ·rw [h x hx] at hwx; cases hwx
    ·rw [List.mem_singleton] at hx
     subst hx
     rw [hself j hj]; exact Nat.le_refl _
   ·rename_i hw
    refine .inl ⟨rfl, fun x hx => ?_⟩
    rcases List.mem_append.1 hx with hx | hx
    ·exact h x hx
    ·rw [List.mem_singleton] at hx
     subst hx
     simpa using hw
  ·split
   ·rename_i hw
    rw [Bool.and_eq_true] at hw
    have hki := (hS k i y best hk h1).1 hw.1
    refine .inr ⟨k, hk, hw.2, fun j x hj hx hwx => ?_⟩
    rcases List.mem_append.1 hx with hx | hx
    ·have := h3 j x hj hx hwx
     omega
    ·rw [List.mem_singleton] at hx
     subst hx
     rw [hself j hj]; exact Nat.le_refl _
   ·rename_i hw
    refine .inr ⟨i, h1, h2, fun j x hj hx hwx => ?_⟩
    rcases List.mem_append.1 hx with hx | hx
    ·exact h3 j x hj hx hwx
    ·rw [List.mem_singleton] at hx
     subst hx
     rw [hwx, Bool.and_true] at hw
     have h4 := hS j i x best hj h1
     have : ¬ j < i := fun h => hw (h4.2 h)
     omega
theorem few_ref {n : Nat} (hn : n ≤ 5) (w : Int → Bool) {pre post : List (List Int)} {l : List Int} (he : sizeL n = pre ++ l :: post) (hp : ∀ x ∈ pre, w (setOf x) = false) (hl : w (setOf l) = true) : menOf (firstS w n) n = l ∧ l ≠ [] := by
 have hO := ord_ok hn
 have hlm : l ∈ sizeL n := by rw [he]; simp
 have hix : ((sizeL n).map setOf)[pre.length]? = some (setOf l) := by rw [he]; simp
 rcases best_min (w := w) hO.bef (setsL n) [] (-1) (fun x hx => (hO.sub x).2 hx) (.inl ⟨rfl, fun x hx => by cases hx⟩) with ⟨_, h2⟩ | ⟨i, h1, h2, h3⟩
 ·have := h2 (setOf l) (by rw [List.nil_append]; exact (hO.sub _).1 (List.mem_map_of_mem hlm))
  rw [hl] at this; cases this
 ·have hle := h3 pre.length (setOf l) hix (by rw [List.nil_append]; exact (hO.sub _).1 (List.mem_map_of_mem hlm)) hl
  have hge : ¬ i < pre.length := by
   intro hlt
   rw [he, List.map_append, List.getElem?_append_left (by simpa using hlt), List.getElem?_map] at h1
   cases hx : pre[i]? with
   | none => rw [hx] at h1; cases h1
   | some x =>
    rw [hx] at h1
    have h1 : setOf x = firstS w n := Option.some.inj h1
    have := hp x (List.mem_of_getElem? hx)
    rw [h1] at this
    have h2 : w (firstS w n) = true := h2
    rw [h2] at this; cases this
  have : i = pre.length := by omega
  subst this
  rw [hix] at h1
  have h1 : setOf l = firstS w n := Option.some.inj h1
  rw [← h1]
  exact ⟨hO.men l hlm, hO.ne l hlm⟩
theorem size_split {n many : Nat} (h1 : 1 ≤ many) (h2 : many ≤ n) : sizeL n = ((List.range' 1 (many - 1)).flatMap fun k => listsF n k []) ++ (listsF n many [] ++ (List.range' (many + 1) (n - many)).flatMap fun k => listsF n k []) := by
 have e : List.range' 1 n = List.range' 1 (many - 1) ++ (many :: List.range' (many + 1) (n - many)) := by
  rw [← List.range'_succ, show n - many + 1 = n - (many - 1) by omega]
  have := List.range'_append (s := 1) (m := many - 1) (n := n - (many - 1)) (step := 1)
  rw [show 1 + 1 * (many - 1) = many by omega, show many - 1 + (n - (many - 1)) = n by omega] at this
  exact this.symm
 unfold sizeL
 rw [e, List.flatMap_append, List.flatMap_cons]
end Go.PX
