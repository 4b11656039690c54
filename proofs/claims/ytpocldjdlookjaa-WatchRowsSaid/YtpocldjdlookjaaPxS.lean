import Derived.Test.YtpocldjdlookjaaPxR
import Derived.Test.YtpocldjdlookjaaPxO
set_option linter.all false
set_option maxRecDepth 10000
namespace Go.PX
open Go.Proofs
theorem zero_tok : TOk Tired.zero := by constructor <;> simp [Tired.zero]
theorem wa75_a (c : WCase) (hR : WR c) (men : List Int) (hmen : men.length ≤ 5) (hs : ∃ set, SameSet c men set) : FnV Try.prog 75 [c.d, intsD men] (webD c men) := by
 refine fnV_of mixed tysOk Try.func75 rfl (ft := ft75) 2 (by decide +kernel) (by rfl) fun {σ} Y st => ?_
 conv=>whnf
 obtain ⟨WB, hWB⟩ : ∃ WB, webW0 c men = WB := ⟨_, rfl⟩
 have hWD : webD c men = webDW WB.1 WB.2 := by rw [← hWB]; rfl
 unfold webW0 at hWB
 obtain ⟨set, hset⟩ := hs
 have h98 : FnV Try.prog 98 [Tired.zero.d] (i64 (codT .zero)) := fun {σ} => wa98 .zero zero_tok
 obtain ⟨k0, hk0, hk1⟩ : ∃ k0 : Nat, codT .zero = k0 ∧ codN .zero = k0 := ⟨codN .zero, by have := codT_bd hR (InU.zero hR); unfold codN; omega, rfl⟩
 have hklt : k0 < 196608 := by have := codT_bd hR (InU.zero hR); omega
 rw [hk0] at h98
 have hrep : List.replicate (Int.toNat 196608) [D.int IntKind.i64 0] = intsC (List.replicate manyN 0) := by
  unfold intsC
  rw [List.map_replicate]
  rfl
 rw [hrep]
 have hixl : (List.replicate manyN (0 : Int)).length = manyN := List.length_replicate
 have hixz : ∀ n, KN.atI (List.replicate manyN (0 : Int)) n = 0 := by
  intro n
  unfold KN.atI
  rw [List.getElem?_replicate]
  split <;> rfl
 generalize List.replicate manyN (0 : Int) = ix0 at hixl hixz hWB ⊢
 obtain ⟨N, hN⟩ : ∃ N, N = Int.toNat 196608 := ⟨_, rfl⟩
 have hN2 : N = 196608 := hN
 rw [← hN]
 have hixN : ix0.length = N := by rw [hixl, hN2]; rfl
 refine DrawCall_v (ds := [Tired.zero.d]) h98 rfl rfl ?_
 conv=>whnf
 refine brk_i (fun _ => ?_) (fun h => absurd h (by simp; omega))
 conv=>whnf
 have hT0 : Tired.zero.cells = [i64 0, i64 0, i64 0, i64 0, i64 0, i64 0] := rfl
 have hst := web_start hR (men := men) hixl hixz
 rw [hk1] at hst hWB
 refine cellK_i [i64 (KN.atI ix0 k0)] (intsC_get (by omega)) ?_
 conv=>whnf
 refine LoopA_p (T := tys) tysOk (by exact drawsB_spec mixed tysOk (by decide +kernel)) (α := KN.WS Tired × List (List Nat)) (fun x => ⟨[(1, .d (intsD men)), (2, .ptr 2 0), (4, .ptr 4 0), (5, .ptr 5 0), (6, .d (i64 x.2.length))], [(2, .box (.dd c.cells)), (4, .box (.dd [.nils, .nils, .nils, .nils])), (5, .box (.vv [.sl 21 1 0 N, .sl 900000 6 0 x.1.sts.length, .sl 97 1 0 x.2.length, .d .nils])), (21, .arr 1 (.dd (intsC x.1.ix))), (900000, .arr 6 (.dd (statesC x.1.sts))), (97, .arr 1 (.dd ((rowsI x.2).map fun r => [intsD r])))], st⟩)
  (fun x => WebOk c men x.1 x.2 ∧ KN.webW (sucS c men) codN (46656 - x.2.length) x.1 x.2 = WB) (fun x => 46656 - x.2.length) (⟨ix0.set k0 1, [.zero]⟩, []) ?wk ⟨hst, hWB⟩ ?_
 case wk =>
  refine (Wk.bornAt 5 97 1 [.sl 21 1 0 N, .sl 23 6 0 1] [.d .nils] rfl rfl rfl rfl).trans ((Wk.move 23 900000 rfl rfl).trans (Wk.sub ⟨rfl, rfl, rfl, rfl, rfl, trivial⟩ ⟨rfl, rfl, rfl, ?_, rfl, rfl, trivial⟩))
  show some (Obj.arr 1 (Els.dd ((intsC ix0).set (0 + ((k0 : Nat) : Int).toNat) [i64 1]))) = _
  rw [intsC_set]
 rintro ⟨w, b⟩ ⟨hw, hweb⟩
 have hfew := sts_few hR hw.ok
 simp only at hw hfew hweb
 have hble := hw.le
 conv=>whnf
 refine brk_i (fun h1 => ?_) (fun h1 => ?_)
 ·have h1 : b.length < w.sts.length := by have := of_decide_eq_true h1; simp only at this; omega
  obtain ⟨t, ht⟩ : ∃ t, w.sts[b.length]? = some t := ⟨_, List.getElem?_eq_getElem h1⟩
  have htV := hw.ok.inU t (List.mem_of_getElem? ht)
  obtain ⟨hg1, hg2, hg3⟩ := canS_facts hR hset htV
  have hstep := KN.wstep (fun s hs => codN_lt hR s hs) (fun s t hs ht e => codN_inj hR s t hs ht e) (fun s hs => suc_InV hR hset s hs) hw ht
  obtain ⟨f, hf⟩ : ∃ f, 46656 - b.length = f + 1 := ⟨46656 - b.length - 1, by omega⟩
  rw [hf, KN.webW, ht] at hweb
  simp only at hweb
  have hsuc : sucS c men t = (canS c men t).map (behindF c t) := rfl
  rw [hsuc] at hstep hweb
  have h97 : FnV Try.prog 97 [c.d, t.d, intsD men] (rotaD (canS c men t)) := fun {σ} => wa97 c hR t htV.u men hmen
  generalize hgs : canS c men t = gs at hg1 hg2 hg3 hstep h97 hweb hsuc
  conv=>whnf
  refine brk_i (fun _ => ?_) (fun h => absurd h (by simp [h1]))
  conv=>whnf
  refine cellK_i t.cells (statesC_get ht) ?_
  conv=>whnf
  refine DrawCall_v (ds := [c.d, t.d, intsD men]) h97 rfl rfl ?_
  conv=>whnf
  generalize hR' : KN.rowW codN (gs.map (behindF c t)) w [] = R at hstep hweb
  refine LoopA_i (T := tys) tysOk (by exact drawsB_spec mixed tysOk (by decide +kernel)) gs (fun k (x : KN.WS Tired × List Nat) => ⟨[(1, .d (intsD men)), (2, .ptr 2 0), (4, .ptr 4 0), (5, .ptr 5 0), (6, .d (i64 b.length)), (7, .sl 92 1 0 x.2.length), (8, .d (rotaD gs)), (9, .d (i64 k))], [(2, .box (.dd c.cells)), (4, .box (.dd [.nils, .nils, .nils, .nils])), (5, .box (.vv [.sl 21 1 0 N, .sl 900000 6 0 x.1.sts.length, .sl 97 1 0 b.length, .d .nils])), (21, .arr 1 (.dd (intsC x.1.ix))), (900000, .arr 6 (.dd (statesC x.1.sts))), (97, .arr 1 (.dd ((rowsI b).map fun r => [intsD r]))), (92, .arr 1 (.dd (intsC (natC x.2))))], st⟩)
   (fun k r x => KN.WOk codN manyN (InV c) x.1 ∧ KN.rowW codN (r.map (behindF c t)) x.1 x.2 = R ∧ x.1.sts[b.length]? = some t ∧ x.2.length ≤ k ∧ (∀ g ∈ r, InV c (behindF c t g) ∧ g.length ≤ 2)) (w, []) ((Wk.born 7 92 1 rfl rfl rfl).trans (Wk.sub ⟨(by first | rfl | (simp only [List.length_map]; rfl) | simp [PX.get]), (by first | rfl | (simp only [List.length_map]; rfl) | simp [PX.get]), (by first | rfl | (simp only [List.length_map]; rfl) | simp [PX.get]), (by first | rfl | (simp only [List.length_map]; rfl) | simp [PX.get]), (by first | rfl | (simp only [List.length_map]; rfl) | simp [PX.get]), (by first | rfl | (simp only [List.length_map]; rfl) | simp [PX.get]), (by first | rfl | (simp only [List.length_map]; rfl) | simp [PX.get]), (by first | rfl | (simp only [List.length_map]; rfl) | simp [PX.get]), trivial⟩ ⟨(by first | rfl | (simp only [List.length_map]; rfl) | simp [PX.get]), (by first | rfl | (simp only [List.length_map]; rfl) | simp [PX.get]), (by first | rfl | (simp only [List.length_map]; rfl) | simp [PX.get]), (by first | rfl | (simp only [List.length_map]; rfl) | simp [PX.get]), (by first | rfl | (simp only [List.length_map]; rfl) | simp [PX.get]), (by first | rfl | (simp only [List.length_map]; rfl) | simp [PX.get]), (by first | rfl | (simp only [List.length_map]; rfl) | simp [PX.get]), trivial⟩)) ⟨hw.ok, hR', ht, by simp, fun g hg => ⟨hg3 _ (List.mem_map_of_mem hg), hg2 g hg⟩⟩ ?_ ?_
  ·rintro k g r ⟨w1, l⟩ hx hk hr ⟨hok, hrow, ht1, hll, hin⟩
   simp only at hok hrow ht1 hll
   obtain ⟨hu, hgl⟩ := hin g (by simp)
   have h78 : FnV Try.prog 78 [c.d, t.d, intsD g] (behindF c t g).d := fun {σ} => wa78 c hR t (InU.tokV hR htV) htV.z g (by omega)
   obtain ⟨hok2, ⟨tt, htt⟩, q, hq1, hq2⟩ := KN.ent_ok (fun s hs => codN_lt hR s hs) (fun s t hs ht e => codN_inj hR s t hs ht e) hok hu
   rw [List.map_cons, KN.rowW] at hrow
   generalize hub : behindF c t g = u at h78 hu hok2 htt hq1 hq2 hrow
   have h98u : FnV Try.prog 98 [u.d] (i64 (codT u)) := fun {σ} => wa98 u (InU.tokV hR hu)
   obtain ⟨n, hn0, hn1⟩ : ∃ n : Nat, codT u = n ∧ codN u = n := ⟨codN u, by have := codT_bd hR hu.u; unfold codN; omega, rfl⟩
   have hnlt : n < 196608 := by have := codT_bd hR hu.u; omega
   rw [hn0] at h98u
   rw [hn1] at hq1 hrow
   have hbl := (List.getElem?_eq_some_iff.1 ht1).1
   have hixN1 : w1.ix.length = N := by rw [hok.len, hN2]; rfl
   have hfew1 := sts_few hR hok
   conv=>whnf
   refine brk_i (fun _ => ?_) (fun h => absurd hk (by have := of_decide_eq_false h; simp at this; omega))
   conv=>whnf
   refine brk_i (fun _ => ?_) (fun h => absurd h (by simp [hbl]))
   conv=>whnf
   refine cellK_i t.cells (statesC_get ht1) ?_
   conv=>whnf
   refine elemK_nat hx ?_
   conv=>whnf
   refine DrawCall_v (ds := [c.d, t.d, intsD g]) h78 rfl rfl ?_
   conv=>whnf
   refine DrawCall_v (ds := [u.d]) h98u rfl rfl ?_
   conv=>whnf
   refine brk_i (fun _ => ?_) (fun h => absurd h (by simp; omega))
   conv=>whnf
   refine cellK_i [i64 (KN.atI w1.ix n)] (intsC_get (l := w1.ix) (by omega)) ?_
   conv=>whnf
   refine brk_i (fun h2 => ?_) (fun h2 => ?_)
   ·have h2 : KN.atI w1.ix n = 0 := of_decide_eq_true h2
    conv=>whnf
    refine ownK_whole rfl ?_
    conv=>whnf
    refine ownK_whole (by simp [Els.len, statesC]) ?_
    conv=>whnf
    refine chk_i (decide_eq_true (by
     show ((statesC w1.sts).length + 1) * 48 ≤ 140737488355328
     simp [statesC]; omega)) ?_
    conv=>whnf
    refine DrawCall_v (ds := [u.d]) h98u rfl rfl ?_
    conv=>whnf
    refine brk_i (fun _ => ?_) (fun h => absurd h (by simp; omega))
    conv=>whnf
    refine cellK_i [i64 (KN.atI w1.ix n)] (intsC_get (l := w1.ix) (by omega)) ?_
    conv=>whnf
    have hew : KN.entW codN w1 u = ⟨w1.ix.set n ((w1.sts.length + 1 : Nat) : Int), w1.sts ++ [u]⟩ := by unfold KN.entW; rw [hn1, if_pos h2]
    rw [hew] at hq1 hq2 hrow hok2 htt
    simp only at hq1 hq2 hrow
    have hqv : ((q : Int) + 1 - 1).toNat = q := by omega
    rw [hq1, hqv] at hrow
    refine DrawCall_v (ds := [u.d]) h98u rfl rfl ?_
    conv=>whnf
    refine brk_i (fun _ => ?_) (fun h => absurd h (by simp; omega))
    conv=>whnf
    have hlen1 : (statesC w1.sts).length = w1.sts.length := by simp [statesC]
    refine cellK_i [i64 ((q : Int) + 1)] (show ((intsC w1.ix).set (0 + ((n : Nat) : Int).toNat) [i64 (((statesC w1.sts).length + 1 : Nat) : Int)])[0 + ((n : Nat) : Int).toNat]? = _ from by
     rw [intsC_set, hlen1, intsC_get (by rw [List.length_set]; omega), hq1]) ?_
    conv=>whnf
    refine arith_to (q : Int) (by omega) (wrap_i64 (by have := (List.getElem?_eq_some_iff.1 hq2).1; simp at this; omega)) ?_
    conv=>whnf
    refine ownK_whole rfl ?_
    conv=>whnf
    refine ownK_whole (by simp [Els.len, intsC, natC]) ?_
    conv=>whnf
    refine chk_i (decide_eq_true (by
     show ((intsC (natC l)).length + 1) * 8 ≤ 140737488355328
     simp [intsC, natC]; omega)) ?_
    conv=>whnf
    refine arith_in (wrap_i64 (by (try dsimp only); omega)) ?_
    conv=>whnf
    refine ⟨(⟨w1.ix.set n ((w1.sts.length + 1 : Nat) : Int), w1.sts ++ [u]⟩, l ++ [q]), ⟨hok2, hrow, KN.get_pre ht1, by simp; omega, fun g hg => hin g (by simp [hg])⟩, (Wk.move 73 900000 rfl rfl).trans (Wk.sub ⟨rfl, rfl, rfl, rfl, rfl, ?_, rfl, rfl, trivial⟩ ⟨rfl, rfl, ?_, ?_, ?_, rfl, ?_, trivial⟩)⟩
    ·show some (V.sl 92 1 0 ((intsC (natC l)).length + 1)) = _
     simp [intsC, natC]
    ·show some (Obj.box (Cells.vv [.sl 21 1 0 N, .sl 900000 6 0 ((statesC w1.sts).length + 1), .sl 97 1 0 b.length, .d .nils])) = some (Obj.box (Cells.vv [.sl 21 1 0 N, .sl 900000 6 0 (w1.sts ++ [u]).length, .sl 97 1 0 b.length, .d .nils]))
     simp [statesC]
    ·show some (Obj.arr 1 (Els.dd ((intsC w1.ix).set (0 + ((n : Nat) : Int).toNat) [i64 (((statesC w1.sts).length + 1 : Nat) : Int)]))) = _
     rw [intsC_set, hlen1]
    ·show some (Obj.arr 6 (Els.dd (statesC w1.sts ++ [u.cells]))) = _
     simp [statesC]
    ·show some (Obj.arr 1 (Els.dd (intsC (natC l) ++ [[i64 (q : Int)]]))) = _
     simp [intsC, natC]
   ·have h2 : ¬ KN.atI w1.ix n = 0 := of_decide_eq_false h2
    have hew : KN.entW codN w1 u = w1 := by unfold KN.entW; rw [hn1, if_neg h2]
    rw [hew] at hq1 hq2 hrow hok2 htt
    conv=>whnf
    refine DrawCall_v (ds := [u.d]) h98u rfl rfl ?_
    conv=>whnf
    refine brk_i (fun _ => ?_) (fun h => absurd h (by simp; omega))
    conv=>whnf
    refine cellK_i [i64 (KN.atI w1.ix n)] (intsC_get (l := w1.ix) (by omega)) ?_
    conv=>whnf
    rw [hq1]
    have hqv : ((q : Int) + 1 - 1).toNat = q := by omega
    rw [hq1, hqv] at hrow
    refine arith_to (q : Int) (by omega) (wrap_i64 (by have := (List.getElem?_eq_some_iff.1 hq2).1; omega)) ?_
    conv=>whnf
    refine ownK_whole rfl ?_
    conv=>whnf
    refine ownK_whole (by simp [Els.len, intsC, natC]) ?_
    conv=>whnf
    refine chk_i (decide_eq_true (by
     show ((intsC (natC l)).length + 1) * 8 ≤ 140737488355328
     simp [intsC, natC]; omega)) ?_
    conv=>whnf
    refine arith_in (wrap_i64 (by (try dsimp only); omega)) ?_
    conv=>whnf
    refine ⟨(w1, l ++ [q]), ⟨hok2, hrow, ht1, by simp; omega, fun g hg => hin g (by simp [hg])⟩, Wk.sub ⟨rfl, rfl, rfl, rfl, rfl, ?_, rfl, rfl, trivial⟩ ⟨rfl, rfl, rfl, rfl, rfl, rfl, ?_, trivial⟩⟩
    ·show some (V.sl 92 1 0 ((intsC (natC l)).length + 1)) = _
     simp [intsC, natC]
    ·show some (Obj.arr 1 (Els.dd (intsC (natC l) ++ [[i64 (q : Int)]]))) = _
     simp [intsC, natC]
  ·rintro ⟨w1, l⟩ ⟨hok, hrow, ht1, hll, _⟩
   simp only at hok hrow ht1 hll
   have hrow : (w1, l) = R := hrow
   rw [← hrow] at hstep hweb
   simp only at hweb
   obtain ⟨hnew, tt, htt⟩ := hstep
   simp only at hnew htt
   have hfew1 := sts_few hR hok
   conv=>whnf
   refine brk_i (fun h => absurd h (by simp)) (fun _ => ?_)
   conv=>whnf
   refine ownK_whole rfl ?_
   conv=>whnf
   refine ownK_whole (by simp [Els.len, rowsI]) ?_
   conv=>whnf
   have hfree : (true && !nameBL 97 ((injL ((rowsI b).map fun r => [intsD r]) ++ [[V.sl 92 1 0 l.length]]).flatten)) = true := by
    rw [nameBL_injL]; rfl
   refine chk_i hfree ?_
   conv=>whnf
   refine chk_i (decide_eq_true (by
    show (((rowsI b).map fun r => [intsD r]).length + 1) * 24 ≤ 140737488355328
    simp [rowsI]; omega)) ?_
   conv=>whnf
   refine arith_in (wrap_i64 (by (try dsimp only); omega)) ?_
   conv=>whnf
   refine ⟨(w1, b ++ [l]), by simp; omega, ⟨hnew, by simp only [List.length_append, List.length_singleton]; rw [show 46656 - (b.length + 1) = f by omega]; exact hweb⟩, (Wk.frzArr 1 [92] 97 (sz := 1) (vs := injL ((rowsI b).map fun r => [intsD r]) ++ [[.sl 92 1 0 l.length]]) (ds := ((rowsI b).map fun r => [intsD r]) ++ [[intsD (natC l)]]) ?_ (viewLL_app (viewLL_one (viewL_cons (viewV_sl rfl (by simp [intsC, natC])) rfl)) _)).trans ?_⟩
   ·rfl
   ·refine Wk.sub ⟨rfl, rfl, rfl, rfl, ?_, trivial⟩ ⟨rfl, rfl, ?_, rfl, rfl, ?_, trivial⟩
    ·show some (V.d (i64 ((b.length : Int) + 1))) = some (V.d (i64 ((b ++ [l]).length : Nat)))
     simp
    ·show some (Obj.box (Cells.vv [.sl 21 1 0 N, .sl 900000 6 0 w1.sts.length, .sl 97 1 0 (((rowsI b).map fun r => [intsD r]).length + 1), .d .nils])) = some (Obj.box (Cells.vv [.sl 21 1 0 N, .sl 900000 6 0 w1.sts.length, .sl 97 1 0 (b ++ [l]).length, .d .nils]))
     simp [rowsI]
    ·show some (Obj.arr 1 (Els.dd (((rowsI b).map fun r => [intsD r]) ++ [[intsD (natC l)]]))) = some (Obj.arr 1 (Els.dd ((rowsI (b ++ [l])).map fun r => [intsD r])))
     simp [rowsI, natC]
 ·have h1 : ¬ b.length < w.sts.length := by have := of_decide_eq_false h1; simp only at this; omega
  have hfull : b.length = w.sts.length := by omega
  rw [webW_end (by omega)] at hweb
  subst hweb
  conv=>whnf
  refine chk_i (by simp; rfl) ?_
  conv=>whnf
  refine chk_i (decide_eq_true (by simp only; omega)) ?_
  conv=>whnf
  refine chk_i (by simp; rfl) ?_
  conv=>whnf
  refine chk_i (decide_eq_true (by simp only; omega)) ?_
  conv=>whnf
  obtain ⟨B, hB⟩ : ∃ B : Nat, 3000000 ≤ B := ⟨3000000, Nat.le_refl _⟩
  have hrows : List.replicate w.sts.length (Rw.at' []) = rowsN (List.replicate w.sts.length []) := by
   unfold rowsN
   rw [List.map_replicate]; rfl
  generalize hBFF : KN.befF 0 b (List.replicate w.sts.length []) = BFF
  refine LoopA_i (T := tys) tysOk (by exact drawsB_spec mixed tysOk (by decide +kernel)) b (fun i (x : List Int × List Int × List (List Nat) × List Nat) => ⟨[(2, .ptr 2 0), (4, .ptr 4 0), (5, .ptr 5 0), (11, .sl 102 1 0 w.sts.length), (12, .sl 106 1 0 w.sts.length), (13, .sl 170 1 0 x.2.2.2.length), (14, .d (i64 i))],
    (102, outO B 1 (rowsN x.2.2.1)) :: ([(4, .box (.dd [.nils, .nils, .nils, .nils])), (5, .box (.vv [.sl 21 1 0 N, .sl 900000 6 0 w.sts.length, .sl 97 1 0 b.length, .sl 117 1 0 x.1.length])), (21, .arr 1 (.dd (intsC w.ix))), (900000, .arr 6 (.dd (statesC w.sts))), (97, .arr 1 (.dd ((rowsI b).map fun r => [intsD r]))), (106, .arr 1 (.dd (intsC x.2.1))), (117, .arr 1 (.dd (intsC x.1))), (170, .arr 1 (.dd (intsC (natC x.2.2.2))))] ++ famR B 1 0 (rowsN x.2.2.1)), st⟩)
   (fun i r x => x.1 = List.replicate i (-1) ∧ x.2.1.length = w.sts.length ∧ x.2.2.1.length = w.sts.length ∧ (∀ j, j < i → KN.atI x.2.1 j = (KN.atL b j).length) ∧ KN.befF i r x.2.2.1 = BFF ∧ x.2.2.2 = KN.line0 b i ∧ ∀ j, (KN.atL x.2.2.1 j).length ≤ 25 * i) ([], List.replicate w.sts.length 0, List.replicate w.sts.length [], []) ?wk2 ⟨rfl, by simp, by simp, fun j hj => by omega, hBFF, rfl, fun j => by rw [atL_rep]; simp⟩ ?_ ?_
  case wk2 =>
   refine (Wk.bornAt 5 117 1 [.sl 21 1 0 N, .sl 900000 6 0 w.sts.length, .sl 97 1 0 b.length] [] rfl rfl rfl rfl).trans ((Wk.born 13 170 1 rfl rfl rfl).trans ((Wk.sub (e' := [(2, .ptr 2 0), (4, .ptr 4 0), (5, .ptr 5 0), (11, .sl 102 1 0 w.sts.length), (12, .sl 106 1 0 w.sts.length), (13, .sl 170 1 0 0), (14, .d (i64 0))]) (h' := (102, .arr 1 (.dd (List.replicate w.sts.length [D.nils]))) :: [(4, .box (.dd [.nils, .nils, .nils, .nils])), (5, .box (.vv [.sl 21 1 0 N, .sl 900000 6 0 w.sts.length, .sl 97 1 0 b.length, .sl 117 1 0 0])), (21, .arr 1 (.dd (intsC w.ix))), (900000, .arr 6 (.dd (statesC w.sts))), (97, .arr 1 (.dd ((rowsI b).map fun r => [intsD r]))), (106, .arr 1 (.dd (intsC (List.replicate w.sts.length 0)))), (117, .arr 1 (.dd [])), (170, .arr 1 (.dd []))]) ⟨rfl, rfl, rfl, rfl, rfl, rfl, rfl, trivial⟩ ⟨rfl, rfl, rfl, rfl, rfl, rfl, ?_, rfl, rfl, trivial⟩).trans ((Wk.makeF (sz := 1) hB (by decide) rfl rfl).trans ?_)))
   ·show some (Obj.arr 1 (Els.dd (List.replicate w.sts.length [i64 0]))) = _
    simp [intsC]
   ·rw [hrows]
    exact Wk.refl _
  ·rintro i l r ⟨H, left, bf, line⟩ hx hi hr ⟨hH, hll, hbl, hlj, hbef, hlin, hfewB⟩
   simp only at hH hll hbl hlj hbef hlin hfewB
   have hl25 := row_few hR hset hw hx
   rw [KN.befF] at hbef
   have hHl : H.length = i := by rw [hH, List.length_replicate]
   conv=>whnf
   repeat (refine forceH_fam (T' := famR B 1 0 (rowsN bf)) (by first | exact rfl | exact cut_famR (by omega) | exact map_famR _ | exact mapcut_famR _ (by omega)) ?_; conv=>whnf)
   refine brk_i (fun _ => ?_) (fun h => absurd h (by simp; omega))
   conv=>whnf
   repeat (refine forceH_fam (T' := famR B 1 0 (rowsN bf)) (by first | exact rfl | exact cut_famR (by omega) | exact map_famR _ | exact mapcut_famR _ (by omega)) ?_; conv=>whnf)
   refine ownK_whole rfl ?_
   conv=>whnf
   repeat (refine forceH_fam (T' := famR B 1 0 (rowsN bf)) (by first | exact rfl | exact cut_famR (by omega) | exact map_famR _ | exact mapcut_famR _ (by omega)) ?_; conv=>whnf)
   refine ownK_whole (by simp [Els.len, intsC]) ?_
   conv=>whnf
   repeat (refine forceH_fam (T' := famR B 1 0 (rowsN bf)) (by first | exact rfl | exact cut_famR (by omega) | exact map_famR _ | exact mapcut_famR _ (by omega)) ?_; conv=>whnf)
   refine chk_i (decide_eq_true (by
    show ((intsC H).length + 1) * 8 ≤ 140737488355328
    simp [intsC]; omega)) ?_
   conv=>whnf
   repeat (refine forceH_fam (T' := famR B 1 0 (rowsN bf)) (by first | exact rfl | exact cut_famR (by omega) | exact map_famR _ | exact mapcut_famR _ (by omega)) ?_; conv=>whnf)
   refine brk_i (fun _ => ?_) (fun h => absurd h (by simp; omega))
   conv=>whnf
   repeat (refine forceH_fam (T' := famR B 1 0 (rowsN bf)) (by first | exact rfl | exact cut_famR (by omega) | exact map_famR _ | exact mapcut_famR _ (by omega)) ?_; conv=>whnf)
   refine cellK_i [intsD (natC l)] (rowsI_get hx) ?_
   conv=>whnf
   repeat (refine forceH_fam (T' := famR B 1 0 (rowsN bf)) (by first | exact rfl | exact cut_famR (by omega) | exact map_famR _ | exact mapcut_famR _ (by omega)) ?_; conv=>whnf)
   refine brk_i (fun _ => ?_) (fun h => absurd h (by simp; omega))
   conv=>whnf
   repeat (refine forceH_fam (T' := famR B 1 0 (rowsN bf)) (by first | exact rfl | exact cut_famR (by omega) | exact map_famR _ | exact mapcut_famR _ (by omega)) ?_; conv=>whnf)
   refine cellK_i [i64 (KN.atI left i)] (intsC_get (l := left) (by omega)) ?_
   conv=>whnf
   repeat (refine forceH_fam (T' := famR B 1 0 (rowsN bf)) (by first | exact rfl | exact cut_famR (by omega) | exact map_famR _ | exact mapcut_famR _ (by omega)) ?_; conv=>whnf)
   have hlow : ∀ v ∈ l, v < w.sts.length := by
    have := hw.low i
    unfold KN.atL at this
    rw [hx] at this
    exact this
   generalize hBF : KN.addBs i l bf = BF
   refine LoopA_o (T := tys) tysOk (by exact drawsB_spec mixed tysOk (by decide +kernel)) l (fun k (bf2 : List (List Nat)) => ⟨[(2, .ptr 2 0), (4, .ptr 4 0), (5, .ptr 5 0), (11, .sl 102 1 0 w.sts.length), (12, .sl 106 1 0 w.sts.length), (13, .sl 170 1 0 line.length), (14, .d (i64 i)), (15, .d (i64 k))],
    (102, outO B 1 (rowsN bf2)) :: ([(4, .box (.dd [.nils, .nils, .nils, .nils])), (5, .box (.vv [.sl 21 1 0 N, .sl 900000 6 0 w.sts.length, .sl 97 1 0 b.length, .sl 117 1 0 (i + 1)])), (21, .arr 1 (.dd (intsC w.ix))), (900000, .arr 6 (.dd (statesC w.sts))), (97, .arr 1 (.dd ((rowsI b).map fun r => [intsD r]))), (106, .arr 1 (.dd (intsC (left.set i (l.length : Nat))))), (117, .arr 1 (.dd (intsC (H ++ [-1])))), (170, .arr 1 (.dd (intsC (natC line))))] ++ famR B 1 0 (rowsN bf2)), st⟩)
    (fun k r bf2 => bf2.length = w.sts.length ∧ KN.addBs i r bf2 = BF ∧ ∀ j, (KN.atL bf2 j).length ≤ 25 * i + k) bf ?wk3 ⟨hbl, hBF, fun j => by have := hfewB j; omega⟩ ?_ ?_
   case wk3 =>
    refine Wk.subG ((102, outO B 1 (rowsN bf)) :: [(4, .box (.dd [.nils, .nils, .nils, .nils])), (5, .box (.vv [.sl 21 1 0 N, .sl 900000 6 0 w.sts.length, .sl 97 1 0 b.length, .sl 117 1 0 (i + 1)])), (21, .arr 1 (.dd (intsC w.ix))), (900000, .arr 6 (.dd (statesC w.sts))), (97, .arr 1 (.dd ((rowsI b).map fun r => [intsD r]))), (106, .arr 1 (.dd (intsC (left.set i (l.length : Nat))))), (117, .arr 1 (.dd (intsC (H ++ [-1])))), (170, .arr 1 (.dd (intsC (natC line))))]) hB ⟨rfl, rfl, rfl, rfl, rfl, rfl, rfl, rfl, trivial⟩ (fun k hk => by repeat (first | rw [get_one, if_neg (by omega)] | rw [List.cons_append] | rw [List.nil_append])) ⟨?_, rfl, ?_, rfl, rfl, rfl, ?_, ?_, rfl, trivial⟩
    ·show some (Obj.arr 1 (.vv (mapIdLL (killF 117) (mapIdLL (killF 116) (hdrs B 1 0 (rowsN bf)))))) = _
     rw [kill_rowsN (by omega), kill_rowsN (by omega)]; rfl
    ·show some (Obj.box (Cells.vv [.sl 21 1 0 N, .sl 900000 6 0 w.sts.length, .sl 97 1 0 b.length, .sl 117 1 0 ((intsC H).length + 1)])) = _
     simp [intsC, hHl]
    ·show some (Obj.arr 1 (Els.dd ((intsC left).set (0 + ((i : Nat) : Int).toNat) [i64 ((natC l).map fun n => [i64 n]).length]))) = _
     rw [intsC_set]
     simp [natC]
    ·show some (Obj.arr 1 (Els.dd (intsC H ++ [[i64 (-1)]]))) = _
     simp [intsC]
   ·rintro k v r bf2 hv hk hr3 ⟨hb2, hadd, hfew2⟩
    have hvn := hlow v (List.mem_of_getElem? hv)
    have hrow : (rowsN bf2)[v]? = some (.at' (intsC (natC (KN.atL bf2 v)))) := by
     unfold rowsN KN.atL
     rw [List.getElem?_map, List.getElem?_eq_getElem (by omega)]
     rfl
    refine ⟨_, Wk.openF 900002 v (sz := 1) (B := B) (O := 102) [(4, .box (.dd [.nils, .nils, .nils, .nils])), (5, .box (.vv [.sl 21 1 0 N, .sl 900000 6 0 w.sts.length, .sl 97 1 0 b.length, .sl 117 1 0 (i + 1)])), (21, .arr 1 (.dd (intsC w.ix))), (900000, .arr 6 (.dd (statesC w.sts))), (97, .arr 1 (.dd ((rowsI b).map fun r => [intsD r]))), (106, .arr 1 (.dd (intsC (left.set i (l.length : Nat))))), (117, .arr 1 (.dd (intsC (H ++ [-1])))), (170, .arr 1 (.dd (intsC (natC line))))] ?fam (by decide) (by decide) hrow rfl rfl ?sub, ?_⟩
    case fam =>
     exact ⟨hB, rfl, fun k hk => by repeat (first | rw [get_one, if_neg (by omega)] | rw [List.cons_append] | rw [List.nil_append]), by decide, fun K' n hm => by
      unfold rowsN at hm
      obtain ⟨x, _, hx⟩ := List.mem_map.1 hm
      cases hx⟩
    case sub => exact ⟨rfl, rfl, rfl, rfl, rfl, rfl, rfl, rfl, trivial⟩
    generalize hR2 : (rowsN bf2).set v (.foc 900002 (intsC (natC (KN.atL bf2 v))).length) = R2
    have hkill : ∀ k : Nat, k < B → k ≠ 900002 → mapIdLL (killF k) (hdrs B 1 0 R2) = hdrs B 1 0 R2 := fun k hk h9 => kill_foc hk fun K n hm => by
     rw [← hR2] at hm
     obtain ⟨j, hj⟩ := List.getElem?_of_mem hm
     rw [List.getElem?_set] at hj
     split at hj
     ·split at hj
      ·cases hj; omega
      ·cases hj
     ·unfold rowsN at hj
      rw [List.getElem?_map] at hj
      cases hb : bf2[j]? with
      | none => rw [hb] at hj; cases hj
      | some x => rw [hb] at hj; cases hj
    conv=>whnf
    repeat (first
     | (refine forceH_fam (T' := famR B 1 0 R2) (by first | exact rfl | exact cut_famR (by omega) | exact map_famR _ | exact mapcut_famR _ (by omega) | exact aside_famR (by omega) (by omega) _ | exact moveT_famR (by omega)) ?_; conv=>whnf)
     | (refine forceH_fam (T' := []) (by exact keepT_famR hB rfl) ?_; conv=>whnf))
    refine brk_i (fun _ => ?_) (fun h => absurd h (by simp; omega))
    conv=>whnf
    repeat (first
     | (refine forceH_fam (T' := famR B 1 0 R2) (by first | exact rfl | exact cut_famR (by omega) | exact map_famR _ | exact mapcut_famR _ (by omega) | exact aside_famR (by omega) (by omega) _ | exact moveT_famR (by omega)) ?_; conv=>whnf)
     | (refine forceH_fam (T' := []) (by exact keepT_famR hB rfl) ?_; conv=>whnf))
    refine cellK_i [intsD (natC l)] (rowsI_get hx) ?_
    conv=>whnf
    repeat (first
     | (refine forceH_fam (T' := famR B 1 0 R2) (by first | exact rfl | exact cut_famR (by omega) | exact map_famR _ | exact mapcut_famR _ (by omega) | exact aside_famR (by omega) (by omega) _ | exact moveT_famR (by omega)) ?_; conv=>whnf)
     | (refine forceH_fam (T' := []) (by exact keepT_famR hB rfl) ?_; conv=>whnf))
    refine brk_i (fun _ => ?_) (fun h => absurd h (by simp [natC]; omega))
    conv=>whnf
    repeat (first
     | (refine forceH_fam (T' := famR B 1 0 R2) (by first | exact rfl | exact cut_famR (by omega) | exact map_famR _ | exact mapcut_famR _ (by omega) | exact aside_famR (by omega) (by omega) _ | exact moveT_famR (by omega)) ?_; conv=>whnf)
     | (refine forceH_fam (T' := []) (by exact keepT_famR hB rfl) ?_; conv=>whnf))
    rw [get2_none (k := 159) (by decide) (by decide) rfl (by omega)]
    conv=>whnf
    repeat (first
     | (refine forceH_fam (T' := famR B 1 0 R2) (by first | exact rfl | exact cut_famR (by omega) | exact map_famR _ | exact mapcut_famR _ (by omega) | exact aside_famR (by omega) (by omega) _ | exact moveT_famR (by omega)) ?_; conv=>whnf)
     | (refine forceH_fam (T' := []) (by exact keepT_famR hB rfl) ?_; conv=>whnf))
    rw [get10_no (k := 160) (by rfl) (by omega)]
    conv=>whnf
    repeat (first
     | (refine forceH_fam (T' := famR B 1 0 R2) (by first | exact rfl | exact cut_famR (by omega) | exact map_famR _ | exact mapcut_famR _ (by omega) | exact aside_famR (by omega) (by omega) _ | exact moveT_famR (by omega)) ?_; conv=>whnf)
     | (refine forceH_fam (T' := []) (by exact keepT_famR hB rfl) ?_; conv=>whnf))
    refine brk_i (fun _ => ?_) (fun h => absurd h (by simp; omega))
    conv=>whnf
    repeat (first
     | (refine forceH_fam (T' := famR B 1 0 R2) (by first | exact rfl | exact cut_famR (by omega) | exact map_famR _ | exact mapcut_famR _ (by omega) | exact aside_famR (by omega) (by omega) _ | exact moveT_famR (by omega)) ?_; conv=>whnf)
     | (refine forceH_fam (T' := []) (by exact keepT_famR hB rfl) ?_; conv=>whnf))
    refine cellK_i [intsD (natC l)] (rowsI_get hx) ?_
    conv=>whnf
    repeat (first
     | (refine forceH_fam (T' := famR B 1 0 R2) (by first | exact rfl | exact cut_famR (by omega) | exact map_famR _ | exact mapcut_famR _ (by omega) | exact aside_famR (by omega) (by omega) _ | exact moveT_famR (by omega)) ?_; conv=>whnf)
     | (refine forceH_fam (T' := []) (by exact keepT_famR hB rfl) ?_; conv=>whnf))
    refine elemK_i [i64 (v : Nat)] ⟨by omega, by have := natC_get hv; rwa [Nat.zero_add] at this⟩ ?_
    conv=>whnf
    repeat (first
     | (refine forceH_fam (T' := famR B 1 0 R2) (by first | exact rfl | exact cut_famR (by omega) | exact map_famR _ | exact mapcut_famR _ (by omega) | exact aside_famR (by omega) (by omega) _ | exact moveT_famR (by omega)) ?_; conv=>whnf)
     | (refine forceH_fam (T' := []) (by exact keepT_famR hB rfl) ?_; conv=>whnf))
    refine brk_i (fun _ => ?_) (fun h => absurd h (by simp; omega))
    conv=>whnf
    repeat (first
     | (refine forceH_fam (T' := famR B 1 0 R2) (by first | exact rfl | exact cut_famR (by omega) | exact map_famR _ | exact mapcut_famR _ (by omega) | exact aside_famR (by omega) (by omega) _ | exact moveT_famR (by omega)) ?_; conv=>whnf)
     | (refine forceH_fam (T' := []) (by exact keepT_famR hB rfl) ?_; conv=>whnf))
    refine cellK_i [intsD (natC l)] (rowsI_get hx) ?_
    conv=>whnf
    repeat (first
     | (refine forceH_fam (T' := famR B 1 0 R2) (by first | exact rfl | exact cut_famR (by omega) | exact map_famR _ | exact mapcut_famR _ (by omega) | exact aside_famR (by omega) (by omega) _ | exact moveT_famR (by omega)) ?_; conv=>whnf)
     | (refine forceH_fam (T' := []) (by exact keepT_famR hB rfl) ?_; conv=>whnf))
    refine elemK_i [i64 (v : Nat)] ⟨by omega, by have := natC_get hv; rwa [Nat.zero_add] at this⟩ ?_
    conv=>whnf
    repeat (first
     | (refine forceH_fam (T' := famR B 1 0 R2) (by first | exact rfl | exact cut_famR (by omega) | exact map_famR _ | exact mapcut_famR _ (by omega) | exact aside_famR (by omega) (by omega) _ | exact moveT_famR (by omega)) ?_; conv=>whnf)
     | (refine forceH_fam (T' := []) (by exact keepT_famR hB rfl) ?_; conv=>whnf))
    rw [hkill 159 (by omega) (by omega), hkill 160 (by omega) (by omega)]
    refine brk_i (fun _ => ?_) (fun h => absurd h (by simp; omega))
    conv=>whnf
    repeat (first
     | (refine forceH_fam (T' := famR B 1 0 R2) (by first | exact rfl | exact cut_famR (by omega) | exact map_famR _ | exact mapcut_famR _ (by omega) | exact aside_famR (by omega) (by omega) _ | exact moveT_famR (by omega)) ?_; conv=>whnf)
     | (refine forceH_fam (T' := []) (by exact keepT_famR hB rfl) ?_; conv=>whnf))
    have hcell : (hdrs B 1 0 R2)[0 + ((v : Nat) : Int).toNat]? = some [V.sl 900002 1 0 (intsC (natC (KN.atL bf2 v))).length] := by
     rw [hdrs_at, ← hR2, Int.toNat_natCast]; simp only [Nat.zero_add]; rw [List.getElem?_set, if_pos rfl, if_pos (by unfold rowsN; simp; omega)]; rfl
    rw [hcell]
    conv=>whnf
    repeat (first
     | (refine forceH_fam (T' := famR B 1 0 R2) (by first | exact rfl | exact cut_famR (by omega) | exact map_famR _ | exact mapcut_famR _ (by omega) | exact aside_famR (by omega) (by omega) _ | exact moveT_famR (by omega)) ?_; conv=>whnf)
     | (refine forceH_fam (T' := []) (by exact keepT_famR hB rfl) ?_; conv=>whnf))
    refine ownK_whole rfl ?_
    conv=>whnf
    repeat (first
     | (refine forceH_fam (T' := famR B 1 0 R2) (by first | exact rfl | exact cut_famR (by omega) | exact map_famR _ | exact mapcut_famR _ (by omega) | exact aside_famR (by omega) (by omega) _ | exact moveT_famR (by omega)) ?_; conv=>whnf)
     | (refine forceH_fam (T' := []) (by exact keepT_famR hB rfl) ?_; conv=>whnf))
    refine ownK_whole (by simp [Els.len, intsC, natC]) ?_
    conv=>whnf
    repeat (first
     | (refine forceH_fam (T' := famR B 1 0 R2) (by first | exact rfl | exact cut_famR (by omega) | exact map_famR _ | exact mapcut_famR _ (by omega) | exact aside_famR (by omega) (by omega) _ | exact moveT_famR (by omega)) ?_; conv=>whnf)
     | (refine forceH_fam (T' := []) (by exact keepT_famR hB rfl) ?_; conv=>whnf))
    refine chk_i (decide_eq_true (by
     show ((intsC (natC (KN.atL bf2 v))).length + 1) * 8 ≤ 140737488355328
     have := hfew2 v
     simp [intsC, natC]; omega)) ?_
    conv=>whnf
    repeat (first
     | (refine forceH_fam (T' := famR B 1 0 R2) (by first | exact rfl | exact cut_famR (by omega) | exact map_famR _ | exact mapcut_famR _ (by omega) | exact aside_famR (by omega) (by omega) _ | exact moveT_famR (by omega)) ?_; conv=>whnf)
     | (refine forceH_fam (T' := []) (by exact keepT_famR hB rfl) ?_; conv=>whnf))
    refine brk_i (fun _ => ?_) (fun h => absurd h (by simp; omega))
    conv=>whnf
    repeat (first
     | (refine forceH_fam (T' := famR B 1 0 R2) (by first | exact rfl | exact cut_famR (by omega) | exact map_famR _ | exact mapcut_famR _ (by omega) | exact aside_famR (by omega) (by omega) _ | exact moveT_famR (by omega)) ?_; conv=>whnf)
     | (refine forceH_fam (T' := []) (by exact keepT_famR hB rfl) ?_; conv=>whnf))
    rw [hcell]
    conv=>whnf
    repeat (first
     | (refine forceH_fam (T' := famR B 1 0 R2) (by first | exact rfl | exact cut_famR (by omega) | exact map_famR _ | exact mapcut_famR _ (by omega) | exact aside_famR (by omega) (by omega) _ | exact moveT_famR (by omega)) ?_; conv=>whnf)
     | (refine forceH_fam (T' := []) (by exact keepT_famR hB rfl) ?_; conv=>whnf))
    refine forceN_any ?_
    conv=>whnf
    refine chk_i (by rfl) ?_
    conv=>whnf
    repeat (first
     | (refine forceH_fam (T' := famR B 1 0 R2) (by first | exact rfl | exact cut_famR (by omega) | exact map_famR _ | exact mapcut_famR _ (by omega) | exact aside_famR (by omega) (by omega) _ | exact moveT_famR (by omega)) ?_; conv=>whnf)
     | (refine forceH_fam (T' := []) (by exact keepT_famR hB rfl) ?_; conv=>whnf))
    refine arith_in (wrap_i64 (by (try dsimp only); omega)) ?_
    conv=>whnf
    repeat (first
     | (refine forceH_fam (T' := famR B 1 0 R2) (by first | exact rfl | exact cut_famR (by omega) | exact map_famR _ | exact mapcut_famR _ (by omega) | exact aside_famR (by omega) (by omega) _ | exact moveT_famR (by omega)) ?_; conv=>whnf)
     | (refine forceH_fam (T' := []) (by exact keepT_famR hB rfl) ?_; conv=>whnf))
    refine ⟨KN.addB bf2 v i, ⟨by unfold KN.addB; rw [List.length_set]; exact hb2, hadd, fun j => addB_len (by omega) hfew2 j⟩, (Wk.closeF (O := 102) (sz := 1) (B := B) (rows := R2.set v (.foc 160 ((intsC (natC (KN.atL bf2 v))).length + 1))) (l := intsC (natC (KN.atL bf2 v ++ [i]))) (n := (intsC (natC (KN.atL bf2 v))).length + 1) 160 v [(4, .box (.dd [.nils, .nils, .nils, .nils])), (5, .box (.vv [.sl 21 1 0 N, .sl 900000 6 0 w.sts.length, .sl 97 1 0 b.length, .sl 117 1 0 (i + 1)])), (21, .arr 1 (.dd (intsC w.ix))), (900000, .arr 6 (.dd (statesC w.sts))), (97, .arr 1 (.dd ((rowsI b).map fun r => [intsD r]))), (106, .arr 1 (.dd (intsC (left.set i (l.length : Nat))))), (117, .arr 1 (.dd (intsC (H ++ [-1])))), (170, .arr 1 (.dd (intsC (natC line))))] hB ?hO ?hT (by decide) ?hfo (by decide) (by decide) ?hi ?hn ?hrow rfl rfl ⟨rfl, rfl, rfl, rfl, rfl, rfl, rfl, rfl, trivial⟩).trans ?hend⟩
    case hO =>
     show some (Obj.arr 1 (Els.vv ((hdrs B 1 0 R2).set (0 + ((v : Nat) : Int).toNat) [V.sl 160 1 0 ((intsC (natC (KN.atL bf2 v))).length + 1)]))) = _
     rw [Int.toNat_natCast, Nat.zero_add, hdrs_store rfl]
     rfl
    case hT =>
     intro k hk
     repeat rw [get_one, if_neg (by omega)]
     rw [← hR2]
     exact famR_refoc k
    case hfo =>
     rw [← hR2, List.set_set, List.set_set]
     exact foc_rows
    case hi =>
     rw [List.getElem?_set, if_pos rfl, if_pos (by rw [← hR2, List.length_set]; unfold rowsN; simp; omega)]
    case hn => simp [intsC, natC]
    case hrow =>
     show some (Obj.arr 1 (Els.dd (intsC (natC (KN.atL bf2 v)) ++ [[i64 (i : Nat)]]))) = _
     simp [intsC, natC]
    case hend =>
     rw [← hR2, List.set_set, List.set_set, rowsN_set]
     exact Wk.subT (subEnv_t ⟨rfl, rfl, rfl, rfl, rfl, rfl, rfl, rfl, trivial⟩) fun _ _ h => h
   ·rintro bf2 ⟨hb2, hadd, hfew2⟩
    have hadd : bf2 = BF := hadd
    subst hadd
    rw [hBF] at hbef
    conv=>whnf
    repeat (refine forceH_fam (T' := famR B 1 0 (rowsN bf2)) (by first | exact rfl | exact cut_famR (by omega) | exact map_famR _ | exact mapcut_famR _ (by omega)) ?_; conv=>whnf)
    refine brk_i (fun _ => ?_) (fun h => absurd h (by simp; omega))
    conv=>whnf
    repeat (refine forceH_fam (T' := famR B 1 0 (rowsN bf2)) (by first | exact rfl | exact cut_famR (by omega) | exact map_famR _ | exact mapcut_famR _ (by omega)) ?_; conv=>whnf)
    refine cellK_i [intsD (natC l)] (rowsI_get hx) ?_
    conv=>whnf
    repeat (refine forceH_fam (T' := famR B 1 0 (rowsN bf2)) (by first | exact rfl | exact cut_famR (by omega) | exact map_famR _ | exact mapcut_famR _ (by omega)) ?_; conv=>whnf)
    refine brk_i (fun h => absurd h (by simp [natC])) (fun _ => ?_)
    conv=>whnf
    repeat (refine forceH_fam (T' := famR B 1 0 (rowsN bf2)) (by first | exact rfl | exact cut_famR (by omega) | exact map_famR _ | exact mapcut_famR _ (by omega)) ?_; conv=>whnf)
    refine brk_i (fun _ => ?_) (fun h => absurd h (by simp; omega))
    conv=>whnf
    repeat (refine forceH_fam (T' := famR B 1 0 (rowsN bf2)) (by first | exact rfl | exact cut_famR (by omega) | exact map_famR _ | exact mapcut_famR _ (by omega)) ?_; conv=>whnf)
    have hleft : KN.atI (left.set i (l.length : Nat)) i = l.length := by rw [KN.atI_set (by omega), if_pos rfl]
    refine cellK_i [i64 (KN.atI (left.set i (l.length : Nat)) i)] (intsC_get (l := left.set i (l.length : Nat)) (by rw [List.length_set]; omega)) ?_
    rw [hleft]
    conv=>whnf
    repeat (refine forceH_fam (T' := famR B 1 0 (rowsN bf2)) (by first | exact rfl | exact cut_famR (by omega) | exact map_famR _ | exact mapcut_famR _ (by omega)) ?_; conv=>whnf)
    have hlj2 : ∀ j, j < i + 1 → KN.atI (left.set i (l.length : Nat)) j = (KN.atL b j).length := by
     intro j hj
     rw [KN.atI_set (by omega)]
     by_cases hji : i = j
     ·rw [if_pos hji]
      subst hji
      unfold KN.atL
      rw [hx]; rfl
     ·rw [if_neg hji]
      exact hlj j (by omega)
    have hHs : H ++ [-1] = List.replicate (i + 1) (-1) := by rw [hH, List.replicate_succ']
    have hline : line.length ≤ i := by
     rw [hlin]
     unfold KN.line0
     refine Nat.le_trans (List.length_filter_le _ _) ?_
     rw [List.length_range]
     exact Nat.le_refl _
    have hf25 : ∀ j, (KN.atL bf2 j).length ≤ 25 * (i + 1) := fun j => by have := hfew2 j; omega
    have hlen5 : (H ++ [-1]).length = i + 1 := by rw [hHs, List.length_replicate]
    refine brk_i (fun h2 => ?_) (fun h2 => ?_)
    ·have h2 : (l.length : Int) = 0 := of_decide_eq_true h2
     conv=>whnf
     repeat (refine forceH_fam (T' := famR B 1 0 (rowsN bf2)) (by first | exact rfl | exact cut_famR (by omega) | exact map_famR _ | exact mapcut_famR _ (by omega)) ?_; conv=>whnf)
     refine ownK_whole rfl ?_
     conv=>whnf
     repeat (first
      | (refine forceH_fam (T' := famR B 1 0 (rowsN bf2)) (by first | exact rfl | exact cut_famR (by omega) | exact map_famR _ | exact mapcut_famR _ (by omega) | exact aside_famR (by omega) (by omega) _ | exact moveT_famR (by omega)) ?_; conv=>whnf)
      | (refine forceH_fam (T' := []) (by exact keepT_famR hB rfl) ?_; conv=>whnf))
     refine ownK_whole (by simp [Els.len, intsC, natC]) ?_
     conv=>whnf
     repeat (first
      | (refine forceH_fam (T' := famR B 1 0 (rowsN bf2)) (by first | exact rfl | exact cut_famR (by omega) | exact map_famR _ | exact mapcut_famR _ (by omega) | exact aside_famR (by omega) (by omega) _ | exact moveT_famR (by omega)) ?_; conv=>whnf)
      | (refine forceH_fam (T' := []) (by exact keepT_famR hB rfl) ?_; conv=>whnf))
     refine chk_i (decide_eq_true (by
      show ((intsC (natC line)).length + 1) * 8 ≤ 140737488355328
      simp [intsC, natC]; omega)) ?_
     conv=>whnf
     repeat (first
      | (refine forceH_fam (T' := famR B 1 0 (rowsN bf2)) (by first | exact rfl | exact cut_famR (by omega) | exact map_famR _ | exact mapcut_famR _ (by omega) | exact aside_famR (by omega) (by omega) _ | exact moveT_famR (by omega)) ?_; conv=>whnf)
      | (refine forceH_fam (T' := []) (by exact keepT_famR hB rfl) ?_; conv=>whnf))
     refine arith_in (wrap_i64 (by (try dsimp only); omega)) ?_
     conv=>whnf
     repeat (first
      | (refine forceH_fam (T' := famR B 1 0 (rowsN bf2)) (by first | exact rfl | exact cut_famR (by omega) | exact map_famR _ | exact mapcut_famR _ (by omega) | exact aside_famR (by omega) (by omega) _ | exact moveT_famR (by omega)) ?_; conv=>whnf)
      | (refine forceH_fam (T' := []) (by exact keepT_famR hB rfl) ?_; conv=>whnf))
     refine ⟨(H ++ [-1], left.set i (l.length : Nat), bf2, line ++ [i]), ⟨hHs, by simp only; rw [List.length_set]; exact hll, hb2, hlj2, hbef, by rw [line0_succ hx, if_pos h2, hlin], hf25⟩, ?_⟩
     refine (Wk.subG (B := B) (sz := 1) (rows := rowsN bf2) (e' := [(2, .ptr 2 0), (4, .ptr 4 0), (5, .ptr 5 0), (11, .sl 102 1 0 w.sts.length), (12, .sl 106 1 0 w.sts.length), (13, .sl 170 1 0 (line ++ [i]).length), (14, .d (i64 (i + 1 : Nat)))]) ((102, outO B 1 (rowsN bf2)) :: [(4, .box (.dd [.nils, .nils, .nils, .nils])), (5, .box (.vv [.sl 21 1 0 N, .sl 900000 6 0 w.sts.length, .sl 97 1 0 b.length, .sl 117 1 0 (H ++ [-1]).length])), (21, .arr 1 (.dd (intsC w.ix))), (900000, .arr 6 (.dd (statesC w.sts))), (97, .arr 1 (.dd ((rowsI b).map fun r => [intsD r]))), (106, .arr 1 (.dd (intsC (left.set i (l.length : Nat))))), (117, .arr 1 (.dd (intsC (H ++ [-1])))), (170, .arr 1 (.dd (intsC (natC (line ++ [i])))))]) hB ⟨rfl, rfl, rfl, rfl, rfl, ?env1, rfl, trivial⟩ (fun k hk => by repeat (first | rw [get_one, if_neg (by omega)] | rw [List.cons_append] | rw [List.nil_append])) ⟨?out1, rfl, ?box1, rfl, rfl, rfl, rfl, rfl, ?line1, trivial⟩).trans (Wk.refl _)
     case env1 =>
      show some (V.sl 170 1 0 ((intsC (natC line)).length + 1)) = _
      simp [intsC, natC]
     case out1 =>
      show some (Obj.arr 1 (Els.vv (mapIdLL (killF 170) (mapIdLL (killF 169) (hdrs B 1 0 (rowsN bf2)))))) = _
      rw [kill_rowsN (B := B) (k := 169) (by omega), kill_rowsN (B := B) (k := 170) (by omega)]; rfl
     case box1 => rw [hlen5]; rfl
     case line1 =>
      show some (Obj.arr 1 (Els.dd (intsC (natC line) ++ [[i64 (i : Nat)]]))) = _
      simp [intsC, natC]
    ·have h2 : ¬ (l.length : Int) = 0 := of_decide_eq_false h2
     conv=>whnf
     repeat (refine forceH_fam (T' := famR B 1 0 (rowsN bf2)) (by first | exact rfl | exact cut_famR (by omega) | exact map_famR _ | exact mapcut_famR _ (by omega)) ?_; conv=>whnf)
     refine arith_in (wrap_i64 (by (try dsimp only); omega)) ?_
     conv=>whnf
     repeat (refine forceH_fam (T' := famR B 1 0 (rowsN bf2)) (by first | exact rfl | exact cut_famR (by omega) | exact map_famR _ | exact mapcut_famR _ (by omega)) ?_; conv=>whnf)
     refine ⟨(H ++ [-1], left.set i (l.length : Nat), bf2, line), ⟨hHs, by simp only; rw [List.length_set]; exact hll, hb2, hlj2, hbef, by rw [line0_succ hx, if_neg h2]; exact hlin, hf25⟩, ?_⟩
     refine (Wk.subG (B := B) (sz := 1) (rows := rowsN bf2) (e' := [(2, .ptr 2 0), (4, .ptr 4 0), (5, .ptr 5 0), (11, .sl 102 1 0 w.sts.length), (12, .sl 106 1 0 w.sts.length), (13, .sl 170 1 0 line.length), (14, .d (i64 (i + 1 : Nat)))]) ((102, outO B 1 (rowsN bf2)) :: [(4, .box (.dd [.nils, .nils, .nils, .nils])), (5, .box (.vv [.sl 21 1 0 N, .sl 900000 6 0 w.sts.length, .sl 97 1 0 b.length, .sl 117 1 0 (H ++ [-1]).length])), (21, .arr 1 (.dd (intsC w.ix))), (900000, .arr 6 (.dd (statesC w.sts))), (97, .arr 1 (.dd ((rowsI b).map fun r => [intsD r]))), (106, .arr 1 (.dd (intsC (left.set i (l.length : Nat))))), (117, .arr 1 (.dd (intsC (H ++ [-1])))), (170, .arr 1 (.dd (intsC (natC line))))]) hB ⟨rfl, rfl, rfl, rfl, rfl, rfl, rfl, trivial⟩ (fun k hk => by repeat (first | rw [get_one, if_neg (by omega)] | rw [List.cons_append] | rw [List.nil_append])) ⟨rfl, rfl, ?box1, rfl, rfl, rfl, rfl, rfl, rfl, trivial⟩).trans (Wk.refl _)
     rw [hlen5]; rfl
  ·rintro ⟨H, left, bf, line⟩ ⟨hH, hll, hbl, hlj, hbef, hlin, hfewB⟩
   simp only at hH hll hbl hlj hbef hlin hfewB
   have hbef : bf = BFF := hbef
   rw [hfull] at hH hlj hlin hfewB
   have hleft := left_done (b := b) (by omega) (fun j hj => hlj j (by omega))
   obtain ⟨hbc, hbs⟩ := bef_ok hfull fun i => hw.low i
   rw [hBFF] at hbc hbs
   have hk0 := KN.kfirst (n := w.sts.length) (bf := BFF) hfull
   rw [← hleft, ← hlin, ← hH] at hk0
   have hlf : ∀ j, KN.atI left j ≤ 25 := fun j => by
    by_cases hj : j < w.sts.length
    ·rw [hlj j hj]
     have h1 : b[j]? = some (b[j]'(by omega)) := List.getElem?_eq_getElem _
     have := row_few hR hset hw h1
     unfold KN.atL
     rw [h1]
     simp only [Option.getD_some]; omega
    ·unfold KN.atI
     rw [List.getElem?_eq_none (by omega)]
     simp
   subst hbef
   conv=>whnf
   repeat (refine forceH_fam (T' := famR B 1 0 (rowsN bf)) (by first | exact rfl | exact cut_famR (by omega) | exact map_famR _ | exact mapcut_famR _ (by omega)) ?_; conv=>whnf)
   refine brk_i (fun h => absurd h (by simp; omega)) (fun _ => ?_)
   conv=>whnf
   repeat (refine forceH_fam (T' := famR B 1 0 (rowsN bf)) (by first | exact rfl | exact cut_famR (by omega) | exact map_famR _ | exact mapcut_famR _ (by omega)) ?_; conv=>whnf)
   have hbl2 : bf.length = w.sts.length := hbl
   generalize hRES : KN.loopK b bf w.sts.length 0 H ⟨left, line⟩ = RES
   have hhei0 : heiW b w.sts.length = RES := by
    unfold heiW
    rw [hBFF, ← hleft, ← hlin, ← hH]
    exact hRES
   refine LoopA_p (T := tys) tysOk (by exact drawsB_spec mixed tysOk (by decide +kernel)) (α := Nat × List Int × KN.KS) (fun x => ⟨[(2, .ptr 2 0), (4, .ptr 4 0), (5, .ptr 5 0), (11, .sl 102 1 0 w.sts.length), (12, .sl 106 1 0 w.sts.length), (13, .sl 170 1 0 x.2.2.line.length), (16, .d (i64 x.1))], [(102, .arr 1 (.dd ((rowsI bf).map fun r => [intsD r]))), (4, .box (.dd [.nils, .nils, .nils, .nils])), (5, .box (.vv [.sl 21 1 0 N, .sl 900000 6 0 w.sts.length, .sl 97 1 0 b.length, .sl 117 1 0 b.length])), (21, .arr 1 (.dd (intsC w.ix))), (900000, .arr 6 (.dd (statesC w.sts))), (97, .arr 1 (.dd ((rowsI b).map fun r => [intsD r]))), (106, .arr 1 (.dd (intsC x.2.2.left))), (117, .arr 1 (.dd (intsC x.2.1))), (170, .arr 1 (.dd (intsC (natC x.2.2.line))))], st⟩)
    (fun x => KN.KInv w.sts.length b bf x.1 x.2.1 x.2.2 ∧ (∀ j, KN.atI x.2.2.left j ≤ 25) ∧ KN.loopK b bf (w.sts.length - x.1) x.1 x.2.1 x.2.2 = RES) (fun x => w.sts.length - x.1) (0, H, ⟨left, line⟩) ?wk4 ⟨hk0, hlf, hRES⟩ ?_
   case wk4 =>
    refine (Wk.frzF (O := 102) (B := B) (sz := 1) (ls := bf.map fun l => intsC (natC l)) [(4, .box (.dd [.nils, .nils, .nils, .nils])), (5, .box (.vv [.sl 21 1 0 N, .sl 900000 6 0 w.sts.length, .sl 97 1 0 b.length, .sl 117 1 0 b.length])), (21, .arr 1 (.dd (intsC w.ix))), (900000, .arr 6 (.dd (statesC w.sts))), (97, .arr 1 (.dd ((rowsI b).map fun r => [intsD r]))), (106, .arr 1 (.dd (intsC left))), (117, .arr 1 (.dd (intsC H))), (170, .arr 1 (.dd (intsC (natC line))))] ?fam2 rfl ⟨rfl, ?box2, rfl, rfl, rfl, rfl, rfl, rfl, trivial⟩).trans (Wk.sub ⟨rfl, rfl, rfl, rfl, rfl, rfl, rfl, trivial⟩ ⟨?_, rfl, rfl, rfl, rfl, rfl, rfl, rfl, rfl, trivial⟩)
    case fam2 =>
     have e : (bf.map fun l => intsC (natC l)).map Rw.at' = rowsN bf := by unfold rowsN; rw [List.map_map]; rfl
     rw [e]
     exact ⟨hB, rfl, fun k hk => by repeat (first | rw [get_one, if_neg (by omega)] | rw [List.cons_append] | rw [List.nil_append]), by decide, fun K' n hm => by
      unfold rowsN at hm
      obtain ⟨x, _, hx⟩ := List.mem_map.1 hm
      cases hx⟩
    case box2 =>
     show some (Obj.box (Cells.vv [V.sl 21 1 0 N, V.sl 900000 6 0 w.sts.length, V.sl 97 1 0 b.length, V.sl 117 1 0 H.length])) = _
     rw [hH, List.length_replicate, hfull]
    ·show some (Obj.arr 1 (Els.dd ((bf.map fun l => intsC (natC l)).map fun l => [D.vs l]))) = _
     unfold rowsI
     rw [List.map_map, List.map_map]
     rfl
   rintro ⟨p, H, s⟩ ⟨hK, hl25, hres⟩
   simp only at hK hl25 hres
   have hpl := hK.hp
   have hln := KN.nodup_len hK.inn.nodup hK.inn.low
   have hHl := hK.hH
   conv=>whnf
   refine brk_i (fun h1 => ?_) (fun h1 => ?_)
   ·have h1 : p < s.line.length := by have := of_decide_eq_true h1; simp only at this; omega
    obtain ⟨i, hi⟩ : ∃ i, s.line[p]? = some i := ⟨_, List.getElem?_eq_getElem h1⟩
    obtain ⟨hK2, hin⟩ := KN.kstep hbc hbs hK hi
    have hi_n := hK.inn.low i (List.mem_of_getElem? hi)
    obtain ⟨l, hx⟩ : ∃ l, b[i]? = some l := ⟨_, List.getElem?_eq_getElem (by omega)⟩
    have hxl : KN.atL b i = l := by unfold KN.atL; rw [hx]; rfl
    have hl25b := row_few hR hset hw hx
    have hl_n : ∀ v ∈ l, v < w.sts.length := fun v hv => hw.low i v (by rw [hxl]; exact hv)
    obtain ⟨f, hf⟩ : ∃ f, w.sts.length - p = f + 1 := ⟨w.sts.length - p - 1, by omega⟩
    rw [hf, KN.loopK, hi] at hres
    simp only at hres
    rw [hxl] at hK2 hres
    conv=>whnf
    refine brk_i (fun _ => ?_) (fun h => absurd h (by simp [h1]))
    conv=>whnf
    refine cellK_i [i64 (i : Nat)] (by
     have : (natC s.line)[p]? = some (i : Int) := by unfold natC; rw [List.getElem?_map, hi]; rfl
     unfold intsC
     rw [Int.toNat_natCast, Nat.zero_add, List.getElem?_map, this]; rfl) ?_
    conv=>whnf
    generalize hHF : KN.highF H l = HF at hK2 hres
    refine LoopA_i (T := tys) tysOk (by exact drawsB_spec mixed tysOk (by decide +kernel)) l (fun k (h : Int) => ⟨[(2, .ptr 2 0), (4, .ptr 4 0), (5, .ptr 5 0), (11, .sl 102 1 0 w.sts.length), (12, .sl 106 1 0 w.sts.length), (13, .sl 170 1 0 s.line.length), (16, .d (i64 p)), (17, .d (i64 i)), (18, .d (i64 h)), (19, .d (i64 k))], [(102, .arr 1 (.dd ((rowsI bf).map fun r => [intsD r]))), (4, .box (.dd [.nils, .nils, .nils, .nils])), (5, .box (.vv [.sl 21 1 0 N, .sl 900000 6 0 w.sts.length, .sl 97 1 0 b.length, .sl 117 1 0 b.length])), (21, .arr 1 (.dd (intsC w.ix))), (900000, .arr 6 (.dd (statesC w.sts))), (97, .arr 1 (.dd ((rowsI b).map fun r => [intsD r]))), (106, .arr 1 (.dd (intsC s.left))), (117, .arr 1 (.dd (intsC H))), (170, .arr 1 (.dd (intsC (natC s.line))))], st⟩)
     (fun k r h => r.foldl (fun h j => max h (KN.atI H j + 1)) h = HF ∧ 0 ≤ h ∧ h ≤ 46656) 0 (Wk.sub ⟨(by first | rfl | (simp only [List.length_map]; rfl) | simp [PX.get]), (by first | rfl | (simp only [List.length_map]; rfl) | simp [PX.get]), (by first | rfl | (simp only [List.length_map]; rfl) | simp [PX.get]), (by first | rfl | (simp only [List.length_map]; rfl) | simp [PX.get]), (by first | rfl | (simp only [List.length_map]; rfl) | simp [PX.get]), (by first | rfl | (simp only [List.length_map]; rfl) | simp [PX.get]), (by first | rfl | (simp only [List.length_map]; rfl) | simp [PX.get]), (by first | rfl | (simp only [List.length_map]; rfl) | simp [PX.get]), (by first | rfl | (simp only [List.length_map]; rfl) | simp [PX.get]), (by first | rfl | (simp only [List.length_map]; rfl) | simp [PX.get]), trivial⟩ ⟨(by first | rfl | (simp only [List.length_map]; rfl) | simp [PX.get]), (by first | rfl | (simp only [List.length_map]; rfl) | simp [PX.get]), (by first | rfl | (simp only [List.length_map]; rfl) | simp [PX.get]), (by first | rfl | (simp only [List.length_map]; rfl) | simp [PX.get]), (by first | rfl | (simp only [List.length_map]; rfl) | simp [PX.get]), (by first | rfl | (simp only [List.length_map]; rfl) | simp [PX.get]), (by first | rfl | (simp only [List.length_map]; rfl) | simp [PX.get]), (by first | rfl | (simp only [List.length_map]; rfl) | simp [PX.get]), (by first | rfl | (simp only [List.length_map]; rfl) | simp [PX.get]), trivial⟩) ⟨hHF, by omega, by omega⟩ ?_ ?_
    ·rintro k v r h hv hk hr3 ⟨hfold, hh0, hh1⟩
     have hvn := hl_n v (List.mem_of_getElem? hv)
     have hbd := hK.bd v hvn
     rw [List.foldl_cons] at hfold
     conv=>whnf
     refine brk_i (fun _ => ?_) (fun h => absurd h (by simp; omega))
     conv=>whnf
     refine cellK_i [intsD (natC l)] (rowsI_get hx) ?_
     conv=>whnf
     refine brk_i (fun _ => ?_) (fun h => absurd h (by simp [natC]; omega))
     conv=>whnf
     refine brk_i (fun _ => ?_) (fun h => absurd h (by simp; omega))
     conv=>whnf
     refine cellK_i [intsD (natC l)] (rowsI_get hx) ?_
     conv=>whnf
     refine elemK_i [i64 (v : Nat)] ⟨by omega, by have := natC_get hv; rwa [Nat.zero_add] at this⟩ ?_
     conv=>whnf
     refine brk_i (fun _ => ?_) (fun h => absurd h (by simp; omega))
     conv=>whnf
     refine cellK_i [i64 (KN.atI H v)] (intsC_get (l := H) (by omega)) ?_
     conv=>whnf
     refine arith_in (wrap_i64 (by (try dsimp only); omega)) ?_
     conv=>whnf
     refine arith_in (wrap_i64 (by (try dsimp only); omega)) ?_
     conv=>whnf
     exact ⟨max h (KN.atI H v + 1), ⟨hfold, by omega, by omega⟩, (Wk.sub ⟨rfl, rfl, rfl, rfl, rfl, rfl, rfl, rfl, rfl, rfl, trivial⟩ ⟨rfl, rfl, rfl, rfl, rfl, rfl, rfl, rfl, rfl, trivial⟩)⟩
    ·rintro h ⟨hfold, hh0, hh1⟩
     have hfold : h = HF := hfold
     subst hfold
     conv=>whnf
     refine brk_i (fun _ => ?_) (fun h => absurd h (by simp; omega))
     conv=>whnf
     refine cellK_i [intsD (natC l)] (rowsI_get hx) ?_
     conv=>whnf
     refine brk_i (fun h => absurd h (by simp [natC])) (fun _ => ?_)
     conv=>whnf
     refine brk_i (fun _ => ?_) (fun h => absurd h (by simp; omega))
     conv=>whnf
     refine cellK_i [i64 (KN.atI H i)] (intsC_get (l := H) (by omega)) ?_
     conv=>whnf
     have hrb : bf[i]? = some (KN.atL bf i) := by
      unfold KN.atL
      rw [List.getElem?_eq_getElem (by omega)]; rfl
     have hbn := hbs i hi_n
     have hblen := hfewB i
     generalize hbi : KN.atL bf i = bl at hK2 hin hres hrb hbn hblen
     rw [List.append_nil] at hin
     generalize hS2 : bl.foldl KN.lessK s = S2 at hK2 hres
     refine LoopA_i (T := tys) tysOk (by exact drawsB_spec mixed tysOk (by decide +kernel)) bl (fun k (s2 : KN.KS) => ⟨[(2, .ptr 2 0), (4, .ptr 4 0), (5, .ptr 5 0), (11, .sl 102 1 0 w.sts.length), (12, .sl 106 1 0 w.sts.length), (13, .sl 170 1 0 s2.line.length), (16, .d (i64 p)), (17, .d (i64 i)), (20, .d (i64 k))], [(102, .arr 1 (.dd ((rowsI bf).map fun r => [intsD r]))), (4, .box (.dd [.nils, .nils, .nils, .nils])), (5, .box (.vv [.sl 21 1 0 N, .sl 900000 6 0 w.sts.length, .sl 97 1 0 b.length, .sl 117 1 0 b.length])), (21, .arr 1 (.dd (intsC w.ix))), (900000, .arr 6 (.dd (statesC w.sts))), (97, .arr 1 (.dd ((rowsI b).map fun r => [intsD r]))), (106, .arr 1 (.dd (intsC s2.left))), (117, .arr 1 (.dd (intsC (H.set i h)))), (170, .arr 1 (.dd (intsC (natC s2.line))))], st⟩)
      (fun k r s2 => KN.Inner w.sts.length s2 r ∧ r.foldl KN.lessK s2 = S2 ∧ ∀ j, KN.atI s2.left j ≤ 25) s ?wk5 ⟨hin, hS2, hl25⟩ ?_ ?_
     case wk5 =>
      refine Wk.sub ⟨rfl, rfl, rfl, rfl, rfl, rfl, rfl, rfl, rfl, trivial⟩ ⟨rfl, rfl, rfl, rfl, rfl, rfl, rfl, ?_, rfl, trivial⟩
      show some (Obj.arr 1 (Els.dd ((intsC H).set (0 + ((i : Nat) : Int).toNat) [i64 h]))) = _
      rw [intsC_set]
     ·rintro k v r s2 hv hk hr3 ⟨hinn, hfold2, hs25⟩
      have hvn := hbn v (List.mem_of_getElem? hv)
      have hinn2 := KN.inner_step hvn hinn
      have hmore := hinn.more v hvn
      rw [List.count_cons_self] at hmore
      have hv25 := hs25 v
      have hsl := hinn.len
      have hsl2 := KN.nodup_len hinn.nodup hinn.low
      rw [List.foldl_cons] at hfold2
      have hs25' := less_bd hsl hvn hs25
      conv=>whnf
      refine brk_i (fun _ => ?_) (fun h => absurd h (by simp; omega))
      conv=>whnf
      refine cellK_i [intsD (natC bl)] (rowsI_get hrb) ?_
      conv=>whnf
      refine brk_i (fun _ => ?_) (fun h => absurd h (by simp [natC]; omega))
      conv=>whnf
      refine brk_i (fun _ => ?_) (fun h => absurd h (by simp; omega))
      conv=>whnf
      refine cellK_i [intsD (natC bl)] (rowsI_get hrb) ?_
      conv=>whnf
      refine elemK_i [i64 (v : Nat)] ⟨by omega, by have := natC_get hv; rwa [Nat.zero_add] at this⟩ ?_
      conv=>whnf
      refine brk_i (fun _ => ?_) (fun h => absurd h (by simp; omega))
      conv=>whnf
      refine cellK_i [i64 (KN.atI s2.left v)] (intsC_get (l := s2.left) (by omega)) ?_
      conv=>whnf
      refine arith_in (wrap_i64 (by (try dsimp only); omega)) ?_
      conv=>whnf
      refine brk_i (fun _ => ?_) (fun h => absurd h (by simp; omega))
      conv=>whnf
      refine cellK_i [i64 (KN.atI s2.left v)] (intsC_get (l := s2.left) (by omega)) ?_
      conv=>whnf
      refine brk_i (fun _ => ?_) (fun h => absurd h (by simp; omega))
      conv=>whnf
      refine cellK_i [intsD (natC bl)] (rowsI_get hrb) ?_
      conv=>whnf
      refine elemK_i [i64 (v : Nat)] ⟨by omega, by have := natC_get hv; rwa [Nat.zero_add] at this⟩ ?_
      conv=>whnf
      refine brk_i (fun _ => ?_) (fun h => absurd h (by simp; omega))
      conv=>whnf
      refine cellK_i [i64 (KN.atI s2.left v - 1)] (by
       show ((intsC s2.left).set (0 + ((v : Nat) : Int).toNat) [i64 (KN.atI s2.left v - 1)])[0 + ((v : Nat) : Int).toNat]? = _
       rw [intsC_set, intsC_get (by rw [List.length_set]; omega), KN.atI_set (by omega), if_pos rfl]) ?_
      conv=>whnf
      refine brk_i (fun h2 => ?_) (fun h2 => ?_)
      ·have h2 : KN.atI s2.left v - 1 = 0 := of_decide_eq_true h2
       have hless : KN.lessK s2 v = ⟨s2.left.set v (KN.atI s2.left v - 1), s2.line ++ [v]⟩ := by unfold KN.lessK; rw [if_pos h2]
       rw [hless] at hinn2 hfold2 hs25'
       conv=>whnf
       refine brk_i (fun _ => ?_) (fun h => absurd h (by simp; omega))
       conv=>whnf
       refine cellK_i [intsD (natC bl)] (rowsI_get hrb) ?_
       conv=>whnf
       refine elemK_i [i64 (v : Nat)] ⟨by omega, by have := natC_get hv; rwa [Nat.zero_add] at this⟩ ?_
       conv=>whnf
       refine ownK_whole rfl ?_
       conv=>whnf
       refine ownK_whole (by simp [Els.len, intsC, natC]) ?_
       conv=>whnf
       refine chk_i (decide_eq_true (by
        show ((intsC (natC s2.line)).length + 1) * 8 ≤ 140737488355328
        simp [intsC, natC]; omega)) ?_
       conv=>whnf
       refine arith_in (wrap_i64 (by (try dsimp only); omega)) ?_
       conv=>whnf
       refine ⟨⟨s2.left.set v (KN.atI s2.left v - 1), s2.line ++ [v]⟩, ⟨hinn2, hfold2, hs25'⟩, (Wk.move 252 170 rfl rfl).trans (Wk.sub ⟨rfl, rfl, rfl, rfl, rfl, ?_, rfl, rfl, rfl, trivial⟩ ⟨rfl, rfl, rfl, rfl, rfl, rfl, ?_, rfl, ?_, trivial⟩)⟩
       ·show some (V.sl 170 1 0 ((intsC (natC s2.line)).length + 1)) = _
        simp [intsC, natC]
       ·show some (Obj.arr 1 (Els.dd ((intsC s2.left).set (0 + ((v : Nat) : Int).toNat) [i64 (KN.atI s2.left v - 1)]))) = _
        rw [intsC_set]
       ·show some (Obj.arr 1 (Els.dd (intsC (natC s2.line) ++ [[i64 (v : Nat)]]))) = _
        simp [intsC, natC]
      ·have h2 : ¬ KN.atI s2.left v - 1 = 0 := of_decide_eq_false h2
       have hless : KN.lessK s2 v = ⟨s2.left.set v (KN.atI s2.left v - 1), s2.line⟩ := by unfold KN.lessK; rw [if_neg h2]
       rw [hless] at hinn2 hfold2 hs25'
       conv=>whnf
       refine arith_in (wrap_i64 (by (try dsimp only); omega)) ?_
       conv=>whnf
       refine ⟨⟨s2.left.set v (KN.atI s2.left v - 1), s2.line⟩, ⟨hinn2, hfold2, hs25'⟩, Wk.sub ⟨rfl, rfl, rfl, rfl, rfl, rfl, rfl, rfl, rfl, trivial⟩ ⟨rfl, rfl, rfl, rfl, rfl, rfl, ?_, rfl, rfl, trivial⟩⟩
       show some (Obj.arr 1 (Els.dd ((intsC s2.left).set (0 + ((v : Nat) : Int).toNat) [i64 (KN.atI s2.left v - 1)]))) = _
       rw [intsC_set]
     ·rintro s2 ⟨hinn, hfold2, hs25⟩
      have hfold2 : s2 = S2 := hfold2
      subst hfold2
      conv=>whnf
      refine brk_i (fun _ => ?_) (fun h => absurd h (by simp; omega))
      conv=>whnf
      refine cellK_i [intsD (natC bl)] (rowsI_get hrb) ?_
      conv=>whnf
      refine brk_i (fun h => absurd h (by simp [natC])) (fun _ => ?_)
      conv=>whnf
      refine arith_in (wrap_i64 (by (try dsimp only); omega)) ?_
      conv=>whnf
      exact ⟨(p + 1, H.set i h, s2), by simp only; omega, ⟨hK2, hs25, by simp only; rw [show w.sts.length - (p + 1) = f by omega]; exact hres⟩, (Wk.sub ⟨rfl, rfl, rfl, rfl, rfl, rfl, rfl, trivial⟩ ⟨rfl, rfl, rfl, rfl, rfl, rfl, rfl, rfl, rfl, trivial⟩)⟩
   ·have h1 : ¬ p < s.line.length := by have := of_decide_eq_false h1; simp only at this; omega
    rw [loopK_end (by omega)] at hres
    have hhei : heiW b w.sts.length = H := hhei0.trans hres.symm
    conv=>whnf
    rw [hWD]
    unfold webDW
    rw [hhei]
    refine RetA_view 1 (ds := [.agg [intsD w.ix, statesD w.sts, rotaD (rowsI b), intsD H]]) (viewL_cons (show viewV _ (.agg [.sl 21 1 0 N, .sl 900000 6 0 w.sts.length, .sl 97 1 0 b.length, .sl 117 1 0 b.length]) = _ from (by
     rw [viewV, viewL_cons (viewV_sl' (es' := intsC w.ix) rfl rfl (by simp [intsC, hw.ok.len, hN2, manyN])) (viewL_cons (viewV_sl' (es' := statesC w.sts) rfl rfl (by simp [statesC])) (viewL_cons (viewV_sl' (es' := (rowsI b).map fun r => [intsD r]) rfl rfl (by simp [rowsI])) (viewL_cons (viewV_sl' (es' := intsC H) rfl rfl (by simp [intsC, hHl, hfull])) rfl)))]
     rfl
     )) rfl) ⟨⟨?_, rfl⟩, rfl⟩
    rfl
end Go.PX
namespace Go.PX
open Go.Proofs
def onL (c : WCase) (t : Tired) : List (List Int) := (canS c (othersR c (-1)) t).filter fun g => endB c (allMen c) (behindF c t g)
theorem WebR.step {c : WCase} (hR : WR c) (W : WebR c (othersR c (-1))) {t : Tired} (ht : t ∈ W.w.sts) {g : List Int} (hg : g ∈ canS c (othersR c (-1)) t) :
  behindF c t g ∈ W.w.sts ∧ ∃ q : Nat, KN.atI W.w.ix (codN (behindF c t g)) = (q : Int) + 1 ∧ q < W.w.sts.length ∧ (KN.atI W.H q < 0 ↔ endB c (allMen c) (behindF c t g) = true) := by
 obtain ⟨h1, q, h2, h3⟩ := W.done.find W.full ht (List.mem_map_of_mem (f := behindF c t) hg)
 exact ⟨h1, q, h2, (List.getElem?_eq_some_iff.1 h3).1, W.neg hR (othersR_set hR) h3⟩
theorem intsD_get {l : List Int} {k : Nat} (h : k < l.length) : (l.map fun n => [i64 n])[k]? = some [i64 (KN.atI l k)] := by
 unfold KN.atI
 rw [List.getElem?_map, List.getElem?_eq_getElem h]
 rfl
theorem wa74 (c : WCase) (hR : WR c) (W : WebR c (othersR c (-1))) (t : Tired) (ht : t ∈ W.w.sts) : FnV Try.prog 74 [c.d, W.d, t.d] (rotaD (onL c t)) := by
 refine fnV_of mixed tysOk Try.func74 rfl (ft := ft74) 3 (by decide +kernel) (by rfl) fun {σ} Y st => ?_
 conv=>whnf
 have hm := hR.men
 have htV := W.done.ok.inU t ht
 obtain ⟨hg1, hg2, hg3⟩ := canS_facts hR (othersR_set hR) htV
 have hol : (othersR c (-1)).length ≤ 5 := by
  unfold othersR
  rw [List.length_map]
  exact Nat.le_trans (List.length_filter_le _ _) (by rw [List.length_range]; exact hm.2)
 refine DrawCall_v (ds := [c.d, i64 (-1)]) (wa50 c hm.2 (-1)) rfl rfl ?_
 conv=>whnf
 refine DrawCall_v (ds := [c.d, t.d, intsD (othersR c (-1))]) (wa97 c hR t htV.u _ hol) rfl rfl ?_
 conv=>whnf
 generalize hM : onL c t = M
 unfold onL at hM
 have hstep := fun g hg => W.step hR ht (g := g) hg
 generalize canS c (othersR c (-1)) t = gs at hM hg1 hg2 hg3 hstep ⊢
 have hWd : W.d = .agg [intsD W.w.ix, statesD W.w.sts, rotaD (rowsI W.b), intsD W.H] := rfl
 refine LoopA_i (T := tys) tysOk (by exact drawsB_spec mixed tysOk (by decide +kernel)) gs (fun i (acc : List (List Int)) => ⟨[(3, .ptr 3 0), (4, .ptr 4 0), (5, .ptr 5 0), (7, .d (rotaD gs)), (8, .sl 45 1 0 acc.length), (9, .d (i64 i))], [(3, .box (.dd c.cells)), (4, .box (.dd [intsD W.w.ix, statesD W.w.sts, rotaD (rowsI W.b), intsD W.H])), (5, .box (.dd t.cells)), (45, .arr 1 (.dd (acc.map fun r => [intsD r])))], st⟩)
  (fun i r acc => acc.length ≤ i ∧ M = acc ++ r.filter fun g => endB c (allMen c) (behindF c t g)) [] ((Wk.born 8 45 1 rfl rfl rfl).trans (Wk.sub ⟨(by first | rfl | (simp only [List.length_map]; rfl) | simp [PX.get]), (by first | rfl | (simp only [List.length_map]; rfl) | simp [PX.get]), (by first | rfl | (simp only [List.length_map]; rfl) | simp [PX.get]), (by first | rfl | (simp only [List.length_map]; rfl) | simp [PX.get]), (by first | rfl | (simp only [List.length_map]; rfl) | simp [PX.get]), (by first | rfl | (simp only [List.length_map]; rfl) | simp [PX.get]), trivial⟩ ⟨(by first | rfl | (simp only [List.length_map]; rfl) | simp [PX.get]), (by first | rfl | (simp only [List.length_map]; rfl) | simp [PX.get]), (by first | rfl | (simp only [List.length_map]; rfl) | simp [PX.get]), (by first | rfl | (simp only [List.length_map]; rfl) | simp [PX.get]), trivial⟩)) ⟨by simp, hM.symm⟩ ?_ ?_
 ·rintro i x r acc hx hi hr2 ⟨hal, he⟩
  have hxm := List.mem_of_getElem? hx
  obtain ⟨_, q, hq1, hq2, hq3⟩ := hstep x hxm
  have huV := hg3 _ (List.mem_map_of_mem (f := behindF c t) hxm)
  have hcod := codT_bd hR huV.u
  have hcN := codN_lt hR _ huV
  have hixl := W.done.ok.len
  have hHl := W.kahn.hH
  have hfew := W.few
  rw [List.filter_cons] at he
  conv=>whnf
  refine brk_i (fun _ => ?_) (fun h => absurd hi (by have := of_decide_eq_false h; simp at this; omega))
  conv=>whnf
  refine elemK_nat hx ?_
  conv=>whnf
  refine DrawCall_v (ds := [c.d, t.d, intsD x]) (wa78 c hR t (InU.tokV hR htV) htV.z x (by have := hg2 x hxm; omega)) rfl rfl ?_
  conv=>whnf
  refine DrawCall_v (ds := [(behindF c t x).d]) (wa98 _ (InU.tokV hR huV)) rfl rfl ?_
  conv=>whnf
  have hcn : codT (behindF c t x) = ((codN (behindF c t x) : Nat) : Int) := by unfold codN; omega
  refine elemK_i [i64 (KN.atI W.w.ix (codN (behindF c t x)))] ⟨hcod.1, intsD_get (l := W.w.ix) (k := codN (behindF c t x)) (by omega)⟩ ?_
  rw [hq1]
  conv=>whnf
  refine arith_to (q : Int) (by omega) (wrap_i64 (by omega)) ?_
  conv=>whnf
  refine elemK_i [i64 (KN.atI W.H q)] ⟨by omega, intsD_get (l := W.H) (k := q) (by omega)⟩ ?_
  conv=>whnf
  refine brk_i (fun h1 => ?_) (fun h1 => ?_)
  ·have h1 := hq3.1 (of_decide_eq_true h1)
   rw [if_pos h1] at he
   conv=>whnf
   refine elemK_nat hx ?_
   conv=>whnf
   refine ownK_whole rfl ?_
   conv=>whnf
   refine ownK_whole (by simp [Els.len]) ?_
   conv=>whnf
   refine chk_i (decide_eq_true (by
    show ((acc.map fun r => [intsD r]).length + 1) * 24 ≤ 140737488355328
    rw [List.length_map]; omega)) ?_
   conv=>whnf
   refine arith_in (wrap_i64 (by (try dsimp only); omega)) ?_
   conv=>whnf
   refine ⟨acc ++ [x], ⟨by simp; omega, by rw [he]; simp⟩, Wk.sub ⟨rfl, rfl, rfl, rfl, ?_, rfl, trivial⟩ ⟨rfl, rfl, rfl, ?_, trivial⟩⟩
   ·show some (V.sl 45 1 0 ((acc.map fun r => [intsD r]).length + 1)) = _
    simp
   ·show some (Obj.arr 1 (Els.dd ((acc.map fun r => [intsD r]) ++ [[intsD x]]))) = _
    simp
  ·have h1 : ¬ (endB c (allMen c) (behindF c t x) = true) := fun h => (of_decide_eq_false h1) (hq3.2 h)
   rw [if_neg h1] at he
   conv=>whnf
   refine arith_in (wrap_i64 (by (try dsimp only); omega)) ?_
   conv=>whnf
   exact ⟨acc, ⟨by omega, he⟩, (Wk.sub ⟨(by first | rfl | (simp only [List.length_map]; rfl) | simp [PX.get]), (by first | rfl | (simp only [List.length_map]; rfl) | simp [PX.get]), (by first | rfl | (simp only [List.length_map]; rfl) | simp [PX.get]), (by first | rfl | (simp only [List.length_map]; rfl) | simp [PX.get]), (by first | rfl | (simp only [List.length_map]; rfl) | simp [PX.get]), (by first | rfl | (simp only [List.length_map]; rfl) | simp [PX.get]), trivial⟩ ⟨(by first | rfl | (simp only [List.length_map]; rfl) | simp [PX.get]), (by first | rfl | (simp only [List.length_map]; rfl) | simp [PX.get]), (by first | rfl | (simp only [List.length_map]; rfl) | simp [PX.get]), (by first | rfl | (simp only [List.length_map]; rfl) | simp [PX.get]), trivial⟩)⟩
 ·rintro acc ⟨hal, he⟩
  rw [List.filter_nil, List.append_nil] at he
  subst he
  conv=>whnf
  refine brk_i (fun h => absurd h (by simp)) (fun _ => ?_)
  conv=>whnf
  refine RetA_view 1 (ds := [rotaD M]) ?_ ⟨⟨rfl, rfl⟩, rfl⟩
  exact viewL_cons (viewV_sl (es := M.map fun r => [intsD r]) rfl (by simp)) rfl
theorem on_next {c : WCase} (hR : WR c) {rota : List (List Int)} (hu : InU c (goodT c rota)) : onL c (goodT c rota) = nextL c rota := by
 unfold onL nextL nextG
 rw [canS_eq hR (othersR_set hR) hu, List.filter_map]
 congr 1
 refine List.filter_congr fun p hp => ?_
 show endB c (allMen c) (behindF c (goodT c rota) p.1) = endB c (allMen c) p.2
 rw [(groupsL_ok hp).2]
theorem others_len {c : WCase} (hR : WR c) (but : Int) : (othersR c but).length ≤ 5 := by
 unfold othersR
 rw [List.length_map]
 exact Nat.le_trans (List.length_filter_le _ _) (by rw [List.length_range]; exact hR.men.2)
theorem wa75 (c : WCase) (hR : WR c) (men : List Int) (hmen : men.length ≤ 5) {set : Int} (hs : SameSet c men set) (W : WebR c men) (hW : W.d = webD c men) : FnV Try.prog 75 [c.d, intsD men] W.d := by
 rw [hW]
 exact fun {σ} => wa75_a c hR men hmen ⟨set, hs⟩
theorem wa26 (c : WCase) (rota : List (List Int)) : FnV Try.prog 26 [c.d, rotaD rota] (.tup [if goodE c rota = 0 then rotaD (nextL c rota) else .nils, i64 (goodE c rota)]) := by
 refine fnV_of mixed tysOk Try.func26 rfl (ft := ft26) 2 (by decide +kernel) (by rfl) fun {σ} Y st => ?_
 conv=>whnf
 refine CallA_v (wa67 c rota) rfl rfl ?_
 conv=>whnf
 by_cases h0 : goodE c rota = 0
 ·obtain ⟨hR, hl, hwalk⟩ := goodT_ok h0
  rw [h0]
  simp only [if_true]
  obtain ⟨W, hW⟩ := webR_ex hR (othersR_set hR)
  have hG := GoodR.of h0
  have hE : endT c rota = goodT c rota := rfl
  have hin : endT c rota ∈ W.w.sts := W.walk hR (othersR_set hR) (Int.le_refl 0) (List.mem_of_getElem? W.zero) hG.good hG.asc
  rw [← on_next hR (show InU c (goodT c rota) from hG.InU hR), ← hE]
  conv=>whnf
  refine DrawCall_v (ds := [c.d, i64 (-1)]) (wa50 c hR.men.2 (-1)) rfl rfl ?_
  conv=>whnf
  refine DrawCall_v (ds := [c.d, intsD (othersR c (-1))]) (wa75 c hR _ (others_len hR _) (othersR_set hR) W hW) rfl rfl ?_
  conv=>whnf
  refine DrawCall_v (ds := [c.d, rotaD rota]) (wa76 c hR rota hG hl) rfl rfl ?_
  conv=>whnf
  refine DrawCall_v (ds := [c.d, W.d, (endT c rota).d]) (wa74 c hR W _ hin) rfl rfl ?_
  conv=>whnf
  exact RetA_view 0 rfl ⟨⟨rfl, rfl⟩, rfl⟩
 ·rw [if_neg h0]
  conv=>whnf
  refine brk_i (fun _ => ?_) (fun h1 => absurd h1 (by simp [h0]))
  conv=>whnf
  exact RetA_view 0 rfl ⟨⟨rfl, rfl⟩, rfl⟩
end Go.PX
namespace Go.PX
open Go.Proofs
theorem next_len {c : WCase} (hR : WR c) {rota : List (List Int)} : (nextL c rota).length ≤ 25 ∧ ∀ r ∈ nextL c rota, r.length ≤ 2 := by
 refine ⟨?_, fun r hr => ?_⟩
 ·unfold nextL nextG
  rw [List.length_map]
  exact Nat.le_trans (List.length_filter_le ..) (groups_many hR)
 ·obtain ⟨u, hu, _⟩ := next_mem hr
  exact groups_len hR hu
end Go.PX
namespace Go.PX
open Go.Proofs
theorem relax_rotaN (l : List (List Int)) : relax (rotaN l) = rotaD l := by
 cases l with
 | nil => rfl
 | cons a r => exact relax_rota (a :: r)
theorem relax_if {p : Prop} [Decidable p] (l : List (List Int)) (a : D) (h : relax a = rotaD l) : relax (if p then a else .nils) = rotaD (if p then l else []) := by
 split
 ·exact h
 ·rfl
theorem relax_ifI {p : Prop} [Decidable p] (l : List Int) (a : D) (h : relax a = intsD l) : relax (if p then a else .nils) = intsD (if p then l else []) := by
 split
 ·exact h
 ·rfl
theorem wa22r (c : WCase) (rota : List (List Int)) : FnV Try.prog 22 [c.d, rotaD rota] (.tup [rotaD (if goodE c rota = 0 then canL c rota else []), i64 (goodE c rota)]) :=
 FnV.relax (fun {σ} => wa22 c rota) (by show D.tup [relax _, _] = _; rw [relax_if _ _ (relax_rotaN _)]; rfl)
theorem wa23r (c : WCase) (rota : List (List Int)) : FnV Try.prog 23 [c.d, rotaD rota] (.tup [rotaD (if goodE c rota = 0 then canL c rota else []), i64 (goodE c rota)]) :=
 FnV.relax (fun {σ} => wa23 c rota) (by show D.tup [relax _, _] = _; rw [relax_if _ _ (relax_rota _)]; rfl)
theorem wa25r (c : WCase) (rota : List (List Int)) : FnV Try.prog 25 [c.d, rotaD rota] (.tup [rotaD (if goodE c rota = 0 then nextL c rota else []), i64 (goodE c rota)]) :=
 FnV.relax (fun {σ} => wa25 c rota) (by show D.tup [relax _, _] = _; rw [relax_if _ _ (relax_rotaN _)]; rfl)
theorem wa26r (c : WCase) (rota : List (List Int)) : FnV Try.prog 26 [c.d, rotaD rota] (.tup [rotaD (if goodE c rota = 0 then nextL c rota else []), i64 (goodE c rota)]) :=
 FnV.relax (fun {σ} => wa26 c rota) (by show D.tup [relax _, _] = _; rw [relax_if _ _ (relax_rota _)]; rfl)
theorem wa19r (c : WCase) (rota : List (List Int)) : FnV Try.prog 19 [c.d, rotaD rota] (.tup [intsD (if goodE c rota = 0 then stoodL c.men.length rota else []), i64 (goodE c rota)]) :=
 FnV.relax (fun {σ} => wa19 c rota) (by show D.tup [relax _, _] = _; rw [relax_ifI _ _ (relax_ints _)]; rfl)
theorem wa20r (c : WCase) (rota : List (List Int)) : FnV Try.prog 20 [c.d, rotaD rota] (.tup [intsD (if goodE c rota = 0 then stoodL c.men.length rota else []), i64 (goodE c rota)]) :=
 FnV.relax (fun {σ} => wa20 c rota) (by
  show D.tup [relax _, _] = _
  by_cases h0 : goodE c rota = 0
  ·rw [if_pos h0, if_pos h0, stood_eq h0, relax_ints]; rfl
  ·rw [if_neg h0, if_neg h0]; rfl)
theorem stoodR_len (n : Nat) (rota : List (List Int)) : (stoodR n rota).length = n := by
 unfold stoodR
 simp
theorem can_few {c : WCase} {rota : List (List Int)} (h0 : goodE c rota = 0) : (canL c rota).length ≤ 25 ∧ ∀ r ∈ canL c rota, r.length ≤ 2 := by
 have hR := (goodT_ok h0).1
 obtain ⟨hs1, hs2, hs3⟩ := slot_men hR rota.length
 have hm := hR.men
 have hLok := lists_ok (below := c.men.length) (many := (slotOf c rota.length).men.toNat) (p := []) (fun x hx => by cases hx)
 have hLn : (listsF c.men.length (slotOf c rota.length).men.toNat []).length ≤ 25 := Nat.le_trans (listsF_many hm.2) (Nat.le_trans (Nat.pow_le_pow_right (by omega) (show (slotOf c rota.length).men.toNat ≤ 2 by omega)) (by decide))
 rw [can_eq h0]
 refine ⟨Nat.le_trans (List.length_filter_le _ _) hLn, fun r hr => ?_⟩
 have := (hLok r (List.mem_filter.1 hr).1).1
 rw [this]; simp; omega
theorem wa3 (c : WCase) (rota : List (List Int)) : FnV Try.prog 3 [c.d, rotaD rota] (.bool true) := by
 refine fnV_of mixed tysOk Try.func3 rfl (ft := ft3) 2 (by decide +kernel) (by rfl) fun {σ} Y st => ?_
 conv=>whnf
 have hcan : ∃ A, (if goodE c rota = 0 then canL c rota else []) = A ∧ A.length < 1000000 ∧ ∀ r ∈ A, r.length < 1000000 := by
  refine ⟨_, rfl, ?_⟩
  split
  ·rename_i h0
   obtain ⟨h1, h2⟩ := can_few h0
   exact ⟨by omega, fun r hr => by have := h2 r hr; omega⟩
  ·exact ⟨by simp, fun r hr => by cases hr⟩
 have hnext : ∃ A, (if goodE c rota = 0 then nextL c rota else []) = A ∧ A.length < 1000000 ∧ ∀ r ∈ A, r.length < 1000000 := by
  refine ⟨_, rfl, ?_⟩
  split
  ·rename_i h0
   obtain ⟨h1, h2⟩ := next_len (goodT_ok h0).1 (rota := rota)
   exact ⟨by omega, fun r hr => by have := h2 r hr; omega⟩
  ·exact ⟨by simp, fun r hr => by cases hr⟩
 have hstood : ∃ A, (if goodE c rota = 0 then stoodL c.men.length rota else []) = A ∧ A.length < 1000000 := by
  refine ⟨_, rfl, ?_⟩
  split
  ·rename_i h0
   rw [stood_eq h0, stoodR_len]
   have := (goodT_ok h0).1.men
   omega
  ·simp
 have h19 := fun {σ} => @wa19r c rota σ
 have h20 := fun {σ} => @wa20r c rota σ
 have h22 := fun {σ} => @wa22r c rota σ
 have h23 := fun {σ} => @wa23r c rota σ
 have h25 := fun {σ} => @wa25r c rota σ
 have h26 := fun {σ} => @wa26r c rota σ
 obtain ⟨A1, e1, c1, c2⟩ := hcan
 obtain ⟨A2, e2, c3, c4⟩ := hnext
 obtain ⟨A3, e3, c5⟩ := hstood
 rw [e1] at h22 h23
 rw [e2] at h25 h26
 rw [e3] at h19 h20
 generalize hge : goodE c rota = E at h19 h20 h22 h23 h25 h26
 refine CallA_v (wa15 c) rfl rfl ?_
 conv=>whnf
 refine CallA_v (wa16 c) rfl rfl ?_
 conv=>whnf
 generalize checkW c = K
 have h17 : FnV Try.prog 17 [c.d, rotaD rota] _ := fun {σ} => wa17 c rota
 have h18 : FnV Try.prog 18 [c.d, rotaD rota] _ := fun {σ} => wa18 c rota
 generalize badF c rota = K2 at h17 h18
 repeat' (first
  | (refine CallA_v (h17) rfl rfl ?_; conv=>whnf)
  | (refine CallA_view (h17) rfl 1 rfl ?_; conv=>whnf)
  | (refine DrawCall_v (h17) rfl rfl ?_; conv=>whnf)
  | (refine DrawCall_view (h17) rfl 1 rfl ?_; conv=>whnf)
  | (refine CallA_v (h18) rfl rfl ?_; conv=>whnf)
  | (refine CallA_view (h18) rfl 1 rfl ?_; conv=>whnf)
  | (refine DrawCall_v (h18) rfl rfl ?_; conv=>whnf)
  | (refine DrawCall_view (h18) rfl 1 rfl ?_; conv=>whnf)
  | (refine CallA_v (h19) rfl rfl ?_; conv=>whnf)
  | (refine CallA_view (h19) rfl 1 rfl ?_; conv=>whnf)
  | (refine DrawCall_v (h19) rfl rfl ?_; conv=>whnf)
  | (refine DrawCall_view (h19) rfl 1 rfl ?_; conv=>whnf)
  | (refine CallA_v (h20) rfl rfl ?_; conv=>whnf)
  | (refine CallA_view (h20) rfl 1 rfl ?_; conv=>whnf)
  | (refine DrawCall_v (h20) rfl rfl ?_; conv=>whnf)
  | (refine DrawCall_view (h20) rfl 1 rfl ?_; conv=>whnf)
  | (refine CallA_v (h22) rfl rfl ?_; conv=>whnf)
  | (refine CallA_view (h22) rfl 1 rfl ?_; conv=>whnf)
  | (refine DrawCall_v (h22) rfl rfl ?_; conv=>whnf)
  | (refine DrawCall_view (h22) rfl 1 rfl ?_; conv=>whnf)
  | (refine CallA_v (h23) rfl rfl ?_; conv=>whnf)
  | (refine CallA_view (h23) rfl 1 rfl ?_; conv=>whnf)
  | (refine DrawCall_v (h23) rfl rfl ?_; conv=>whnf)
  | (refine DrawCall_view (h23) rfl 1 rfl ?_; conv=>whnf)
  | (refine CallA_v (h25) rfl rfl ?_; conv=>whnf)
  | (refine CallA_view (h25) rfl 1 rfl ?_; conv=>whnf)
  | (refine DrawCall_v (h25) rfl rfl ?_; conv=>whnf)
  | (refine DrawCall_view (h25) rfl 1 rfl ?_; conv=>whnf)
  | (refine CallA_v (h26) rfl rfl ?_; conv=>whnf)
  | (refine CallA_view (h26) rfl 1 rfl ?_; conv=>whnf)
  | (refine DrawCall_v (h26) rfl rfl ?_; conv=>whnf)
  | (refine DrawCall_view (h26) rfl 1 rfl ?_; conv=>whnf)
  | (refine CallA_v (fn19 A3 A3 c5) rfl rfl ?_; conv=>whnf)
  | (refine CallA_view (fn19 A3 A3 c5) rfl 1 rfl ?_; conv=>whnf)
  | (refine DrawCall_v (fn19 A3 A3 c5) rfl rfl ?_; conv=>whnf)
  | (refine DrawCall_view (fn19 A3 A3 c5) rfl 1 rfl ?_; conv=>whnf)
  | (refine CallA_v (wa24 A1 A1 c1 c2) rfl rfl ?_; conv=>whnf)
  | (refine CallA_view (wa24 A1 A1 c1 c2) rfl 1 rfl ?_; conv=>whnf)
  | (refine DrawCall_v (wa24 A1 A1 c1 c2) rfl rfl ?_; conv=>whnf)
  | (refine DrawCall_view (wa24 A1 A1 c1 c2) rfl 1 rfl ?_; conv=>whnf)
  | (refine CallA_v (wa24 A2 A2 c3 c4) rfl rfl ?_; conv=>whnf)
  | (refine CallA_view (wa24 A2 A2 c3 c4) rfl 1 rfl ?_; conv=>whnf)
  | (refine DrawCall_v (wa24 A2 A2 c3 c4) rfl rfl ?_; conv=>whnf)
  | (refine DrawCall_view (wa24 A2 A2 c3 c4) rfl 1 rfl ?_; conv=>whnf)
  | (refine CallA_v (wa27) rfl rfl ?_; conv=>whnf)
  | (refine CallA_view (wa27) rfl 1 rfl ?_; conv=>whnf)
  | (refine DrawCall_v (wa27) rfl rfl ?_; conv=>whnf)
  | (refine DrawCall_view (wa27) rfl 1 rfl ?_; conv=>whnf)
  | (simp only [eq_self, decide_true, Bool.not_true]; conv=>whnf)
  | (refine arith_in (wrap_i64 (by (try dsimp only); omega)) ?_; conv=>whnf)
  | (refine elemK_nat (by assumption) ?_; conv=>whnf)
  | (refine ownK_whole (by first | rfl | assumption | (simp [Els.len]; done) | (simp [Els.len]; omega)) ?_; conv=>whnf)
  | (refine chk_i (by first | (exact decide_eq_true (by (try simp only [List.length_map]); omega)) | (simp [Els.len, Els.cons, V.cells, Els.toV, injL]; done) | (simp [Els.len, Els.cons, V.cells, Els.toV, injL]; omega)) ?_; conv=>whnf)
  | fail)
 all_goals exact RetA_view 0 rfl ⟨⟨rfl, rfl⟩, rfl⟩
end Go.PX
