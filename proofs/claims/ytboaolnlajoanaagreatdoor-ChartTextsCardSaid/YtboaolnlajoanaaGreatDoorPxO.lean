import Derived.Test.YtboaolnlajoanaaGreatDoorPxN
import Derived.Test.YtboaolnlajoanaaGreatDoorPxM
import Derived.Test.YtboaolnlajoanaaGreatDoorPxL
import Derived.Test.YtboaolnlajoanaaGreatDoorPxH
import Derived.Test.YtboaolnlajoanaaGreatDoorPxI
import Derived.Test.YtboaolnlajoanaaGreatDoorPxK
import Derived.Test.YtboaolnlajoanaaGreatDoorPxJ
import Derived.Laws.IdiomStrings
set_option linter.all false
set_option maxRecDepth 10000
namespace Go.PX
open Go.Proofs
def atP (l : List Pt) (i : Nat) : Pt := (l[i]?).getD ⟨0, 0⟩
def cornerOk (l : List Pt) (i n : Nat) : Bool := decide (n = i) || decide (n = (i + 1) % l.length) || decide (0 < leftF ((atP l ((i + 1) % l.length)).sub (atP l i)) ((atP l n).sub (atP l i)))
def rowOk (l : List Pt) (i : Nat) : Bool := (List.range l.length).all (cornerOk l i)
def roundR (l : List Pt) : Bool := (List.range l.length).all (rowOk l)
theorem atP_get {l : List Pt} {i : Nat} (h : i < l.length) : l[i]? = some (atP l i) := by
 unfold atP
 simp [h]
theorem atP_mem {l : List Pt} {i : Nat} (h : i < l.length) : atP l i ∈ l := by
 unfold atP
 rw [List.getElem?_eq_getElem h]
 exact List.getElem_mem h
theorem range_get {n i q : Nat} (h : (List.range n)[i]? = some q) : q = i := by
 have hi : i < n := by simpa using (List.getElem?_eq_some_iff.1 h).1
 rw [List.getElem?_range hi] at h
 cases h; rfl
set_option maxHeartbeats 2000000 in
theorem ch106 (l : List Pt) (hl : l.length < 1000) (hp : ∀ p ∈ l, Pin 10000 p) : FnV Tryz.prog 106 [ptsD l] (.bool (roundR l)) := by
 refine fnV_of mixed tysOk Tryz.func106 rfl (ft := ft106) 1 (by decide +kernel) (by rfl) fun {σ} Y st => ?_
 conv=>whnf
 refine LoopA_i (T := tys) tysOk (by exact drawsB_spec mixed tysOk (by decide +kernel)) (List.range l.length) (fun i (_ : Unit) => ⟨[(0, .d (ptsD l)), (3, .d (i64 i))], [], st⟩) (fun i r _ => roundR l = r.all (rowOk l)) () (Wk.sub ⟨(by first | rfl | (simp only [List.length_map]; rfl) | simp [PX.get]), (by first | rfl | (simp only [List.length_map]; rfl) | simp [PX.get]), trivial⟩ trivial) rfl ?_ ?_
 ·rintro i q r _ hqi hi hr hk
  have hq := range_get hqi
  subst hq
  have hil : q < l.length := by simpa using hi
  rw [List.all_cons] at hk
  conv=>whnf
  refine brk_i (fun _ => ?_) (fun h => absurd h (by simp; omega))
  conv=>whnf
  refine arith_in (wrap_i64 (by (try dsimp only); omega)) ?_
  conv=>whnf
  have hk0 : ((q : Int) + 1).tmod (((l.map Pt.cells).length : Nat) : Int) = (((q + 1) % l.length : Nat) : Int) := by
   rw [List.length_map, Int.tmod_eq_emod_of_nonneg (by omega)]
   first | exact (Int.natCast_mod _ _).symm | exact (Int.natCast_emod _ _).symm | norm_cast
  rw [hk0]
  have hkl : (q + 1) % l.length < l.length := Nat.mod_lt _ (by omega)
  generalize hkk : (q + 1) % l.length = k at hkl
  refine brk_i (fun _ => ?_) (fun h => absurd h (by simp; rintro rfl; simp at hil))
  conv=>whnf
  refine LoopA_i (T := tys) tysOk (by exact drawsB_spec mixed tysOk (by decide +kernel)) (List.range l.length) (fun n (_ : Unit) => ⟨[(0, .d (ptsD l)), (3, .d (i64 q)), (4, .d (i64 k)), (5, .d (i64 n))], [], st⟩) (fun n r _ => rowOk l q = r.all (cornerOk l q)) () (Wk.sub ⟨(by first | rfl | (simp only [List.length_map]; rfl) | simp [PX.get]), (by first | rfl | (simp only [List.length_map]; rfl) | simp [PX.get]), (by first | rfl | (simp only [List.length_map]; rfl) | simp [PX.get]), (by first | rfl | (simp only [List.length_map]; rfl) | simp [PX.get]), trivial⟩ trivial) rfl ?_ ?_
  ·rintro n n' r2 _ hni hn hr2 hk2
   have hq2 := range_get hni
   subst hq2
   have hnl : n' < l.length := by simpa using hn
   rw [List.all_cons] at hk2
   have hpk := hp _ (atP_mem hkl)
   have hpq := hp _ (atP_mem hil)
   have hpn := hp _ (atP_mem hnl)
   conv=>whnf
   refine brk_i (fun _ => ?_) (fun h => absurd h (by simp; omega))
   conv=>whnf
   have hcor : cornerOk l q n' = (decide (n' = q) || decide (n' = k) || decide (0 < leftF ((atP l k).sub (atP l q)) ((atP l n').sub (atP l q)))) := by unfold cornerOk; rw [hkk]
   refine brk_i (fun h1 => ?_) (fun h1 => ?_)
   ·have h1 : n' ≠ q := by simp at h1; omega
    conv=>whnf
    refine brk_i (fun h2 => ?_) (fun h2 => ?_)
    ·have h2 : n' ≠ k := by simp at h2; omega
     rw [decide_eq_false h1, decide_eq_false h2, Bool.false_or, Bool.false_or] at hcor
     conv=>whnf
     refine elemK_nat (atP_get hkl) ?_
     conv=>whnf
     refine elemK_nat (atP_get hil) ?_
     conv=>whnf
     refine DrawCall_v (ds := [(atP l k).d, (atP l q).d]) (ch84 (atP l k) (atP l q) (hpk.mono (by omega)) (hpq.mono (by omega))) rfl rfl ?_
     conv=>whnf
     refine elemK_nat (atP_get hnl) ?_
     conv=>whnf
     refine elemK_nat (atP_get hil) ?_
     conv=>whnf
     refine DrawCall_v (ds := [(atP l n').d, (atP l q).d]) (ch84 (atP l n') (atP l q) (hpn.mono (by omega)) (hpq.mono (by omega))) rfl rfl ?_
     conv=>whnf
     refine DrawCall_v (ds := [((atP l k).sub (atP l q)).d, ((atP l n').sub (atP l q)).d]) (ch95 _ _ ((hpk.sub hpq).mono (by omega)) ((hpn.sub hpq).mono (by omega))) rfl rfl ?_
     conv=>whnf
     refine brk_i (fun h3 => ?_) (fun h3 => ?_)
     ·have h3 : leftF ((atP l k).sub (atP l q)) ((atP l n').sub (atP l q)) ≤ 0 := of_decide_eq_true h3
      rw [decide_eq_false (by omega)] at hcor
      rw [hcor, Bool.false_and] at hk2
      rw [hk2, Bool.false_and] at hk
      rw [hk]
      conv=>whnf
      exact RetA_view 0 rfl ⟨⟨rfl, rfl⟩, rfl⟩
     ·have h3 : ¬ leftF ((atP l k).sub (atP l q)) ((atP l n').sub (atP l q)) ≤ 0 := of_decide_eq_false h3
      rw [decide_eq_true (by omega)] at hcor
      rw [hcor, Bool.true_and] at hk2
      conv=>whnf
      refine arith_in (wrap_i64 (by (try dsimp only); omega)) ?_
      conv=>whnf
      exact ⟨(), hk2, Wk.sub ⟨rfl, rfl, rfl, congrArg (fun z => some (V.d (i64 z))) (by omega), trivial⟩ trivial⟩
    ·have h2 : n' = k := by simp at h2; omega
     rw [decide_eq_true h2, Bool.or_true, Bool.true_or] at hcor
     rw [hcor, Bool.true_and] at hk2
     conv=>whnf
     refine arith_in (wrap_i64 (by (try dsimp only); omega)) ?_
     conv=>whnf
     exact ⟨(), hk2, Wk.sub ⟨rfl, rfl, rfl, congrArg (fun z => some (V.d (i64 z))) (by omega), trivial⟩ trivial⟩
   ·have h1 : n' = q := by simp at h1; omega
    rw [decide_eq_true h1, Bool.true_or, Bool.true_or] at hcor
    rw [hcor, Bool.true_and] at hk2
    conv=>whnf
    refine arith_in (wrap_i64 (by (try dsimp only); omega)) ?_
    conv=>whnf
    exact ⟨(), hk2, Wk.sub ⟨rfl, rfl, rfl, congrArg (fun z => some (V.d (i64 z))) (by omega), trivial⟩ trivial⟩
  ·rintro _ hk2
   conv=>whnf
   refine brk_i (fun h => absurd h (by simp)) (fun _ => ?_)
   rw [hk2] at hk
   conv=>whnf
   refine arith_in (wrap_i64 (by (try dsimp only); omega)) ?_
   conv=>whnf
   exact ⟨(), hk, Wk.sub ⟨rfl, congrArg (fun z => some (V.d (i64 z))) (by omega), trivial⟩ trivial⟩
 ·rintro _ hk
  conv=>whnf
  refine brk_i (fun h => absurd h (by simp)) (fun _ => ?_)
  conv=>whnf
  rw [hk]
  exact RetA_view 0 rfl ⟨⟨rfl, rfl⟩, rfl⟩
end Go.PX
namespace Go.PX
open Go.Proofs
def sandR (s : Sand) : Int :=
 if inB s.corners.length 3 8 then (if (s.corners.all fun p => withinB 10000 p) then (if boxE 500 s.moves = 0 then (if roundR s.corners then 0 else 9) else boxE 500 s.moves) else 7) else 3
set_option maxHeartbeats 2000000 in
theorem ch68 (s : Sand) : FnV Tryz.prog 68 [s.d] (i64 (sandR s)) := by
 refine fnV_of mixed tysOk Tryz.func68 rfl (ft := ft68) 1 (by decide +kernel) (by rfl) fun {σ} Y st => ?_
 conv=>whnf
 refine CallA_view (fn118 s.corners.length 3 8) rfl 1 (by simp; rfl) ?_
 cases h1 : inB (s.corners.length : Int) 3 8 with
 | false =>
  have he : sandR s = 3 := by unfold sandR; rw [h1]; rfl
  rw [he]
  conv=>whnf
  exact RetA_view 0 rfl ⟨⟨rfl, rfl⟩, rfl⟩
 | true =>
  have h1b := h1
  rw [inB_iff] at h1
  have he : sandR s = if (s.corners.all fun p => withinB 10000 p) then (if boxE 500 s.moves = 0 then (if roundR s.corners then 0 else 9) else boxE 500 s.moves) else 7 := by unfold sandR; rw [h1b, if_pos rfl]
  conv=>whnf
  refine LoopA_i (T := tys) tysOk (by exact drawsB_spec mixed tysOk (by decide +kernel)) s.corners (fun i (_ : Unit) => ⟨[(1, .ptr 1 0), (3, .d (i64 i))], [(1, .box (.dd s.cells))], st⟩) (fun i r _ => (s.corners.all fun p => withinB 10000 p) = r.all fun p => withinB 10000 p) () (Wk.sub ⟨(by first | rfl | (simp only [List.length_map]; rfl) | simp [PX.get]), (by first | rfl | (simp only [List.length_map]; rfl) | simp [PX.get]), trivial⟩ ⟨(by first | rfl | (simp only [List.length_map]; rfl) | simp [PX.get]), trivial⟩) rfl ?_ ?_
  ·rintro i p r _ hpi hi hr hk
   rw [List.all_cons] at hk
   conv=>whnf
   refine brk_i (fun _ => ?_) (fun h => absurd hi (by simpa using h))
   conv=>whnf
   refine elemK_nat hpi ?_
   conv=>whnf
   refine CallA_view (ds := [p.d, i64 10000]) (ch55 p 10000 (by omega)) rfl 1 rfl ?_
   cases hw : withinB 10000 p with
   | false =>
    rw [hw, Bool.false_and] at hk
    rw [hk, if_neg (by simp)] at he
    rw [he]
    conv=>whnf
    exact RetA_view 0 rfl ⟨⟨rfl, rfl⟩, rfl⟩
   | true =>
    rw [hw, Bool.true_and] at hk
    conv=>whnf
    refine arith_in (wrap_i64 (by (try dsimp only); omega)) ?_
    conv=>whnf
    exact ⟨(), hk, (Wk.sub ⟨(by first | rfl | (simp only [List.length_map]; rfl) | simp [PX.get]), (by first | rfl | (simp only [List.length_map]; rfl) | simp [PX.get]), trivial⟩ ⟨(by first | rfl | (simp only [List.length_map]; rfl) | simp [PX.get]), trivial⟩)⟩
  ·rintro _ hk
   have hk : (s.corners.all fun p => withinB 10000 p) = true := hk
   rw [hk, if_pos rfl] at he
   have hp : ∀ p ∈ s.corners, Pin 10000 p := by
    intro p hp
    exact within_iff.1 (List.all_eq_true.1 hk p hp)
   conv=>whnf
   refine brk_i (fun h => absurd h (by simp)) (fun _ => ?_)
   conv=>whnf
   refine CallA_view (ds := [s.moves.d, i64 (-500), i64 500]) (ch56 s.moves 500 (by omega)) rfl 1 rfl ?_
   conv=>whnf
   refine brk_i (fun h3 => ?_) (fun h3 => ?_)
   ·have h3 : boxE 500 s.moves = 0 := by simpa using h3
    rw [if_pos h3] at he
    rw [h3]
    conv=>whnf
    refine CallA_view (ds := [ptsD s.corners]) (ch106 s.corners (by omega) hp) rfl 1 rfl ?_
    cases hr : roundR s.corners with
    | true =>
     rw [hr, if_pos rfl] at he
     rw [he]
     conv=>whnf
     exact RetA_view 0 rfl ⟨⟨rfl, rfl⟩, rfl⟩
    | false =>
     rw [hr, if_neg (by simp)] at he
     rw [he]
     conv=>whnf
     exact RetA_view 0 rfl ⟨⟨rfl, rfl⟩, rfl⟩
   ·have h3 : ¬ boxE 500 s.moves = 0 := by simpa using h3
    rw [if_neg h3] at he
    rw [he]
    conv=>whnf
    exact RetA_view 0 rfl ⟨⟨rfl, rfl⟩, rfl⟩
end Go.PX
namespace Go.PX
open Go.Proofs
def markER (ns : List ByteArray) (m : Mark) : Int :=
 if freshF m.name ns = 0 then (if farM m then 7 else paintE m.paints) else freshF m.name ns
def marksR : List ByteArray → Int → List Mark → (Int × Int) ⊕ List ByteArray
 | ns, _, [] => .inr ns
 | ns, i, m :: r => if markER ns m = 0 then marksR (ns ++ [m.name]) (i + 1) r else .inl (i, markER ns m)
def sandER (ns : List ByteArray) (s : Sand) : Int := if freshF s.name ns = 0 then sandR s else freshF s.name ns
def sandsR : List ByteArray → Int → List Sand → Int × Int × Int
 | _, _, [] => (0, 0, 0)
 | ns, i, s :: r => if sandER ns s = 0 then sandsR (ns ++ [s.name]) (i + 1) r else (2, i, sandER ns s)
def checkR (c : Cht) : Int × Int × Int :=
 if c.marks.length > 8 then (1, 0, 3) else match marksR [] 0 c.marks with
 | .inl (i, e) => (1, i, e)
 | .inr ns => if c.sands.length > 4 then (2, 0, 3) else sandsR ns 0 c.sands
def strsC (l : List ByteArray) : List (List D) := l.map fun s => [.str s]
set_option maxHeartbeats 4000000 in
theorem ch21 (c : Cht) : FnV Tryz.prog 21 [c.d] (.tup [i64 (checkR c).1, i64 (checkR c).2.1, i64 (checkR c).2.2]) := by
 refine fnV_of mixed tysOk Tryz.func21 rfl (ft := ft21) 1 (by decide +kernel) (by rfl) fun {σ} Y st => ?_
 conv=>whnf
 refine brk_i (fun h0 => ?_) (fun h0 => ?_)
 ·have h0 : c.marks.length > 8 := by have := of_decide_eq_true h0; simp at this; omega
  have he : checkR c = (1, 0, 3) := by unfold checkR; rw [if_pos h0]
  rw [he]
  conv=>whnf
  exact RetA_view 0 rfl ⟨⟨rfl, rfl⟩, rfl⟩
 have h0 : ¬ c.marks.length > 8 := by have := of_decide_eq_false h0; simp at this; omega
 have he : checkR c = match marksR [] 0 c.marks with
  | .inl (i, e) => (1, i, e)
  | .inr ns => if c.sands.length > 4 then (2, 0, 3) else sandsR ns 0 c.sands := by unfold checkR; rw [if_neg h0]
 conv=>whnf
 refine LoopA_i (T := tys) tysOk (by exact drawsB_spec mixed tysOk (by decide +kernel)) c.marks (fun i (ns : List ByteArray) => ⟨[(1, .ptr 1 0), (5, .sl 900001 1 0 ns.length), (6, .d (i64 i))], [(1, .box (.dd c.cells)), (900001, .arr 1 (.dd (strsC ns)))], st⟩) (fun i r ns => ns.length ≤ i ∧ marksR [] 0 c.marks = marksR ns i r) [] ((Wk.born 5 900001 1 rfl rfl rfl).trans (Wk.sub ⟨(by first | rfl | (simp only [List.length_map]; rfl) | simp [PX.get]), (by first | rfl | (simp only [List.length_map]; rfl) | simp [PX.get]), (by first | rfl | (simp only [List.length_map]; rfl) | simp [PX.get]), trivial⟩ ⟨(by first | rfl | (simp only [List.length_map]; rfl) | simp [PX.get]), (by first | rfl | (simp only [List.length_map]; rfl) | simp [PX.get]), trivial⟩)) ⟨by simp, rfl⟩ ?_ ?_
 ·rintro i m r ns hmi hi hr ⟨hns, hk⟩
  rw [marksR] at hk
  conv=>whnf
  refine brk_i (fun _ => ?_) (fun h => absurd hi (by simpa using h))
  conv=>whnf
  refine elemK_nat hmi ?_
  conv=>whnf
  refine CallA_view (fn91 m.name ns (by omega)) rfl 1 (viewL_cons rfl (viewL_cons (viewV_sl rfl (by simp [strsC])) rfl)) ?_
  conv=>whnf
  refine ownK_whole rfl ?_
  conv=>whnf
  refine ownK_whole (by simp [Els.len, strsC]) ?_
  conv=>whnf
  refine chk_i (decide_eq_true (by show ((strsC ns).length + 1) * 16 ≤ _; simp only [strsC, List.length_map]; omega)) ?_
  conv=>whnf
  by_cases hf : freshF m.name ns = 0
  case neg =>
   have hm : markER ns m = freshF m.name ns := by unfold markER; rw [if_neg hf]
   rw [hm, if_neg hf] at hk
   have he2 : checkR c = (1, (i : Int), freshF m.name ns) := by rw [he, hk]
   rw [he2, decide_eq_false hf]
   conv=>whnf
   refine brk_i (fun h => absurd h (by simp [hf])) (fun _ => ?_)
   conv=>whnf
   refine brk_i (fun _ => ?_) (fun h => absurd h (by simp [hf]))
   conv=>whnf
   exact RetA_view 0 rfl ⟨⟨rfl, rfl⟩, rfl⟩
  rw [decide_eq_true hf]
  conv=>whnf
  refine CallA_view (ds := [m.at'.d, i64 30000]) (ch55 m.at' 30000 (by omega)) rfl 1 rfl ?_
  cases hw : withinB 30000 m.at' with
  | false =>
   have hm : markER ns m = 7 := by unfold markER farM; rw [if_pos hf, hw]; rfl
   rw [hm, if_neg (by simp)] at hk
   have he2 : checkR c = (1, (i : Int), 7) := by rw [he, hk]
   rw [he2]
   conv=>whnf
   exact RetA_view 0 rfl ⟨⟨rfl, rfl⟩, rfl⟩
  | true =>
   have hm : markER ns m = paintE m.paints := by unfold markER farM; rw [if_pos hf, hw]; rfl
   rw [hm] at hk
   conv=>whnf
   refine brk_i (fun _ => ?_) (fun h => absurd h (by simp [hf]))
   conv=>whnf
   refine CallA_v (ch67 m.paints) rfl rfl ?_
   conv=>whnf
   refine brk_i (fun hp => ?_) (fun hp => ?_)
   ·have hp : ¬ paintE m.paints = 0 := by simpa using hp
    rw [if_neg hp] at hk
    have he2 : checkR c = (1, (i : Int), paintE m.paints) := by rw [he, hk]
    rw [he2]
    conv=>whnf
    exact RetA_view 0 rfl ⟨⟨rfl, rfl⟩, rfl⟩
   ·have hp : paintE m.paints = 0 := by simpa using hp
    rw [if_pos hp] at hk
    conv=>whnf
    refine arith_in (wrap_i64 (by (try dsimp only); omega)) ?_
    conv=>whnf
    exact ⟨ns ++ [m.name], ⟨by simp; omega, hk⟩, (Wk.move 35 900001 rfl rfl).trans (Wk.sub ⟨rfl, congrArg (fun z : Nat => some (V.sl 900001 1 0 z)) (by simp [Els.len, strsC]), congrArg (fun z => some (V.d (i64 z))) (by omega), trivial⟩ ⟨rfl, congrArg (fun z => some (Obj.arr 1 (.dd z))) (by simp [strsC]), trivial⟩)⟩
 ·rintro ns ⟨hns, hk⟩
  have he2 : checkR c = if c.sands.length > 4 then (2, 0, 3) else sandsR ns 0 c.sands := by rw [he, hk, marksR]
  conv=>whnf
  refine brk_i (fun h => absurd h (by simp)) (fun _ => ?_)
  conv=>whnf
  refine brk_i (fun h1 => ?_) (fun h1 => ?_)
  ·have h1 : c.sands.length > 4 := by have := of_decide_eq_true h1; simp at this; omega
   rw [if_pos h1] at he2
   rw [he2]
   conv=>whnf
   exact RetA_view 0 rfl ⟨⟨rfl, rfl⟩, rfl⟩
  have h1 : ¬ c.sands.length > 4 := by have := of_decide_eq_false h1; simp at this; omega
  rw [if_neg h1] at he2
  conv=>whnf
  refine LoopA_i (T := tys) tysOk (by exact drawsB_spec mixed tysOk (by decide +kernel)) c.sands (fun i (ns : List ByteArray) => ⟨[(1, .ptr 1 0), (5, .sl 900001 1 0 ns.length), (9, .d (i64 i))], [(1, .box (.dd c.cells)), (900001, .arr 1 (.dd (strsC ns)))], st⟩) (fun i r ns => ns.length ≤ 8 + i ∧ checkR c = sandsR ns i r) ns (Wk.sub ⟨(by first | rfl | (simp only [List.length_map]; rfl) | simp [PX.get]), (by first | rfl | (simp only [List.length_map]; rfl) | simp [PX.get]), (by first | rfl | (simp only [List.length_map]; rfl) | simp [PX.get]), trivial⟩ ⟨(by first | rfl | (simp only [List.length_map]; rfl) | simp [PX.get]), (by first | rfl | (simp only [List.length_map]; rfl) | simp [PX.get]), trivial⟩) ⟨by omega, he2⟩ ?_ ?_
  ·rintro i m r ns hmi hi hr ⟨hns, hk⟩
   rw [sandsR] at hk
   conv=>whnf
   refine brk_i (fun _ => ?_) (fun h => absurd hi (by simpa using h))
   conv=>whnf
   refine elemK_nat hmi ?_
   conv=>whnf
   refine CallA_view (fn91 m.name ns (by omega)) rfl 1 (viewL_cons rfl (viewL_cons (viewV_sl rfl (by simp [strsC])) rfl)) ?_
   conv=>whnf
   refine elemK_nat hmi ?_
   conv=>whnf
   refine ownK_whole rfl ?_
   conv=>whnf
   refine ownK_whole (by simp [Els.len, strsC]) ?_
   conv=>whnf
   refine chk_i (decide_eq_true (by show ((strsC ns).length + 1) * 16 ≤ _; simp only [strsC, List.length_map]; omega)) ?_
   conv=>whnf
   by_cases hf : freshF m.name ns = 0
   case neg =>
    have hm : sandER ns m = freshF m.name ns := by unfold sandER; rw [if_neg hf]
    rw [hm, if_neg hf] at hk
    rw [hk, decide_eq_false hf]
    conv=>whnf
    refine brk_i (fun _ => ?_) (fun h => absurd h (by simp [hf]))
    conv=>whnf
    exact RetA_view 0 rfl ⟨⟨rfl, rfl⟩, rfl⟩
   have hm : sandER ns m = sandR m := by unfold sandER; rw [if_pos hf]
   rw [hm] at hk
   rw [decide_eq_true hf]
   conv=>whnf
   refine elemK_nat hmi ?_
   conv=>whnf
   refine CallA_view (ds := [m.d]) (ch68 m) rfl 1 rfl ?_
   conv=>whnf
   refine brk_i (fun hp => ?_) (fun hp => ?_)
   ·have hp : ¬ sandR m = 0 := by simpa using hp
    rw [if_neg hp] at hk
    rw [hk]
    conv=>whnf
    exact RetA_view 0 rfl ⟨⟨rfl, rfl⟩, rfl⟩
   ·have hp : sandR m = 0 := by simpa using hp
    rw [if_pos hp] at hk
    conv=>whnf
    refine arith_in (wrap_i64 (by (try dsimp only); omega)) ?_
    conv=>whnf
    exact ⟨ns ++ [m.name], ⟨by simp; omega, hk⟩, (Wk.move 80 900001 rfl rfl).trans (Wk.sub ⟨rfl, congrArg (fun z : Nat => some (V.sl 900001 1 0 z)) (by simp [Els.len, strsC]), congrArg (fun z => some (V.d (i64 z))) (by omega), trivial⟩ ⟨rfl, congrArg (fun z => some (Obj.arr 1 (.dd z))) (by simp [strsC]), trivial⟩)⟩
  ·rintro ns ⟨hns, hk⟩
   rw [sandsR] at hk
   rw [hk]
   conv=>whnf
   refine brk_i (fun h => absurd h (by simp)) (fun _ => ?_)
   conv=>whnf
   exact RetA_view 0 rfl ⟨⟨rfl, rfl⟩, rfl⟩
end Go.PX
namespace Go.PX
open Go.Proofs
theorem rightL_count (x : Pt × Pt) : ∀ (l : List Pt) (n : Int), rightL x l n = n + (l.countP fun p => decide (leftF x.2 (p.sub x.1) ≤ 0) : Nat)
 | [], n => by simp [rightL]
 | p :: r, n => by
  rw [rightL, rightL_count x r, List.countP_cons]
  by_cases h : leftF x.2 (p.sub x.1) ≤ 0
  ·simp [h]; omega
  ·simp [h]
theorem map_atP (l : List Pt) : (List.range l.length).map (atP l) = l := by
 apply List.ext_getElem
 ·simp
 ·intro i h1 h2
  simp [atP, h2]
theorem count_two {l : List Nat} (hn : l.Nodup) {i k : Nat} (hi : i ∈ l) (hk : k ∈ l) (hik : i ≠ k) (g : Nat → Bool) (gi : g i = true) (gk : g k = true) : l.countP g = 2 ↔ ∀ n ∈ l, n ≠ i → n ≠ k → g n = false := by
 have hk1 : k ∈ l.erase i := (List.mem_erase_of_ne (Ne.symm hik)).2 hk
 have e1 : l.countP g = (l.erase i).countP g + 1 := by
  rw [(List.perm_cons_erase hi).countP_eq g, List.countP_cons_of_pos gi]
 have e2 : (l.erase i).countP g = ((l.erase i).erase k).countP g + 1 := by
  rw [(List.perm_cons_erase hk1).countP_eq g, List.countP_cons_of_pos gk]
 have e3 : l.countP g = 2 ↔ ((l.erase i).erase k).countP g = 0 := by omega
 rw [e3, List.countP_eq_zero]
 have hn1 : (l.erase i).Nodup := hn.erase i
 constructor
 ·intro h n hn' h1 h2
  have := h n (hn1.mem_erase_iff.2 ⟨h2, hn.mem_erase_iff.2 ⟨h1, hn'⟩⟩)
  simpa using this
 ·intro h n hn'
  obtain ⟨h2, h3⟩ := hn1.mem_erase_iff.1 hn'
  obtain ⟨h1, h4⟩ := hn.mem_erase_iff.1 h3
  simp [h n h4 h1 h2]
theorem side_row {s : Sand} (h3 : 3 ≤ s.corners.length) {i k : Nat} (hi : i < s.corners.length) (hk : k < s.corners.length) (hik : i ≠ k) (hki : (i + 1) % s.corners.length = k) :
  sideOk s (atP s.corners i, (atP s.corners k).sub (atP s.corners i)) = rowOk s.corners i := by
 have hz : ∀ b : Pt, leftF b ⟨0, 0⟩ = 0 := fun b => by simp [leftF]
 have hb : ∀ b : Pt, leftF b b = 0 := fun b => by simp [leftF, Int.mul_comm]
 have hs : ∀ b : Pt, b.sub b = ⟨0, 0⟩ := fun b => by simp [Pt.sub]
 generalize hl : s.corners = l at *
 generalize hbb : (atP l k).sub (atP l i) = b
 let g : Nat → Bool := fun n => decide (leftF b ((atP l n).sub (atP l i)) ≤ 0)
 have gi : g i = true := by show decide _ = true; rw [hs, hz]; rfl
 have gk : g k = true := by show decide _ = true; rw [hbb, hb]; rfl
 have hcnt : rightL (atP l i, b) l 0 = 2 ↔ ∀ n < l.length, n ≠ i → n ≠ k → g n = false := by
  have h1 := rightL_count (atP l i, b) l 0
  have h2 : (l.countP fun p => decide (leftF b (p.sub (atP l i)) ≤ 0)) = (List.range l.length).countP g := by
   have h5 := List.countP_map (p := fun p => decide (leftF b (p.sub (atP l i)) ≤ 0)) (f := atP l) (l := List.range l.length)
   rw [map_atP] at h5
   exact h5
  have h3 := count_two (List.nodup_range (n := l.length)) (List.mem_range.2 hi) (List.mem_range.2 hk) hik g gi gk
  rw [h1, h2]
  constructor
  ·intro h n hn
   exact h3.1 (by omega) n (List.mem_range.2 hn)
  ·intro h
   have := h3.2 fun n hn => h n (List.mem_range.1 hn)
   omega
 obtain ⟨t, ht, hti, htk⟩ : ∃ t < l.length, t ≠ i ∧ t ≠ k := by
  by_cases h0 : 0 ≠ i ∧ 0 ≠ k
  ·exact ⟨0, by omega, h0⟩
  by_cases h1 : 1 ≠ i ∧ 1 ≠ k
  ·exact ⟨1, by omega, h1⟩
  ·exact ⟨2, by omega, by omega, by omega⟩
 have hrow : rowOk l i = true ↔ ∀ n < l.length, n ≠ i → n ≠ k → 0 < leftF b ((atP l n).sub (atP l i)) := by
  unfold rowOk
  rw [List.all_eq_true]
  constructor
  ·intro h n hn h1 h2
   have := h n (List.mem_range.2 hn)
   unfold cornerOk at this
   rw [hki, hbb] at this
   simpa [h1, h2] using this
  ·intro h n hn
   have hn := List.mem_range.1 hn
   unfold cornerOk
   rw [hki, hbb]
   by_cases h1 : n = i
   ·simp [h1]
   by_cases h2 : n = k
   ·simp [h2]
   ·simp [h n hn h1 h2]
 rw [Bool.eq_iff_iff, hrow]
 unfold sideOk
 simp only [hl, Bool.and_eq_true, decide_eq_true_eq, Bool.not_eq_true', Bool.and_eq_false_imp, decide_eq_false_iff_not]
 rw [hcnt]
 constructor
 ·rintro ⟨h1, _⟩ n hn hni hnk
  have := h1 n hn hni hnk
  have : ¬ leftF b ((atP l n).sub (atP l i)) ≤ 0 := by simpa [g] using this
  omega
 ·intro h
  refine ⟨fun n hn h1 h2 => ?_, fun hx hy => ?_⟩
  ·have := h n hn h1 h2
   show decide _ = false
   exact decide_eq_false (by omega)
  ·have := h t ht hti htk
   unfold leftF at this
   rw [hx, hy] at this
   simp at this
theorem sidesL_map : ∀ (l : List Pt) (a : Pt), sidesL a l = (List.range l.length).map fun j => ((if j = 0 then a else atP l (j - 1)), (atP l j).sub (if j = 0 then a else atP l (j - 1)))
 | [], _ => rfl
 | p :: r, a => by
  rw [sidesL, sidesL_map r p, List.length_cons, List.range_succ_eq_map, List.map_cons, List.map_map]
  congr 1
  apply List.map_congr_left
  intro j hj
  have h1 : (if j = 0 then p else atP r (j - 1)) = atP (p :: r) j := by
   cases j with
   | zero => rfl
   | succ j => simp [atP]
  have h2 : atP (p :: r) (j + 1) = atP r j := by simp [atP]
  show ((if j = 0 then p else atP r (j - 1)), (atP r j).sub (if j = 0 then p else atP r (j - 1))) = _
  simp only [Function.comp, Nat.succ_ne_zero, if_false, Nat.succ_sub_one, h1]
  rw [show Nat.succ j = j + 1 from rfl, h2]
theorem sides_round {s : Sand} (h3 : 3 ≤ s.corners.length) : (sidesF s).all (sideOk s) = roundR s.corners := by
 have hlast : lastP s.corners = atP s.corners (s.corners.length - 1) := rfl
 unfold sidesF roundR
 rw [sidesL_map, hlast, List.all_map]
 have hside : ∀ j < s.corners.length, ((sideOk s) ∘ fun j => ((if j = 0 then atP s.corners (s.corners.length - 1) else atP s.corners (j - 1)), (atP s.corners j).sub (if j = 0 then atP s.corners (s.corners.length - 1) else atP s.corners (j - 1)))) j = rowOk s.corners (if j = 0 then s.corners.length - 1 else j - 1) := by
  intro j hj
  show sideOk s _ = _
  by_cases h0 : j = 0
  ·subst h0
   simp only [if_true]
   exact side_row h3 (by omega) hj (by omega) (by rw [Nat.sub_add_cancel (by omega), Nat.mod_self])
  ·simp only [if_neg h0]
   exact side_row h3 (by omega) hj (by omega) (by rw [Nat.sub_add_cancel (by omega), Nat.mod_eq_of_lt hj])
 rw [Bool.eq_iff_iff, List.all_eq_true, List.all_eq_true]
 constructor
 ·intro h i hi
  have hi := List.mem_range.1 hi
  have hk : (i + 1) % s.corners.length < s.corners.length := Nat.mod_lt _ (by omega)
  have := h ((i + 1) % s.corners.length) (List.mem_range.2 hk)
  rw [hside _ hk] at this
  have he : (if (i + 1) % s.corners.length = 0 then s.corners.length - 1 else (i + 1) % s.corners.length - 1) = i := by
   by_cases hl : i + 1 < s.corners.length
   ·rw [Nat.mod_eq_of_lt hl, if_neg (by omega)]; omega
   ·have : i + 1 = s.corners.length := by omega
    rw [this, Nat.mod_self, if_pos rfl]; omega
  rw [he] at this
  exact this
 ·intro h j hj
  have hj := List.mem_range.1 hj
  rw [hside j hj]
  refine h _ (List.mem_range.2 ?_)
  split <;> omega
theorem sand_eq (s : Sand) : sandE s = sandR s := by
 unfold sandE sandR
 cases h1 : inB (s.corners.length : Int) 3 8 with
 | false => rfl
 | true =>
  rw [inB_iff] at h1
  have e : (s.corners.any fun p => !withinB 10000 p) = !(s.corners.all fun p => withinB 10000 p) := by
   rw [List.any_eq_not_all_not]; simp
  rw [e, sides_round (by omega)]
  cases s.corners.all fun p => withinB 10000 p <;> simp
def Same (m : Nms) (ns : List ByteArray) : Prop := ∀ n, 0 ≤ (getM m n).getD 0 ∧ (0 < (getM m n).getD 0 ↔ n ∈ ns)
theorem Same.inc {m : Nms} {ns : List ByteArray} (h : Same m ns) (n : ByteArray) : Same (incS m n) (ns ++ [n]) := by
 intro u
 unfold incS
 rw [getM_put]
 split
 ·rename_i hu
  subst hu
  have := (h u).1
  simp; omega
 ·rename_i hu
  have := h u
  refine ⟨this.1, ?_⟩
  rw [this.2]
  simp [hu]
theorem fresh_eq {m : Nms} {ns : List ByteArray} (h : Same m ns) (n : ByteArray) : freshE m n = freshF n ns := by
 have hn := h n
 unfold freshE freshF
 have hany : (ns.any fun y => decide (y = n)) = true ↔ n ∈ ns := by simp
 by_cases hm : n ∈ ns
 ·have := hn.2.2 hm
  rw [if_pos (show (getM m n).getD 0 + 1 > 1 by omega), if_pos (hany.2 hm)]
 ·have : ¬ 0 < (getM m n).getD 0 := fun h => hm (hn.2.1 h)
  rw [if_neg (show ¬ (getM m n).getD 0 + 1 > 1 by omega), if_neg (fun h => hm (hany.1 h))]
theorem marks_eq : ∀ (l : List Mark) (m : Nms) (ns : List ByteArray) (i : Int), Same m ns → (∃ e, marksL m i l = .inl e ∧ marksR ns i l = .inl e) ∨ ∃ m' ns', marksL m i l = .inr m' ∧ marksR ns i l = .inr ns' ∧ Same m' ns'
 | [], m, ns, i, h => .inr ⟨m, ns, rfl, rfl, h⟩
 | x :: r, m, ns, i, h => by
  have he : markE m x = markER ns x := by unfold markE markER; rw [fresh_eq h]
  rw [marksL, marksR, he]
  by_cases h0 : markER ns x = 0
  ·rw [if_pos h0, if_pos h0]
   exact marks_eq r _ _ _ (h.inc x.name)
  ·rw [if_neg h0, if_neg h0]
   exact .inl ⟨_, rfl, rfl⟩
theorem sands_eq : ∀ (l : List Sand) (m : Nms) (ns : List ByteArray) (i : Int), Same m ns → sandsL m i l = sandsR ns i l
 | [], _, _, _, _ => rfl
 | x :: r, m, ns, i, h => by
  have he : sandE' m x = sandER ns x := by unfold sandE' sandER; rw [fresh_eq h, sand_eq]
  rw [sandsL, sandsR, he]
  by_cases h0 : sandER ns x = 0
  ·rw [if_pos h0, if_pos h0]
   exact sands_eq r _ _ _ (h.inc x.name)
  ·rw [if_neg h0, if_neg h0]
theorem check_eq (c : Cht) : checkX c = checkR c := by
 unfold checkX checkR
 have h0 : Same [] [] := fun n => by simp [getM]
 rcases marks_eq c.marks [] [] 0 h0 with ⟨e, h1, h2⟩ | ⟨m', ns', h1, h2, h3⟩
 ·rw [h1, h2]
 ·rw [h1, h2]
  simp only
  rw [sands_eq c.sands m' ns' 0 h3]
end Go.PX
namespace Go.PX
open Go.Proofs
theorem ch21x (c : Cht) : FnV Tryz.prog 21 [c.d] (.tup [i64 (checkX c).1, i64 (checkX c).2.1, i64 (checkX c).2.2]) := FnV.cast (ch21 c) (by rw [check_eq])
end Go.PX
namespace Go.PX
open Go.Proofs
def ptsE (c : Cht) (day k : Int) (b : Box) : Int := if stdE c day k = 0 then boxE 30000 b else stdE c day k
theorem cntF_ge (v : Pt) : ∀ (l : List Pt) (n : Int), n ≤ cntF v l n ∧ cntF v l n ≤ n + l.length
 | [], n => by simp [cntF]
 | q :: r, n => by
  have := cntF_ge v r (if leftF q v ≤ 0 then n + 1 else n)
  rw [cntF, List.length_cons]
  split at this <;> split <;> first | omega | contradiction
theorem turnN_quad {v : Pt} (hz : NZ v) : 0 ≤ (turnN (quadN v) v).x := by
 unfold NZ at hz
 unfold quadN
 split
 ·show 0 ≤ v.x; omega
 ·split
  ·show 0 ≤ -v.y; omega
  ·split
   ·show 0 ≤ -v.x; omega
   ·show 0 ≤ - -v.y; omega
theorem towF_in {v : Pt} (hz : NZ v) : 0 ≤ towF v ∧ towF v ≤ 31 := by
 have hx := turnN_quad hz
 have hq := quad_le v
 unfold towF
 generalize turnN (quadN v) v = u at hx ⊢
 have h1 : leftF ⟨0, 1000⟩ u ≤ 0 := by
  unfold leftF
  simp only
  omega
 have h2 := cntF_ge u quarterL (8 * quadN v)
 have h3 : cntF u quarterL (8 * quadN v) = cntF u quarterL.tail (8 * quadN v + 1) := by
  show cntF u (⟨0, 1000⟩ :: quarterL.tail) _ = _
  rw [cntF, if_pos h1]
 have h4 := cntF_ge u quarterL.tail (8 * quadN v + 1)
 have h5 : quarterL.length = 8 := rfl
 omega
def cfD (f : Nat → Int) : List D := [i64 (f 0), i64 (f 1), i64 (f 2), i64 (f 3), i64 (f 4), i64 (f 5), i64 (f 6), i64 (f 7), i64 (f 8), i64 (f 9), i64 (f 10), i64 (f 11), i64 (f 12), i64 (f 13), i64 (f 14), i64 (f 15), i64 (f 16), i64 (f 17), i64 (f 18), i64 (f 19), i64 (f 20), i64 (f 21), i64 (f 22), i64 (f 23), i64 (f 24), i64 (f 25), i64 (f 26), i64 (f 27), i64 (f 28), i64 (f 29), i64 (f 30), i64 (f 31)]
def cntStep (m : Pt) (f : Nat → Int) (p : Pt) : Nat → Int := if p.x = m.x ∧ p.y = m.y then f else fun q => if q = (towF (m.sub p)).toNat then f q + 1 else f q
def colF (m : Pt) (x : Int) (ys : List Int) (f : Nat → Int) : Nat → Int := ys.foldl (fun f y => cntStep m f ⟨x, y⟩) f
def gridF (m : Pt) (ys : List Int) (xs : List Int) (f : Nat → Int) : Nat → Int := xs.foldl (fun f x => colF m x ys f) f
def spanL (s : Span) : List Int := upX (s.hi - s.lo + 1).toNat s.lo
def dirsL (f : Nat → Int) (l : List Nat) : List Int := (l.filter fun p => decide (0 < f p)).map fun (p : Nat) => (p : Int)
def ptsL (c : Cht) (day k : Int) (b : Box) : List Int := if ptsE c day k b = 0 then dirsL (gridF (marM c day k).at' (spanL b.y) (spanL b.x) fun _ => 0) (List.range 32) else []
theorem getC {f : Nat → Int} {o k : Nat} (hk : k < 32) (ho : o = k) {t : TyI} (ht : t.isAgg = false) {K : V → Prop} (h : K (.d (i64 (f k)))) : Cells.getK t (.dd (cfD f)) o K := by
 subst ho
 unfold Cells.getK
 rw [ht]
 match o, hk with
  | 0, _ => exact h
  | 1, _ => exact h
  | 2, _ => exact h
  | 3, _ => exact h
  | 4, _ => exact h
  | 5, _ => exact h
  | 6, _ => exact h
  | 7, _ => exact h
  | 8, _ => exact h
  | 9, _ => exact h
  | 10, _ => exact h
  | 11, _ => exact h
  | 12, _ => exact h
  | 13, _ => exact h
  | 14, _ => exact h
  | 15, _ => exact h
  | 16, _ => exact h
  | 17, _ => exact h
  | 18, _ => exact h
  | 19, _ => exact h
  | 20, _ => exact h
  | 21, _ => exact h
  | 22, _ => exact h
  | 23, _ => exact h
  | 24, _ => exact h
  | 25, _ => exact h
  | 26, _ => exact h
  | 27, _ => exact h
  | 28, _ => exact h
  | 29, _ => exact h
  | 30, _ => exact h
  | 31, _ => exact h
  | k + 32, hk => exact absurd hk (by omega)
set_option maxHeartbeats 4000000 in
theorem ch34 (c : Cht) (day k : Int) (b : Box) : FnV Tryz.prog 34 [c.d, i64 day, i64 k, b.d] (.tup [intsD (ptsL c day k b), i64 (ptsE c day k b)]) := by
 refine fnV_of mixed tysOk Tryz.func34 rfl (ft := ft34) 4 (by decide +kernel) (by rfl) fun {σ} Y st => ?_
 conv=>whnf
 refine CallA_v (ch79 c day k) rfl rfl ?_
 conv=>whnf
 by_cases h0 : stdE c day k = 0
 case neg =>
  have he : ptsE c day k b = stdE c day k := by unfold ptsE; rw [if_neg h0]
  have hL : ptsL c day k b = [] := by unfold ptsL; rw [if_neg (by rw [he]; exact h0)]
  rw [hL, he]
  rw [decide_eq_false h0]
  conv=>whnf
  refine brk_i (fun _ => ?_) (fun h1 => absurd h1 (by simp [h0]))
  conv=>whnf
  exact RetA_viewR 0 rfl rfl ⟨⟨rfl, rfl⟩, rfl⟩
 have he : ptsE c day k b = boxE 30000 b := by unfold ptsE; rw [if_pos h0]
 obtain ⟨hR, hmem⟩ := marM_ok (stdE_mar h0)
 have hmp := (hR.mark _ hmem).1
 rw [he, decide_eq_true h0]
 conv=>whnf
 refine CallA_v (ch85 b 30000 (by omega)) rfl rfl ?_
 conv=>whnf
 by_cases h1 : boxE 30000 b = 0
 case neg =>
  have hL : ptsL c day k b = [] := by unfold ptsL; rw [if_neg (by rw [he]; exact h1)]
  rw [hL]
  refine brk_i (fun _ => ?_) (fun h2 => absurd h2 (by simp [h1]))
  conv=>whnf
  exact RetA_viewR 0 rfl rfl ⟨⟨rfl, rfl⟩, rfl⟩
 have hL : ptsL c day k b = dirsL (gridF (marM c day k).at' (spanL b.y) (spanL b.x) fun _ => 0) (List.range 32) := by unfold ptsL; rw [if_pos (by rw [he]; exact h1)]
 rw [hL, h1]
 conv=>whnf
 generalize marM c day k = m at *
 clear hL he
 have hbx : (-30000 ≤ b.x.lo ∧ b.x.hi ≤ 30000 ∧ b.x.lo ≤ b.x.hi ∧ b.x.hi - b.x.lo ≤ 40) ∧ (-30000 ≤ b.y.lo ∧ b.y.hi ≤ 30000 ∧ b.y.lo ≤ b.y.hi ∧ b.y.hi - b.y.lo ≤ 40) := by
  unfold boxE at h1
  split at h1
  case isFalse => cases h1
  rename_i h5
  split at h1
  case isFalse => cases h1
  rename_i h6
  simp only [Bool.and_eq_true, inB_iff] at h5 h6
  omega
 generalize hG : gridF m.at' (spanL b.y) (spanL b.x) (fun _ => 0) = G
 have hlenx : (spanL b.x).length = (b.x.hi - b.x.lo + 1).toNat := upX_len _ _
 have hleny : (spanL b.y).length = (b.y.hi - b.y.lo + 1).toNat := upX_len _ _
 refine LoopA_i (T := tys) tysOk (by exact drawsB_spec mixed tysOk (by decide +kernel)) (spanL b.x) (fun i (f : Nat → Int) => ⟨[(7, .ptr 7 0), (8, .d .nils), (10, .ptr 10 0), (11, .ptr 11 0), (12, .d (i64 (b.x.lo + i)))], [(7, .box (.dd b.cells)), (10, .box (.dd m.cells)), (11, .box (.dd (cfD f)))], st⟩)
  (fun i xs f => G = gridF m.at' (spanL b.y) xs f ∧ ∀ q, q < 32 → 0 ≤ f q ∧ f q ≤ 41 * i) (fun _ => 0) (Wk.sub ⟨rfl, rfl, rfl, rfl, congrArg (fun z => some (V.d (i64 z))) (by simp), trivial⟩ ⟨rfl, rfl, rfl, trivial⟩) ⟨hG.symm, fun v hv => by simp⟩ ?_ ?_
 ·rintro i x xs f hxi hi hir ⟨hgf, hav⟩
  obtain ⟨hx1, hx2⟩ := upX_get hxi
  have hgf : G = gridF m.at' (spanL b.y) xs (colF m.at' x (spanL b.y) f) := hgf
  generalize hH : colF m.at' x (spanL b.y) f = H at hgf
  conv=>whnf
  refine brk_i (fun _ => ?_) (fun h => absurd h (by simp; omega))
  conv=>whnf
  refine LoopA_i (T := tys) tysOk (by exact drawsB_spec mixed tysOk (by decide +kernel)) (spanL b.y) (fun j (f : Nat → Int) => ⟨[(7, .ptr 7 0), (8, .d .nils), (10, .ptr 10 0), (11, .ptr 11 0), (12, .d (i64 (b.x.lo + i))), (13, .d (i64 (b.y.lo + j)))], [(7, .box (.dd b.cells)), (10, .box (.dd m.cells)), (11, .box (.dd (cfD f)))], st⟩)
   (fun j ys f => H = colF m.at' x ys f ∧ ∀ q, q < 32 → 0 ≤ f q ∧ f q ≤ 41 * i + j) f (Wk.sub ⟨rfl, rfl, rfl, rfl, rfl, congrArg (fun z => some (V.d (i64 z))) (by simp), trivial⟩ ⟨rfl, rfl, rfl, trivial⟩) ⟨hH.symm, fun v hv => by have := hav v hv; omega⟩ ?_ ?_
  ·rintro j y ys f hyj hj hjr ⟨hcf, hav⟩
   obtain ⟨hy1, hy2⟩ := upX_get hyj
   have hcf : H = colF m.at' x ys (cntStep m.at' f ⟨x, y⟩) := hcf
   subst hx1 hy1
   conv=>whnf
   refine brk_i (fun _ => ?_) (fun h => absurd h (by simp; omega))
   conv=>whnf
   refine brk_i (fun h3 => ?_) (fun h3 => ?_)
   ·have hq : Pin 30000 ⟨b.x.lo + i, b.y.lo + j⟩ := ⟨by simp only; omega, by simp only; omega⟩
    have hnz : NZ (m.at'.sub ⟨b.x.lo + i, b.y.lo + j⟩) := by
     show m.at'.x - (b.x.lo + i) ≠ 0 ∨ m.at'.y - (b.y.lo + j) ≠ 0
     simp at h3
     omega
    have hne : ¬ (b.x.lo + (i : Int) = m.at'.x ∧ b.y.lo + (j : Int) = m.at'.y) := by
     intro e
     have hnz : m.at'.x - (b.x.lo + i) ≠ 0 ∨ m.at'.y - (b.y.lo + j) ≠ 0 := hnz
     omega
    rw [cntStep, if_neg hne] at hcf
    conv=>whnf
    refine CallA_view (ds := [Pt.d ⟨b.x.lo + i, b.y.lo + j⟩, m.at'.d]) (ch81 ⟨b.x.lo + i, b.y.lo + j⟩ m.at' (hq.mono (by omega)) (hmp.mono (by omega))) rfl 1 rfl ?_
    conv=>whnf
    refine CallA_view (ds := [(m.at'.sub ⟨b.x.lo + i, b.y.lo + j⟩).d]) (ch80 (m.at'.sub ⟨b.x.lo + i, b.y.lo + j⟩) ((hmp.sub hq).mono (by omega)) hnz) rfl 1 rfl ?_
    have hti := towF_in hnz
    generalize hT : towF (m.at'.sub ⟨b.x.lo + i, b.y.lo + j⟩) = T at hti hcf ⊢
    obtain ⟨t, rfl⟩ : ∃ t : Nat, T = t := ⟨T.toNat, by omega⟩
    rw [Int.toNat_natCast] at hcf
    have ht : t < 32 := by omega
    have hb := hav t ht
    have hmore : ∀ q, q < 32 → 0 ≤ (if q = t then f q + 1 else f q) ∧ (if q = t then f q + 1 else f q) ≤ 41 * i + (j + 1) := by
     intro q hq
     have := hav q hq
     split <;> omega
    clear hT hti hnz hne hq
    have ht32 : t = 0 ∨ t = 1 ∨ t = 2 ∨ t = 3 ∨ t = 4 ∨ t = 5 ∨ t = 6 ∨ t = 7 ∨ t = 8 ∨ t = 9 ∨ t = 10 ∨ t = 11 ∨ t = 12 ∨ t = 13 ∨ t = 14 ∨ t = 15 ∨ t = 16 ∨ t = 17 ∨ t = 18 ∨ t = 19 ∨ t = 20 ∨ t = 21 ∨ t = 22 ∨ t = 23 ∨ t = 24 ∨ t = 25 ∨ t = 26 ∨ t = 27 ∨ t = 28 ∨ t = 29 ∨ t = 30 ∨ t = 31 := by omega
    clear ht
    rcases ht32 with rfl | rfl | rfl | rfl | rfl | rfl | rfl | rfl | rfl | rfl | rfl | rfl | rfl | rfl | rfl | rfl | rfl | rfl | rfl | rfl | rfl | rfl | rfl | rfl | rfl | rfl | rfl | rfl | rfl | rfl | rfl | rfl <;>
    ·conv=>whnf
     refine arith_in (wrap_i64 (by (try dsimp only); omega)) ?_
     conv=>whnf
     refine arith_in (wrap_i64 (by (try dsimp only); omega)) ?_
     conv=>whnf
     exact ⟨_, ⟨hcf, hmore⟩, Wk.sub ⟨rfl, rfl, rfl, rfl, rfl, congrArg (fun z => some (V.d (i64 z))) (by omega), trivial⟩ ⟨rfl, rfl, rfl, trivial⟩⟩
   ·have hne : b.x.lo + (i : Int) = m.at'.x ∧ b.y.lo + (j : Int) = m.at'.y := by
     simp at h3
     omega
    rw [cntStep, if_pos hne] at hcf
    conv=>whnf
    refine arith_in (wrap_i64 (by (try dsimp only); omega)) ?_
    conv=>whnf
    exact ⟨f, ⟨hcf, fun q hq => by have := hav q hq; omega⟩, Wk.sub ⟨rfl, rfl, rfl, rfl, rfl, congrArg (fun z => some (V.d (i64 z))) (by omega), trivial⟩ ⟨rfl, rfl, rfl, trivial⟩⟩
  ·rintro f ⟨hcf, hav⟩
   have hcf : H = f := hcf
   conv=>whnf
   refine brk_i (fun h => absurd h (by simp; omega)) (fun _ => ?_)
   conv=>whnf
   refine arith_in (wrap_i64 (by (try dsimp only); omega)) ?_
   conv=>whnf
   exact ⟨f, ⟨hcf ▸ hgf, fun q hq => by have := hav q hq; omega⟩, Wk.sub ⟨rfl, rfl, rfl, rfl, congrArg (fun z => some (V.d (i64 z))) (by omega), trivial⟩ ⟨rfl, rfl, rfl, trivial⟩⟩
 ·rintro f ⟨hgf, hav⟩
  have hgf : G = f := hgf
  subst hgf
  conv=>whnf
  refine brk_i (fun h => absurd h (by simp; omega)) (fun _ => ?_)
  conv=>whnf
  generalize hD : dirsL G (List.range 32) = DL
  refine LoopA_i (T := tys) tysOk (by exact drawsB_spec mixed tysOk (by decide +kernel)) (List.range 32) (fun i (acc : List Int) => ⟨[(8, .sl 77 1 0 acc.length), (67, .d (.agg (cfD G))), (68, .d (i64 i))], [(77, .arr 1 (.dd (acc.map fun n => [i64 n])))], st⟩)
   (fun i r acc => acc.length ≤ i ∧ DL = acc ++ dirsL G r) [] ((Wk.born 8 77 1 rfl rfl rfl).trans (Wk.sub ⟨(by first | rfl | (simp only [List.length_map]; rfl) | simp [PX.get]), (by first | rfl | (simp only [List.length_map]; rfl) | simp [PX.get]), (by first | rfl | (simp only [List.length_map]; rfl) | simp [PX.get]), trivial⟩ ⟨(by first | rfl | (simp only [List.length_map]; rfl) | simp [PX.get]), trivial⟩)) ⟨by simp, hD.symm⟩ ?_ ?_
  ·rintro i q r acc hqi hi hir ⟨hal, hDL⟩
   have hq : q = i := by
    rw [List.getElem?_range (by simpa using hi)] at hqi
    cases hqi; rfl
   subst hq
   have hi : q < 32 := by simpa using hi
   conv=>whnf
   refine brk_i (fun _ => ?_) (fun h => absurd h (by simp; omega))
   refine brk_i (fun _ => ?_) (fun h => absurd h (by simp; omega))
   refine getC hi (by show (q : Int).toNat * 1 = q; omega) rfl ?_
   conv=>whnf
   refine brk_i (fun h3 => ?_) (fun h3 => ?_)
   ·have h3 : 0 < G q := of_decide_eq_true h3
    have hDL : DL = (acc ++ [(q : Int)]) ++ dirsL G r := by rw [hDL]; simp [dirsL, h3]
    conv=>whnf
    refine ownK_whole rfl ?_
    conv=>whnf
    refine ownK_whole (by simp [Els.len]) ?_
    conv=>whnf
    refine chk_i (decide_eq_true (by show ((acc.map fun n => [i64 n]).length + 1) * 8 ≤ _; rw [List.length_map]; omega)) ?_
    conv=>whnf
    refine arith_in (wrap_i64 (by (try dsimp only); omega)) ?_
    conv=>whnf
    exact ⟨acc ++ [(q : Int)], ⟨by simp; omega, hDL⟩, Wk.sub ⟨congrArg (fun z : Nat => some (V.sl 77 1 0 z)) (by simp [Els.len]), rfl, congrArg (fun z => some (V.d (i64 z))) (by omega), trivial⟩ ⟨congrArg (fun z => some (Obj.arr 1 (.dd z))) (by simp), trivial⟩⟩
   ·have h3 : ¬ 0 < G q := of_decide_eq_false h3
    have hDL : DL = acc ++ dirsL G r := by rw [hDL]; simp [dirsL, h3]
    conv=>whnf
    refine arith_in (wrap_i64 (by (try dsimp only); omega)) ?_
    conv=>whnf
    exact ⟨acc, ⟨by omega, hDL⟩, Wk.sub ⟨rfl, rfl, congrArg (fun z => some (V.d (i64 z))) (by omega), trivial⟩ ⟨rfl, trivial⟩⟩
  ·rintro acc ⟨hal, hDL⟩
   have hDL : DL = acc := by rw [hDL]; simp [dirsL]
   rw [hDL]
   conv=>whnf
   refine RetA_view 1 (ds := [intsD acc, i64 0]) ?_ ⟨⟨rfl, rfl⟩, rfl⟩
   exact viewL_cons (viewV_sl rfl (by simp)) rfl
end Go.PX
namespace Go.PX
open Go.Proofs
end Go.PX
namespace Go.PX
open Go.Proofs
end Go.PX
namespace Go.PX
open Go.Proofs
end Go.PX
namespace Go.PX
open Go.Proofs
def ptsC (l : List Pt) : List (List D) := l.map Pt.cells
end Go.PX
namespace Go.PX
open Go.Proofs
def decG : Int → List UInt8 → Int
 | n, [] => n
 | n, c :: r => if 48 ≤ c.toNat ∧ c.toNat ≤ 57 then decG (10 * n + (c.toNat - 48 : Nat)) r else -1
def zeroB : List UInt8 → Bool
 | c :: _ :: _ => decide (c = 48)
 | _ => false
def decR (l : List UInt8) : Int := if inB l.length 1 9 && !zeroB l then decG 0 l else -1
def minB : List UInt8 → Bool
 | c :: _ :: _ => decide (c = 45)
 | _ => false
def numR (s : ByteArray) : Int :=
 if minB s.data.toList then (if 0 < decR (s.data.toList.drop 1) then -decR (s.data.toList.drop 1) else 2000000000)
 else (if decR s.data.toList < 0 then 2000000000 else decR s.data.toList)
def pairsR : List ByteArray → List Pt
 | a :: b :: r => ⟨numR a, numR b⟩ :: pairsR r
 | _ => []
def paintOf (p : Pt) : Paint := ⟨p.x, p.y⟩
def rowR (c : Cht) (w : List ByteArray) : Option Cht :=
 if w.length < 4 then none else match w with
 | k :: n :: r => match pairsR r with
  | p :: l => if k = markW then some { c with marks := c.marks ++ [⟨n, p, l.map paintOf⟩] } else match l with
   | q :: l' => some { c with sands := c.sands ++ [⟨n, l', ⟨⟨p.x, p.y⟩, ⟨q.x, q.y⟩⟩⟩] }
   | [] => none
  | [] => none
 | _ => none
def rowsR : Cht → List ByteArray → Option Cht
 | c, x :: y :: r => match rowR c (piecesB 32 x) with
  | some c' => rowsR c' (y :: r)
  | none => none
 | c, _ => some c
def readR (s : ByteArray) : Cht × Int :=
 if 4000 < s.size then (chtO, 3) else match rowsR chtO (piecesB 10 s) with
 | some c => if (checkX c).2.2 = 0 ∧ chtT c = s then (c, 0) else (chtO, 6)
 | none => (chtO, 6)
theorem decG_dec : ∀ (f u : Nat) (r : List UInt8), 0 < f → u < 10 ^ f → decG 0 (decF f u ++ r) = decG (u : Int) r
 | f + 1, u, r, _, hu => by
  rw [decF]
  by_cases h : u < 10
  ·rw [if_pos h]
   show decG 0 (UInt8.ofNat (48 + u) :: r) = _
   rw [decG, u8_nat u h, if_pos (by omega)]
   congr 1; omega
  ·rw [if_neg h]
   have h2 : u / 10 < 10 ^ f := by
    rw [Nat.pow_succ] at hu
    exact Nat.div_lt_of_lt_mul (by omega)
   have hf : 0 < f := by
    rcases Nat.eq_zero_or_pos f with rfl | h3
    ·simp at h2; omega
    ·exact h3
   rw [List.append_assoc, decG_dec f (u / 10) _ hf h2]
   show decG _ (UInt8.ofNat (48 + u % 10) :: r) = _
   rw [decG, u8_nat _ (by omega), if_pos (by omega)]
   congr 1; omega
theorem decF_head : ∀ (f u : Nat) (c : UInt8) (r : List UInt8), 0 < u → u < 10 ^ f → decF f u = c :: r → c ≠ 48
 | 0, _, _, _, _, _, h => by cases h
 | f + 1, u, c, r, hu, hf, h => by
  rw [decF] at h
  split at h
  ·rename_i h1
   cases h
   intro h2
   have := congrArg UInt8.toNat h2
   rw [u8_nat u h1] at this
   simp at this; omega
  ·rename_i h1
   have h2 : u / 10 < 10 ^ f := by
    rw [Nat.pow_succ] at hf
    exact Nat.div_lt_of_lt_mul (by omega)
   have hf0 : 0 < f := by
    rcases Nat.eq_zero_or_pos f with rfl | h3
    ·simp at h2; omega
    ·exact h3
   cases hd : decF f (u / 10) with
   | nil => exact absurd hd (decF_ne f _ hf0)
   | cons d s =>
    rw [hd] at h
    cases h
    exact decF_head f (u / 10) _ s (by omega) h2 hd
theorem decF_zero (f : Nat) : decF (f + 1) 0 = [48] := by rw [decF, if_pos (by omega)]; rfl
theorem decR_dec {u : Nat} (h : u < 1000000) : decR (decF 19 u) = u := by
 have e6 : (10 : Nat) ^ 6 = 1000000 := by decide
 have e19 : (10 : Nat) ^ 19 = 10000000000000000000 := by decide
 have h1 := decF_short 19 6 u (by omega) (by omega)
 have h2 := decF_ne 19 u (by omega)
 have h3 : 0 < (decF 19 u).length := List.length_pos_iff.2 h2
 have hz : zeroB (decF 19 u) = false := by
  rcases Nat.eq_zero_or_pos u with rfl | hu
  ·rw [decF_zero]; rfl
  ·cases hd : decF 19 u with
   | nil => rfl
   | cons c r =>
    have := decF_head 19 u c r hu (by omega) hd
    cases r with
    | nil => rfl
    | cons d s => exact decide_eq_false this
 unfold decR
 have hin : inB ((decF 19 u).length : Int) 1 9 = true := by rw [inB_iff]; omega
 rw [hin, hz]
 have := decG_dec 19 u [] (by omega) (by omega)
 rw [List.append_nil] at this
 simp only [Bool.not_false, Bool.and_self, if_true]
 rw [this]; rfl
theorem decF_first (f u : Nat) (h : 0 < f) : ∃ c r, decF f u = c :: r ∧ 48 ≤ c.toNat := by
 cases hd : decF f u with
 | nil => exact absurd hd (decF_ne f u h)
 | cons c r => exact ⟨c, r, rfl, (decF_digits f u c (by rw [hd]; simp)).1⟩
theorem numR_num {n : Int} (h : -999999 ≤ n ∧ n ≤ 999999) : numR (numB n) = n := by
 have hd : (numB n).data.toList = numL n := rfl
 unfold numR
 rw [hd]
 unfold numL
 obtain ⟨c, r, hc, hc2⟩ := decF_first 19 n.natAbs (by omega)
 obtain ⟨c', r', hc', hc2'⟩ := decF_first 19 n.toNat (by omega)
 by_cases hn : n < 0
 ·rw [if_pos hn]
  have hm : minB (45 :: decF 19 n.natAbs) = true := by rw [hc]; rfl
  rw [hm, if_pos rfl]
  show (if 0 < decR (decF 19 n.natAbs) then _ else _) = n
  have e : decR (decF 19 n.natAbs) = n.natAbs := decR_dec (by omega)
  rw [List.drop_one, List.tail_cons, e, if_pos (by omega)]; omega
 ·rw [if_neg hn]
  have hm : minB (decF 19 n.toNat) = false := by
   rw [hc']
   cases r' with
   | nil => rfl
   | cons d s =>
    refine decide_eq_false ?_
    rintro rfl
    revert hc2'; decide
  rw [hm, if_neg (by simp), decR_dec (by omega), if_neg (by omega)]; omega
theorem pairsR_num : ∀ (l : List Pt), (∀ p ∈ l, (-999999 ≤ p.x ∧ p.x ≤ 999999) ∧ (-999999 ≤ p.y ∧ p.y ≤ 999999)) → pairsR ((l.flatMap fun p => [p.x, p.y]).map numB) = l
 | [], _ => rfl
 | p :: r, h => by
  obtain ⟨h1, h2⟩ := h p (List.mem_cons_self ..)
  have ih := pairsR_num r fun q hq => h q (List.mem_cons_of_mem _ hq)
  show pairsR (numB p.x :: numB p.y :: (r.flatMap fun p => [p.x, p.y]).map numB) = _
  rw [pairsR, ih, numR_num h1, numR_num h2]
theorem splitL_line : ∀ (b r : List UInt8), (∀ x ∈ b, x ≠ 10) → splitL 10 (b ++ 10 :: r) = b :: splitL 10 r
 | [], r, _ => by simp [splitL]
 | x :: b, r, h => by
  rw [List.cons_append, splitL, if_neg (h x (List.mem_cons_self ..)), splitL_line b r fun y hy => h y (List.mem_cons_of_mem _ hy)]
  rfl
def toB (l : List UInt8) : ByteArray := ⟨l.toArray⟩
theorem rowsR_line (c c' : Cht) (w n : ByteArray) (l : List Int) (r : List UInt8) (hw : cleanL w.data.toList) (hn : cleanL n.data.toList) (h : rowR c (w :: n :: l.map numB) = some c') : rowsR c ((splitL 10 (lineL w n l ++ 10 :: r)).map toB) = rowsR c' ((splitL 10 r).map toB) := by
 rw [splitL_line _ _ (lineL_no10 hw hn l), List.map_cons]
 have h1 := splitL_ne 10 r
 cases hr : splitL 10 r with
 | nil => exact absurd hr h1
 | cons y t =>
  rw [List.map_cons, rowsR]
  have h2 : piecesB 32 (toB (lineL w n l)) = w :: n :: l.map numB := pieces_line hw hn l
  rw [h2, h]
theorem row_mark (c : Cht) (m : Mark) (h : ∀ n ∈ markN m, -999999 ≤ n ∧ n ≤ 999999) : rowR c (markW :: m.name :: (markN m).map numB) = some { c with marks := c.marks ++ [m] } := by
 have hx := h m.at'.x (by simp [markN])
 have hy := h m.at'.y (by simp [markN])
 have e1 : markN m = (m.at' :: m.paints.map fun p => (⟨p.day, p.colour⟩ : Pt)).flatMap fun p => [p.x, p.y] := by
  simp [markN, paintsN, List.flatMap_map]
 have e2 := pairsR_num (m.at' :: m.paints.map fun p => (⟨p.day, p.colour⟩ : Pt)) (by
  intro p hp
  rcases List.mem_cons.1 hp with rfl | hp
  ·exact ⟨hx, hy⟩
  ·obtain ⟨q, hq, rfl⟩ := List.mem_map.1 hp
   refine ⟨h _ ?_, h _ ?_⟩ <;>
   ·simp only [markN, paintsN, List.mem_append, List.mem_flatMap]
    exact .inr ⟨q, hq, by simp⟩)
 rw [← e1] at e2
 unfold rowR
 have hl : ¬ (markW :: m.name :: (markN m).map numB).length < 4 := by simp [markN]
 rw [if_neg hl]
 simp only [e2, if_pos, List.map_map]
 have e3 : m.paints.map (paintOf ∘ fun p => (⟨p.day, p.colour⟩ : Pt)) = m.paints := by
  conv => rhs; rw [← List.map_id m.paints]
  rfl
 rw [e3]
theorem row_sand (c : Cht) (s : Sand) (h : ∀ n ∈ sandN s, -999999 ≤ n ∧ n ≤ 999999) : rowR c (sandW :: s.name :: (sandN s).map numB) = some { c with sands := c.sands ++ [s] } := by
 have h1 := h s.moves.x.lo (by simp [sandN])
 have h2 := h s.moves.x.hi (by simp [sandN])
 have h3 := h s.moves.y.lo (by simp [sandN])
 have h4 := h s.moves.y.hi (by simp [sandN])
 have e1 : sandN s = (⟨s.moves.x.lo, s.moves.x.hi⟩ :: ⟨s.moves.y.lo, s.moves.y.hi⟩ :: s.corners : List Pt).flatMap fun p => [p.x, p.y] := by
  simp [sandN, ptsN]
 have e2 := pairsR_num (⟨s.moves.x.lo, s.moves.x.hi⟩ :: ⟨s.moves.y.lo, s.moves.y.hi⟩ :: s.corners) (by
  intro p hp
  rcases List.mem_cons.1 hp with rfl | hp
  ·exact ⟨h1, h2⟩
  rcases List.mem_cons.1 hp with rfl | hp
  ·exact ⟨h3, h4⟩
  ·refine ⟨h _ ?_, h _ ?_⟩ <;>
   ·simp only [sandN, ptsN, List.mem_append, List.mem_flatMap]
    exact .inr ⟨p, hp, by simp⟩)
 rw [← e1] at e2
 unfold rowR
 have hl : ¬ (sandW :: s.name :: (sandN s).map numB).length < 4 := by simp [sandN]
 have hne : sandW ≠ markW := by decide
 rw [if_neg hl]
 simp only [e2, if_neg hne]
theorem rows_marks : ∀ (l : List Mark) (c : Cht) (r : List UInt8), (∀ m ∈ l, nameF m.name = true ∧ ∀ n ∈ markN m, -999999 ≤ n ∧ n ≤ 999999) →
  rowsR c ((splitL 10 ((catB (l.map markT)).data.toList ++ r)).map toB) = rowsR { c with marks := c.marks ++ l } ((splitL 10 r).map toB)
 | [], c, r, _ => by
  show rowsR c ((splitL 10 ([] ++ r)).map toB) = _
  simp
 | m :: l, c, r, h => by
  obtain ⟨h1, h2⟩ := h m (List.mem_cons_self ..)
  have ih := rows_marks l { c with marks := c.marks ++ [m] } r fun q hq => h q (List.mem_cons_of_mem _ hq)
  rw [List.map_cons, catB]
  simp only [ByteArray.data_append, Array.toList_append]
  show rowsR c ((splitL 10 ((lineB markW m.name (markN m)).data.toList ++ _ ++ r)).map toB) = _
  rw [lineB_toL, List.append_assoc, List.append_assoc]
  show rowsR c ((splitL 10 (lineL markW m.name (markN m) ++ 10 :: ((catB (l.map markT)).data.toList ++ r))).map toB) = _
  rw [rowsR_line c _ markW m.name (markN m) _ markW_clean (nameF_clean h1) (row_mark c m h2), ih]
  simp
theorem rows_sands : ∀ (l : List Sand) (c : Cht) (r : List UInt8), (∀ m ∈ l, nameF m.name = true ∧ ∀ n ∈ sandN m, -999999 ≤ n ∧ n ≤ 999999) →
  rowsR c ((splitL 10 ((catB (l.map sandT)).data.toList ++ r)).map toB) = rowsR { c with sands := c.sands ++ l } ((splitL 10 r).map toB)
 | [], c, r, _ => by
  show rowsR c ((splitL 10 ([] ++ r)).map toB) = _
  simp
 | m :: l, c, r, h => by
  obtain ⟨h1, h2⟩ := h m (List.mem_cons_self ..)
  have ih := rows_sands l { c with sands := c.sands ++ [m] } r fun q hq => h q (List.mem_cons_of_mem _ hq)
  rw [List.map_cons, catB]
  simp only [ByteArray.data_append, Array.toList_append]
  show rowsR c ((splitL 10 ((lineB sandW m.name (sandN m)).data.toList ++ _ ++ r)).map toB) = _
  rw [lineB_toL, List.append_assoc, List.append_assoc]
  show rowsR c ((splitL 10 (lineL sandW m.name (sandN m) ++ 10 :: ((catB (l.map sandT)).data.toList ++ r))).map toB) = _
  rw [rowsR_line c _ sandW m.name (sandN m) _ sandW_clean (nameF_clean h1) (row_sand c m h2), ih]
  simp
theorem rowsR_text {c : Cht} (h : (checkX c).2.2 = 0) : rowsR chtO (piecesB 10 (chtT c)) = some c := by
 have hR := checkX_ok h
 have hN := checkX_names h
 have e : (chtT c).data.toList = (catB (c.marks.map markT)).data.toList ++ ((catB (c.sands.map sandT)).data.toList ++ []) := by
  rw [chtT]; simp
 show rowsR chtO ((splitL 10 (chtT c).data.toList).map toB) = _
 rw [e, rows_marks c.marks chtO _ (fun m hm => ⟨hN.mark m hm, mark_nums hR hm⟩), rows_sands c.sands _ [] (fun m hm => ⟨hN.sand m hm, sand_nums hR hm⟩)]
 show rowsR _ [toB []] = _
 simp [rowsR, chtO]
theorem readR_write {c : Cht} (h : (checkX c).2.2 = 0) : readR (chtT c) = (c, 0) := by
 have hs := chtT_short h
 unfold readR
 rw [if_neg (by omega), rowsR_text h]
 simp only [if_pos, h, and_self]
theorem readR_good {s : ByteArray} (h : (readR s).2 = 0) : (checkX (readR s).1).2.2 = 0 ∧ chtT (readR s).1 = s := by
 unfold readR at h ⊢
 split at h
 ·cases h
 ·rename_i h4
  rw [if_neg h4]
  cases hr : rowsR chtO (piecesB 10 s) with
  | none => rw [hr] at h; cases h
  | some c =>
   rw [hr] at h
   simp only at h ⊢
   split at h
   ·rename_i h5
    rw [if_pos h5]; exact h5
   ·cases h
theorem readR_two (s : ByteArray) : (readR s).2 = 0 ∨ readR s = (chtO, if 4000 < s.size then 3 else 6) := by
 unfold readR
 split
 ·exact .inr rfl
 ·split
  ·split
   ·exact .inl rfl
   ·exact .inr rfl
  ·exact .inr rfl
theorem readX_two (s : ByteArray) : (readX s).2 = 0 ∨ readX s = (chtO, if 4000 < s.size then 3 else 6) := by
 unfold readX
 split
 ·exact .inr rfl
 ·split
  ·split
   ·exact .inl rfl
   ·exact .inr rfl
  ·exact .inr rfl
theorem read_eq (s : ByteArray) : readX s = readR s := by
 rcases readX_two s with h | h
 ·obtain ⟨h1, h2⟩ := readX_good h
  have h3 := readR_write h1
  rw [h2] at h3
  rw [h3, ← h]
 ·rcases readR_two s with h' | h'
  ·obtain ⟨h1, h2⟩ := readR_good h'
   have h3 := read_write h1
   rw [h2] at h3
   rw [h3, ← h']
  ·rw [h, h']
end Go.PX
namespace Go.PX
open Go.Proofs
theorem ba_drop (s : ByteArray) (a : Nat) : (s.extract a s.size).data.toList = s.data.toList.drop a := by
 rw [ByteArray.data_extract]
 simp
 have : s.size = s.data.toList.length := by simp
 rw [List.take_of_length_le]
 simp
theorem pow9 {i : Nat} (h : i < 9) : (10 : Int) ^ i ≤ 100000000 := by
 have : (10 : Nat) ^ i ≤ 10 ^ 8 := Nat.pow_le_pow_right (by omega) (by omega)
 have e : (10 : Nat) ^ 8 = 100000000 := by decide
 rw [e] at this
 have h2 : ((10 ^ i : Nat) : Int) = (10 : Int) ^ i := by simp
 omega
theorem decG_bd : ∀ (l : List UInt8) (n : Int) (k : Nat), 0 ≤ n → n < 10 ^ k → -1 ≤ decG n l ∧ decG n l < 10 ^ (k + l.length)
 | [], n, k, h0, h1 => by rw [decG]; simp; omega
 | c :: r, n, k, h0, h1 => by
  rw [decG]
  have hp : (0 : Int) < 10 ^ (k + (r.length + 1)) := Int.pow_pos (by omega)
  split
  ·rename_i hc
   have h2 : 10 * n + ((c.toNat - 48 : Nat) : Int) < 10 ^ (k + 1) := by
    rw [Int.pow_succ]; omega
   have := decG_bd r _ (k + 1) (by omega) h2
   rw [List.length_cons, show k + (r.length + 1) = k + 1 + r.length by omega]
   exact this
  ·rw [List.length_cons]; omega
theorem decR_bd (l : List UInt8) : -1 ≤ decR l ∧ decR l < 1000000000 := by
 unfold decR
 split
 ·rename_i h
  rw [Bool.and_eq_true, inB_iff] at h
  have := decG_bd l 0 0 (by omega) (by simp)
  rw [Nat.zero_add] at this
  have h2 : (10 : Nat) ^ l.length ≤ 10 ^ 9 := Nat.pow_le_pow_right (by omega) (by omega)
  have e : (10 : Nat) ^ 9 = 1000000000 := by decide
  rw [e] at h2
  have h3 : ((10 ^ l.length : Nat) : Int) = (10 : Int) ^ l.length := by simp
  omega
 ·omega
set_option maxHeartbeats 2000000 in
theorem ch133 (s : ByteArray) : FnV Tryz.prog 133 [.str s] (i64 (decR s.data.toList)) := by
 refine fnV_of mixed tysOk Tryz.func133 rfl (ft := ft133) 1 (by decide +kernel) (by rfl) fun {σ} Y st => ?_
 conv=>whnf
 have hsz : s.size = s.data.toList.length := by simp
 have hdec : decR s.data.toList = if inB s.data.toList.length 1 9 && !zeroB s.data.toList then decG 0 s.data.toList else -1 := rfl
 refine CallA_v (ds := [i64 s.size, i64 1, i64 9]) (fn118 s.size 1 9) rfl rfl ?_
 rw [hsz]
 cases hin : inB (s.data.toList.length : Int) 1 9 with
 | false =>
  rw [hin, Bool.false_and, if_neg (by simp)] at hdec
  rw [hdec]
  conv=>whnf
  exact RetA_view 0 rfl ⟨⟨rfl, rfl⟩, rfl⟩
 | true =>
  rw [hin, Bool.true_and] at hdec
  rw [inB_iff] at hin
  have hlist : ∃ c r, s.data.toList = c :: r := by
   cases h : s.data.toList with
   | nil => rw [h] at hin; simp at hin
   | cons c r => exact ⟨c, r, rfl⟩
  obtain ⟨c, r, hcr⟩ := hlist
  have h0 : s.data.toList[0]? = some c := by rw [hcr]; rfl
  have bad : zeroB s.data.toList = true → decR s.data.toList = -1 := fun h => by rw [hdec, h]; rfl
  have good : zeroB s.data.toList = false → decR s.data.toList = decG 0 s.data.toList := fun h => by rw [hdec, h]; rfl
  have hz : zeroB s.data.toList = (decide (1 < s.data.toList.length) && decide (c = 48)) := by
   rw [hcr]
   cases r with
   | nil => rfl
   | cons d r => simp [zeroB]
  conv=>whnf
  refine brk_i (fun h1 => ?_) (fun h1 => ?_)
  ·have h1 : 1 < s.data.toList.length := by have := of_decide_eq_true h1; omega
   rw [decide_eq_true h1, Bool.true_and] at hz
   conv=>whnf
   refine cellK_i c h0 ?_
   conv=>whnf
   refine brk_i (fun h2 => ?_) (fun h2 => ?_)
   ·have h2 : c = 48 := by
     have := of_decide_eq_true h2
     have h9 : (c.toNat : Int) = 48 := by simpa using this
     exact UInt8.toNat_inj.1 (show c.toNat = 48 by omega)
    rw [decide_eq_true h2] at hz
    rw [bad hz]
    conv=>whnf
    exact RetA_view 0 rfl ⟨⟨rfl, rfl⟩, rfl⟩
   ·have h2 : c ≠ 48 := by
     rintro rfl
     simp at h2
    rw [decide_eq_false h2] at hz
    have hk := good hz
    conv=>whnf
    refine LoopA_i (T := tys) tysOk (by exact drawsB_spec mixed tysOk (by decide +kernel)) s.data.toList (fun i (n : Int) => ⟨[(0, .d (.str s)), (3, .d (i64 n)), (4, .d (i64 i))], [], st⟩) (fun i r n => decG 0 s.data.toList = decG n r ∧ 0 ≤ n ∧ n < 10 ^ i) 0 (Wk.sub ⟨(by first | rfl | (simp only [List.length_map]; rfl) | simp [PX.get]), (by first | rfl | (simp only [List.length_map]; rfl) | simp [PX.get]), (by first | rfl | (simp only [List.length_map]; rfl) | simp [PX.get]), trivial⟩ trivial) ⟨rfl, by omega, by simp⟩ ?_ ?_
    ·rintro i x r n hxi hi hir ⟨hg, hn0, hn1⟩
     have hp := pow9 (i := i) (by omega)
     rw [decG] at hg
     conv=>whnf
     refine brk_i (fun _ => ?_) (fun h => absurd h (by simp; omega))
     conv=>whnf
     refine cellK_i x (by simpa using hxi) ?_
     conv=>whnf
     refine brk_i (fun h3 => ?_) (fun h3 => ?_)
     ·have h3 : x.toNat < 48 := by have := of_decide_eq_true h3; omega
      rw [if_neg (by omega)] at hg
      rw [hk, hg]
      conv=>whnf
      exact RetA_view 0 rfl ⟨⟨rfl, rfl⟩, rfl⟩
     ·have h3 : ¬ x.toNat < 48 := by have := of_decide_eq_false h3; omega
      conv=>whnf
      refine cellK_i x (by simpa using hxi) ?_
      conv=>whnf
      refine brk_i (fun h4 => ?_) (fun h4 => ?_)
      ·have h4 : 57 < x.toNat := by have := of_decide_eq_true h4; omega
       rw [if_neg (by omega)] at hg
       rw [hk, hg]
       conv=>whnf
       exact RetA_view 0 rfl ⟨⟨rfl, rfl⟩, rfl⟩
      ·have h4 : ¬ 57 < x.toNat := by have := of_decide_eq_false h4; omega
       rw [if_pos (by omega)] at hg
       conv=>whnf
       refine arith_in (wrap_i64 (by (try dsimp only); omega)) ?_
       conv=>whnf
       refine cellK_i x (by simpa using hxi) ?_
       conv=>whnf
       refine arith_in (IntWalk.u8_in _ (by omega)) ?_
       conv=>whnf
       refine arith_in (wrap_i64 (by (try dsimp only); omega)) ?_
       conv=>whnf
       refine arith_in (wrap_i64 (by (try dsimp only); omega)) ?_
       conv=>whnf
       refine arith_in (wrap_i64 (by (try dsimp only); omega)) ?_
       conv=>whnf
       refine ⟨10 * n + ((x.toNat - 48 : Nat) : Int), ⟨hg, by omega, by rw [Int.pow_succ]; omega⟩, Wk.sub ⟨rfl, congrArg (fun z => some (V.d (i64 z))) (by omega), rfl, trivial⟩ trivial⟩
    ·rintro n ⟨hg, _⟩
     conv=>whnf
     refine brk_i (fun h => absurd h (by simp)) (fun _ => ?_)
     rw [decG] at hg
     rw [hk, hg]
     conv=>whnf
     exact RetA_view 0 rfl ⟨⟨rfl, rfl⟩, rfl⟩
  ·have h1 : ¬ 1 < s.data.toList.length := by have := of_decide_eq_false h1; omega
   rw [decide_eq_false h1, Bool.false_and] at hz
   have hk := good hz
   conv=>whnf
   refine LoopA_i (T := tys) tysOk (by exact drawsB_spec mixed tysOk (by decide +kernel)) s.data.toList (fun i (n : Int) => ⟨[(0, .d (.str s)), (3, .d (i64 n)), (4, .d (i64 i))], [], st⟩) (fun i r n => decG 0 s.data.toList = decG n r ∧ 0 ≤ n ∧ n < 10 ^ i) 0 (Wk.sub ⟨(by first | rfl | (simp only [List.length_map]; rfl) | simp [PX.get]), (by first | rfl | (simp only [List.length_map]; rfl) | simp [PX.get]), (by first | rfl | (simp only [List.length_map]; rfl) | simp [PX.get]), trivial⟩ trivial) ⟨rfl, by omega, by simp⟩ ?_ ?_
   ·rintro i x r n hxi hi hir ⟨hg, hn0, hn1⟩
    have hp := pow9 (i := i) (by omega)
    rw [decG] at hg
    conv=>whnf
    refine brk_i (fun _ => ?_) (fun h => absurd h (by simp; omega))
    conv=>whnf
    refine cellK_i x (by simpa using hxi) ?_
    conv=>whnf
    refine brk_i (fun h3 => ?_) (fun h3 => ?_)
    ·have h3 : x.toNat < 48 := by have := of_decide_eq_true h3; omega
     rw [if_neg (by omega)] at hg
     rw [hk, hg]
     conv=>whnf
     exact RetA_view 0 rfl ⟨⟨rfl, rfl⟩, rfl⟩
    ·have h3 : ¬ x.toNat < 48 := by have := of_decide_eq_false h3; omega
     conv=>whnf
     refine cellK_i x (by simpa using hxi) ?_
     conv=>whnf
     refine brk_i (fun h4 => ?_) (fun h4 => ?_)
     ·have h4 : 57 < x.toNat := by have := of_decide_eq_true h4; omega
      rw [if_neg (by omega)] at hg
      rw [hk, hg]
      conv=>whnf
      exact RetA_view 0 rfl ⟨⟨rfl, rfl⟩, rfl⟩
     ·have h4 : ¬ 57 < x.toNat := by have := of_decide_eq_false h4; omega
      rw [if_pos (by omega)] at hg
      conv=>whnf
      refine arith_in (wrap_i64 (by (try dsimp only); omega)) ?_
      conv=>whnf
      refine cellK_i x (by simpa using hxi) ?_
      conv=>whnf
      refine arith_in (IntWalk.u8_in _ (by omega)) ?_
      conv=>whnf
      refine arith_in (wrap_i64 (by (try dsimp only); omega)) ?_
      conv=>whnf
      refine arith_in (wrap_i64 (by (try dsimp only); omega)) ?_
      conv=>whnf
      refine arith_in (wrap_i64 (by (try dsimp only); omega)) ?_
      conv=>whnf
      refine ⟨10 * n + ((x.toNat - 48 : Nat) : Int), ⟨hg, by omega, by rw [Int.pow_succ]; omega⟩, Wk.sub ⟨rfl, congrArg (fun z => some (V.d (i64 z))) (by omega), rfl, trivial⟩ trivial⟩
   ·rintro n ⟨hg, _⟩
    conv=>whnf
    refine brk_i (fun h => absurd h (by simp)) (fun _ => ?_)
    rw [decG] at hg
    rw [hk, hg]
    conv=>whnf
    exact RetA_view 0 rfl ⟨⟨rfl, rfl⟩, rfl⟩
theorem minB_eq (l : List UInt8) : minB l = (decide (1 < l.length) && decide (l[0]? = some 45)) := by
 cases l with
 | nil => rfl
 | cons c r => cases r with
  | nil => rfl
  | cons d r => simp [minB]
theorem ch120 (s : ByteArray) : FnV Tryz.prog 120 [.str s] (i64 (numR s)) := by
 refine fnV_of mixed tysOk Tryz.func120 rfl (ft := ft120) 1 (by decide +kernel) (by rfl) fun {σ} Y st => ?_
 conv=>whnf
 have hsz : s.size = s.data.toList.length := by simp
 have hm := minB_eq s.data.toList
 have hdr := decR_bd s.data.toList
 have hdr1 := decR_bd (s.data.toList.drop 1)
 have hnum : numR s = if minB s.data.toList then (if 0 < decR (s.data.toList.drop 1) then -decR (s.data.toList.drop 1) else 2000000000) else (if decR s.data.toList < 0 then 2000000000 else decR s.data.toList) := rfl
 refine brk_i (fun h1 => ?_) (fun h1 => ?_)
 ·have h1 : 1 < s.data.toList.length := by have := of_decide_eq_true h1; omega
  obtain ⟨c, hc⟩ : ∃ c, s.data.toList[0]? = some c := ⟨_, List.getElem?_eq_getElem (by omega)⟩
  rw [decide_eq_true h1, Bool.true_and, hc] at hm
  conv=>whnf
  refine cellK_i c hc ?_
  conv=>whnf
  refine brk_i (fun h2 => ?_) (fun h2 => ?_)
  ·have h2 : c = 45 := by
    have := of_decide_eq_true h2
    have h9 : (c.toNat : Int) = 45 := by simpa using this
    exact UInt8.toNat_inj.1 (show c.toNat = 45 by omega)
   subst h2
   rw [hm] at hnum
   simp only [decide_true, if_true] at hnum
   conv=>whnf
   refine chk_i (by simp; omega) ?_
   conv=>whnf
   refine CallA_v (ds := [.str (s.extract 1 s.size)]) (ch133 (s.extract 1 s.size)) rfl rfl ?_
   rw [ba_drop]
   conv=>whnf
   refine brk_i (fun h3 => ?_) (fun h3 => ?_)
   ·rw [if_pos (of_decide_eq_true h3)] at hnum
    rw [hnum]
    conv=>whnf
    refine arith_to ((-decR (s.data.toList.drop 1))) (by (try dsimp only); omega) (wrap_i64 (by (try dsimp only); omega)) ?_
    conv=>whnf
    exact RetA_view 0 rfl ⟨⟨rfl, rfl⟩, rfl⟩
   ·rw [if_neg (of_decide_eq_false h3)] at hnum
    rw [hnum]
    conv=>whnf
    exact RetA_view 0 rfl ⟨⟨rfl, rfl⟩, rfl⟩
  ·have h2 : c ≠ 45 := by
    rintro rfl
    simp at h2
   have hm : minB s.data.toList = false := by rw [hm]; simp [h2]
   rw [hm] at hnum
   simp only [Bool.false_eq_true, if_false] at hnum
   conv=>whnf
   refine CallA_v (ds := [.str s]) (ch133 s) rfl rfl ?_
   conv=>whnf
   refine brk_i (fun h3 => ?_) (fun h3 => ?_)
   ·rw [if_pos (of_decide_eq_true h3)] at hnum
    rw [hnum]
    conv=>whnf
    exact RetA_view 0 rfl ⟨⟨rfl, rfl⟩, rfl⟩
   ·rw [if_neg (of_decide_eq_false h3)] at hnum
    rw [hnum]
    conv=>whnf
    exact RetA_view 0 rfl ⟨⟨rfl, rfl⟩, rfl⟩
 ·have h1 : ¬ 1 < s.data.toList.length := by have := of_decide_eq_false h1; omega
  rw [decide_eq_false h1, Bool.false_and] at hm
  rw [hm] at hnum
  simp only [Bool.false_eq_true, if_false] at hnum
  conv=>whnf
  refine CallA_v (ds := [.str s]) (ch133 s) rfl rfl ?_
  conv=>whnf
  refine brk_i (fun h3 => ?_) (fun h3 => ?_)
  ·rw [if_pos (of_decide_eq_true h3)] at hnum
   rw [hnum]
   conv=>whnf
   exact RetA_view 0 rfl ⟨⟨rfl, rfl⟩, rfl⟩
  ·rw [if_neg (of_decide_eq_false h3)] at hnum
   rw [hnum]
   conv=>whnf
   exact RetA_view 0 rfl ⟨⟨rfl, rfl⟩, rfl⟩
end Go.PX
namespace Go.PX
open Go.Proofs
theorem splitL_part (c : UInt8) : ∀ (l p : List UInt8), (∀ x ∈ p, x ≠ c) → splitL c (p ++ l) = match splitL c l with
  | [] => [p]
  | a :: t => (p ++ a) :: t
 | l, [], _ => by
  have := splitL_ne c l
  cases h : splitL c l with
  | nil => exact absurd h this
  | cons a t => simp [h]
 | l, x :: p, hp => by
  have := splitL_ne c l
  rw [List.cons_append, splitL, if_neg (hp x (by simp)), splitL_part c l p fun y hy => hp y (by simp [hy])]
  cases h : splitL c l with
  | nil => exact absurd h this
  | cons a t => rfl
theorem splitL_none (c : UInt8) (p : List UInt8) (h : ∀ x ∈ p, x ≠ c) : splitL c p = [p] := by
 have := splitL_part c [] p h
 rw [List.append_nil] at this
 rw [this]; simp [splitL]
theorem splitL_at (c : UInt8) (p r : List UInt8) (h : ∀ x ∈ p, x ≠ c) : splitL c (p ++ c :: r) = p :: splitL c r := by
 rw [splitL_part c (c :: r) p h, splitL, if_pos rfl]
 simp
theorem ext_toL (s : ByteArray) (a b : Nat) : (s.extract a b).data.toList = (s.data.toList.drop a).take (b - a) := by
 rw [ByteArray.data_extract]
 simp
theorem drop_at {α : Type} {l : List α} {a i : Nat} {x : α} (ha : a ≤ i) (h : l[i]? = some x) : l.drop a = (l.drop a).take (i - a) ++ x :: l.drop (i + 1) := by
 have hi : i < l.length := (List.getElem?_eq_some_iff.1 h).1
 have hx : l[i] = x := (List.getElem?_eq_some_iff.1 h).2
 have h1 : (l.drop a).drop (i - a) = x :: l.drop (i + 1) := by
  rw [List.drop_drop, show a + (i - a) = i by omega, List.drop_eq_getElem_cons hi, hx]
 conv => lhs; rw [← List.take_append_drop (i - a) (l.drop a), h1]
theorem pieces_of {c : UInt8} {s : ByteArray} {acc : List ByteArray} {fr : Nat} (h3 : ∀ x ∈ s.data.toList.drop fr, x ≠ c) (h4 : splitL c s.data.toList = (acc.map fun x => x.data.toList) ++ splitL c (s.data.toList.drop fr)) : acc ++ [s.extract fr s.size] = piecesB c s := by
 rw [splitL_none c _ h3] at h4
 unfold piecesB
 rw [h4, List.map_append, List.map_map]
 congr 1
 ·conv => lhs; rw [← List.map_id acc]
  rfl
 ·rw [List.map_cons, List.map_nil, ← ba_drop]
set_option maxHeartbeats 2000000 in
theorem ch92 (s : ByteArray) (c : UInt8) (hs : s.size ≤ 1000000) : FnV Tryz.prog 92 [.str s, .int .u8 c.toNat] (.vs ((piecesB c s).map fun x => [.str x])) := by
 refine fnV_of mixed tysOk Tryz.func92 rfl (ft := ft92) 2 (by decide +kernel) (by rfl) fun {σ} Y st => ?_
 conv=>whnf
 have hsz : s.size = s.data.toList.length := by simp
 refine LoopA_i (T := tys) tysOk (by exact drawsB_spec mixed tysOk (by decide +kernel)) s.data.toList (fun i (g : List ByteArray × Nat) => ⟨[(0, .d (.str s)), (1, .d (.int .u8 c.toNat)), (5, .sl 25 1 0 g.1.length), (6, .d (i64 g.2)), (7, .d (i64 i))], [(25, .arr 1 (.dd (strsC g.1)))], st⟩)
  (fun i r g => g.2 ≤ i ∧ g.1.length ≤ i ∧ (∀ x ∈ (s.data.toList.drop g.2).take (i - g.2), x ≠ c) ∧ splitL c s.data.toList = (g.1.map fun x => x.data.toList) ++ splitL c (s.data.toList.drop g.2)) ([], 0) ((Wk.born 5 25 1 rfl rfl rfl).trans (Wk.sub ⟨(by first | rfl | (simp only [List.length_map]; rfl) | simp [PX.get]), (by first | rfl | (simp only [List.length_map]; rfl) | simp [PX.get]), (by first | rfl | (simp only [List.length_map]; rfl) | simp [PX.get]), (by first | rfl | (simp only [List.length_map]; rfl) | simp [PX.get]), (by first | rfl | (simp only [List.length_map]; rfl) | simp [PX.get]), trivial⟩ ⟨(by first | rfl | (simp only [List.length_map]; rfl) | simp [PX.get]), trivial⟩)) ⟨by omega, by simp, by simp, by simp⟩ ?_ ?_
 ·rintro i x r ⟨acc, fr⟩ hxi hi hir ⟨h1, h2, h3, h4⟩
  simp only at h1 h2 h3 h4
  have hda := drop_at h1 hxi
  conv=>whnf
  refine brk_i (fun _ => ?_) (fun h => absurd h (by simp; omega))
  conv=>whnf
  refine cellK_i x (by simpa using hxi) ?_
  conv=>whnf
  refine brk_i (fun h5 => ?_) (fun h5 => ?_)
  ·have h5 : x = c := by
    have h9 : (x.toNat : Int) = c.toNat := of_decide_eq_true h5
    exact UInt8.toNat_inj.1 (by omega)
   subst h5
   have h6 : splitL x s.data.toList = ((acc ++ [s.extract fr i]).map fun x => x.data.toList) ++ splitL x (s.data.toList.drop (i + 1)) := by
    rw [h4, hda, splitL_at x _ _ h3, List.map_append, List.map_cons, List.map_nil, ext_toL]; simp
   conv=>whnf
   refine chk_i (by simp; omega) ?_
   conv=>whnf
   refine chk_i (by simp; omega) ?_
   conv=>whnf
   refine ownK_whole rfl ?_
   conv=>whnf
   refine ownK_whole (by simp [Els.len, strsC]) ?_
   conv=>whnf
   refine chk_i (decide_eq_true (by show ((strsC acc).length + 1) * 16 ≤ _; simp only [strsC, List.length_map]; omega)) ?_
   conv=>whnf
   refine arith_in (wrap_i64 (by (try dsimp only); omega)) ?_
   conv=>whnf
   conv=>whnf
   refine arith_in (wrap_i64 (by (try dsimp only); omega)) ?_
   conv=>whnf
   exact ⟨(acc ++ [s.extract fr i], i + 1), ⟨by simp only; omega, by simp; omega, by simp, h6⟩, Wk.sub ⟨rfl, rfl, congrArg (fun z : Nat => some (V.sl 25 1 0 z)) (by simp [Els.len, strsC]), rfl, rfl, trivial⟩ ⟨congrArg (fun z => some (Obj.arr 1 (.dd z))) (by simp [strsC]), trivial⟩⟩
  ·have h5 : x ≠ c := by
    rintro rfl
    simp at h5
   have h6 : ∀ y ∈ (s.data.toList.drop fr).take (i + 1 - fr), y ≠ c := by
    intro y hy
    rw [hda, List.take_append] at hy
    rcases List.mem_append.1 hy with hy | hy
    ·exact h3 y (List.mem_of_mem_take hy)
    ·have hl : ((s.data.toList.drop fr).take (i - fr)).length = i - fr := by simp; omega
     rw [hl, show i + 1 - fr - (i - fr) = 1 by omega] at hy
     have hy : y = x := by simpa using hy
     subst hy; exact h5
   conv=>whnf
   refine arith_in (wrap_i64 (by (try dsimp only); omega)) ?_
   conv=>whnf
   exact ⟨(acc, fr), ⟨by simp only; omega, by simp only; omega, h6, h4⟩, (Wk.sub ⟨(by first | rfl | (simp only [List.length_map]; rfl) | simp [PX.get]), (by first | rfl | (simp only [List.length_map]; rfl) | simp [PX.get]), (by first | rfl | (simp only [List.length_map]; rfl) | simp [PX.get]), (by first | rfl | (simp only [List.length_map]; rfl) | simp [PX.get]), (by first | rfl | (simp only [List.length_map]; rfl) | simp [PX.get]), trivial⟩ ⟨(by first | rfl | (simp only [List.length_map]; rfl) | simp [PX.get]), trivial⟩)⟩
 ·rintro ⟨acc, fr⟩ ⟨h1, h2, h3, h4⟩
  simp only at h1 h2 h3 h4
  have h7 : ∀ x ∈ s.data.toList.drop fr, x ≠ c := by
   intro x hx
   refine h3 x ?_
   rw [List.take_of_length_le (by simp)]; exact hx
  have h8 := pieces_of h7 h4
  rw [← h8]
  conv=>whnf
  refine brk_i (fun h => absurd h (by simp)) (fun _ => ?_)
  conv=>whnf
  refine chk_i (by simp; omega) ?_
  conv=>whnf
  refine ownK_whole rfl ?_
  conv=>whnf
  refine ownK_whole (by simp [Els.len, strsC]) ?_
  conv=>whnf
  refine chk_i (decide_eq_true (by show ((strsC acc).length + 1) * 16 ≤ _; simp only [strsC, List.length_map]; omega)) ?_
  conv=>whnf
  refine RetA_view 1 (ds := [.vs ((acc ++ [s.extract fr s.size]).map fun x => [.str x])]) ?_ ⟨⟨rfl, rfl⟩, rfl⟩
  exact viewL_cons (viewV_sl (by simp [PX.get, strsC]) (by simp [Els.len, strsC])) rfl
theorem pairsR_step {w : List ByteArray} {k : Nat} {a b : ByteArray} (ha : w[2 * k]? = some a) (hb : w[2 * k + 1]? = some b) : pairsR (w.drop (2 * k)) = ⟨numR a, numR b⟩ :: pairsR (w.drop (2 * (k + 1))) := by
 have h1 : 2 * k < w.length := (List.getElem?_eq_some_iff.1 ha).1
 have h2 : 2 * k + 1 < w.length := (List.getElem?_eq_some_iff.1 hb).1
 have e1 : w[2 * k] = a := (List.getElem?_eq_some_iff.1 ha).2
 have e2 : w[2 * k + 1] = b := (List.getElem?_eq_some_iff.1 hb).2
 rw [List.drop_eq_getElem_cons h1, List.drop_eq_getElem_cons h2, e1, e2, pairsR]
 rfl
theorem pairsR_end {w : List ByteArray} {k : Nat} (h : w.length ≤ 2 * k + 1) : pairsR (w.drop (2 * k)) = [] := by
 have hl : (w.drop (2 * k)).length ≤ 1 := by rw [List.length_drop]; omega
 match h2 : w.drop (2 * k) with
 | [] => rfl
 | [a] => rfl
 | a :: b :: r => rw [h2] at hl; simp at hl
set_option maxHeartbeats 4000000 in
theorem ch93 (w : List ByteArray) (hw : w.length < 1000000) : FnV Tryz.prog 93 [strsD w] (ptsD (pairsR w)) := by
 refine fnV_of mixed tysOk Tryz.func93 rfl (ft := ft93) 1 (by decide +kernel) (by rfl) fun {σ} Y st => ?_
 conv=>whnf
 refine LoopA_p (T := tys) tysOk (by exact drawsB_spec mixed tysOk (by decide +kernel)) (α := Nat × List Pt) (fun x => ⟨[(0, .d (strsD w)), (3, .sl 26 2 0 x.2.length), (4, .d (i64 ((2 * x.1 : Nat) : Int)))], [(26, .arr 2 (.dd (ptsC x.2)))], st⟩) (fun x => x.2.length = x.1 ∧ 2 * x.1 ≤ w.length ∧ pairsR w = x.2 ++ pairsR (w.drop (2 * x.1))) (fun x => w.length - x.1) (0, []) ((Wk.born 3 26 2 rfl rfl rfl).trans (Wk.sub ⟨(by first | rfl | (simp only [List.length_map]; rfl) | simp [PX.get]), (by first | rfl | (simp only [List.length_map]; rfl) | simp [PX.get]), (by first | rfl | (simp only [List.length_map]; rfl) | simp [PX.get]), trivial⟩ ⟨(by first | rfl | (simp only [List.length_map]; rfl) | simp [PX.get]), trivial⟩)) ⟨rfl, by simp, by simp⟩ ?_
 rintro ⟨k, acc⟩ ⟨h1, h2, h3⟩
 simp only at h1 h2 h3
 conv=>whnf
 refine arith_in (wrap_i64 (by (try dsimp only); omega)) ?_
 conv=>whnf
 refine brk_i (fun h4 => ?_) (fun h4 => ?_)
 ·have h4 : 2 * k + 1 < w.length := by have := of_decide_eq_true h4; simp at this; omega
  obtain ⟨a, ha⟩ : ∃ a, w[2 * k]? = some a := ⟨_, List.getElem?_eq_getElem (by omega)⟩
  obtain ⟨b, hb⟩ : ∃ b, w[2 * k + 1]? = some b := ⟨_, List.getElem?_eq_getElem h4⟩
  rw [pairsR_step ha hb] at h3
  conv=>whnf
  refine elemK_nat ha ?_
  conv=>whnf
  refine DrawCall_v (ds := [.str a]) (ch120 a) rfl rfl ?_
  conv=>whnf
  refine arith_to ((((2 * k + 1 : Nat) : Int))) (by (try dsimp only); omega) (wrap_i64 (by (try dsimp only); omega)) ?_
  conv=>whnf
  refine elemK_nat hb ?_
  conv=>whnf
  refine DrawCall_v (ds := [.str b]) (ch120 b) rfl rfl ?_
  conv=>whnf
  refine ownK_whole rfl ?_
  conv=>whnf
  refine ownK_whole (by simp [Els.len, ptsC]) ?_
  conv=>whnf
  refine chk_i (decide_eq_true (by show ((ptsC acc).length + 1) * 16 ≤ _; simp only [ptsC, List.length_map]; omega)) ?_
  conv=>whnf
  refine arith_in (wrap_i64 (by (try dsimp only); omega)) ?_
  conv=>whnf
  exact ⟨(k + 1, acc ++ [⟨numR a, numR b⟩]), by simp only; omega, ⟨by simp [h1], by simp only; omega, by rw [h3]; simp⟩, Wk.sub ⟨rfl, congrArg (fun z : Nat => some (V.sl 26 2 0 z)) (by simp [Els.len, ptsC]), congrArg (fun z => some (V.d (i64 z))) (by omega), trivial⟩ ⟨congrArg (fun z => some (Obj.arr 2 (.dd z))) (by simp [ptsC, Pt.cells]), trivial⟩⟩
 ·have h4 : w.length ≤ 2 * k + 1 := by have := of_decide_eq_false h4; simp at this; omega
  rw [pairsR_end h4, List.append_nil] at h3
  rw [h3]
  conv=>whnf
  refine RetA_view 1 (ds := [ptsD acc]) ?_ ⟨⟨rfl, rfl⟩, rfl⟩
  exact viewL_cons (viewV_sl rfl (by simp [ptsC])) rfl
end Go.PX
namespace Go.PX
open Go.Proofs
open Go.RowKit Go.Proofs
set_option maxHeartbeats 1000000 in
set_option maxRecDepth 100000 in
theorem dig_0 (w : World) : Calls Tryz.prog 115 #[.int .i64 0] w fun e w' => e = .returned (.string ⟨#[48]⟩) ∧ w' = w.alloc (.cells #[.int .u8 48] 5) := by
 have hcv : (convert 168 9 (.slice (some ⟨w.heap.size, 0, none⟩) 1 1)).run Tryz.prog (w.alloc (.cells #[.int .u8 48] 5)) = .ok (.string ⟨#[48]⟩) (w.alloc (.cells #[.int .u8 48] 5)) :=
  run_convert_bytes_back (P := Tryz.prog) (w.alloc (.cells #[.int .u8 48] 5)) 168 9 5 ⟨w.heap.size, 0, none⟩ 1 [48] Tryz.underlying168 Tryz.underlying5 Tryz.underlying9 (by
   intro j hj
   have h0 : j = 0 := by simpa using hj
   subst h0
   simp [go_sem])
 go_enter Tryz.func115, Tryz.ntmps115
 go_wp2
 go_ret
 exact ⟨rfl, rfl⟩
set_option maxHeartbeats 1000000 in
set_option maxRecDepth 100000 in
theorem dig_1 (w : World) : Calls Tryz.prog 115 #[.int .i64 1] w fun e w' => e = .returned (.string ⟨#[49]⟩) ∧ w' = w.alloc (.cells #[.int .u8 49] 5) := by
 have hcv : (convert 168 9 (.slice (some ⟨w.heap.size, 0, none⟩) 1 1)).run Tryz.prog (w.alloc (.cells #[.int .u8 49] 5)) = .ok (.string ⟨#[49]⟩) (w.alloc (.cells #[.int .u8 49] 5)) :=
  run_convert_bytes_back (P := Tryz.prog) (w.alloc (.cells #[.int .u8 49] 5)) 168 9 5 ⟨w.heap.size, 0, none⟩ 1 [49] Tryz.underlying168 Tryz.underlying5 Tryz.underlying9 (by
   intro j hj
   have h0 : j = 0 := by simpa using hj
   subst h0
   simp [go_sem])
 go_enter Tryz.func115, Tryz.ntmps115
 go_wp2
 go_ret
 exact ⟨rfl, rfl⟩
set_option maxHeartbeats 1000000 in
set_option maxRecDepth 100000 in
theorem dig_2 (w : World) : Calls Tryz.prog 115 #[.int .i64 2] w fun e w' => e = .returned (.string ⟨#[50]⟩) ∧ w' = w.alloc (.cells #[.int .u8 50] 5) := by
 have hcv : (convert 168 9 (.slice (some ⟨w.heap.size, 0, none⟩) 1 1)).run Tryz.prog (w.alloc (.cells #[.int .u8 50] 5)) = .ok (.string ⟨#[50]⟩) (w.alloc (.cells #[.int .u8 50] 5)) :=
  run_convert_bytes_back (P := Tryz.prog) (w.alloc (.cells #[.int .u8 50] 5)) 168 9 5 ⟨w.heap.size, 0, none⟩ 1 [50] Tryz.underlying168 Tryz.underlying5 Tryz.underlying9 (by
   intro j hj
   have h0 : j = 0 := by simpa using hj
   subst h0
   simp [go_sem])
 go_enter Tryz.func115, Tryz.ntmps115
 go_wp2
 go_ret
 exact ⟨rfl, rfl⟩
set_option maxHeartbeats 1000000 in
set_option maxRecDepth 100000 in
theorem dig_3 (w : World) : Calls Tryz.prog 115 #[.int .i64 3] w fun e w' => e = .returned (.string ⟨#[51]⟩) ∧ w' = w.alloc (.cells #[.int .u8 51] 5) := by
 have hcv : (convert 168 9 (.slice (some ⟨w.heap.size, 0, none⟩) 1 1)).run Tryz.prog (w.alloc (.cells #[.int .u8 51] 5)) = .ok (.string ⟨#[51]⟩) (w.alloc (.cells #[.int .u8 51] 5)) :=
  run_convert_bytes_back (P := Tryz.prog) (w.alloc (.cells #[.int .u8 51] 5)) 168 9 5 ⟨w.heap.size, 0, none⟩ 1 [51] Tryz.underlying168 Tryz.underlying5 Tryz.underlying9 (by
   intro j hj
   have h0 : j = 0 := by simpa using hj
   subst h0
   simp [go_sem])
 go_enter Tryz.func115, Tryz.ntmps115
 go_wp2
 go_ret
 exact ⟨rfl, rfl⟩
set_option maxHeartbeats 1000000 in
set_option maxRecDepth 100000 in
theorem dig_4 (w : World) : Calls Tryz.prog 115 #[.int .i64 4] w fun e w' => e = .returned (.string ⟨#[52]⟩) ∧ w' = w.alloc (.cells #[.int .u8 52] 5) := by
 have hcv : (convert 168 9 (.slice (some ⟨w.heap.size, 0, none⟩) 1 1)).run Tryz.prog (w.alloc (.cells #[.int .u8 52] 5)) = .ok (.string ⟨#[52]⟩) (w.alloc (.cells #[.int .u8 52] 5)) :=
  run_convert_bytes_back (P := Tryz.prog) (w.alloc (.cells #[.int .u8 52] 5)) 168 9 5 ⟨w.heap.size, 0, none⟩ 1 [52] Tryz.underlying168 Tryz.underlying5 Tryz.underlying9 (by
   intro j hj
   have h0 : j = 0 := by simpa using hj
   subst h0
   simp [go_sem])
 go_enter Tryz.func115, Tryz.ntmps115
 go_wp2
 go_ret
 exact ⟨rfl, rfl⟩
set_option maxHeartbeats 1000000 in
set_option maxRecDepth 100000 in
theorem dig_5 (w : World) : Calls Tryz.prog 115 #[.int .i64 5] w fun e w' => e = .returned (.string ⟨#[53]⟩) ∧ w' = w.alloc (.cells #[.int .u8 53] 5) := by
 have hcv : (convert 168 9 (.slice (some ⟨w.heap.size, 0, none⟩) 1 1)).run Tryz.prog (w.alloc (.cells #[.int .u8 53] 5)) = .ok (.string ⟨#[53]⟩) (w.alloc (.cells #[.int .u8 53] 5)) :=
  run_convert_bytes_back (P := Tryz.prog) (w.alloc (.cells #[.int .u8 53] 5)) 168 9 5 ⟨w.heap.size, 0, none⟩ 1 [53] Tryz.underlying168 Tryz.underlying5 Tryz.underlying9 (by
   intro j hj
   have h0 : j = 0 := by simpa using hj
   subst h0
   simp [go_sem])
 go_enter Tryz.func115, Tryz.ntmps115
 go_wp2
 go_ret
 exact ⟨rfl, rfl⟩
set_option maxHeartbeats 1000000 in
set_option maxRecDepth 100000 in
theorem dig_6 (w : World) : Calls Tryz.prog 115 #[.int .i64 6] w fun e w' => e = .returned (.string ⟨#[54]⟩) ∧ w' = w.alloc (.cells #[.int .u8 54] 5) := by
 have hcv : (convert 168 9 (.slice (some ⟨w.heap.size, 0, none⟩) 1 1)).run Tryz.prog (w.alloc (.cells #[.int .u8 54] 5)) = .ok (.string ⟨#[54]⟩) (w.alloc (.cells #[.int .u8 54] 5)) :=
  run_convert_bytes_back (P := Tryz.prog) (w.alloc (.cells #[.int .u8 54] 5)) 168 9 5 ⟨w.heap.size, 0, none⟩ 1 [54] Tryz.underlying168 Tryz.underlying5 Tryz.underlying9 (by
   intro j hj
   have h0 : j = 0 := by simpa using hj
   subst h0
   simp [go_sem])
 go_enter Tryz.func115, Tryz.ntmps115
 go_wp2
 go_ret
 exact ⟨rfl, rfl⟩
set_option maxHeartbeats 1000000 in
set_option maxRecDepth 100000 in
theorem dig_7 (w : World) : Calls Tryz.prog 115 #[.int .i64 7] w fun e w' => e = .returned (.string ⟨#[55]⟩) ∧ w' = w.alloc (.cells #[.int .u8 55] 5) := by
 have hcv : (convert 168 9 (.slice (some ⟨w.heap.size, 0, none⟩) 1 1)).run Tryz.prog (w.alloc (.cells #[.int .u8 55] 5)) = .ok (.string ⟨#[55]⟩) (w.alloc (.cells #[.int .u8 55] 5)) :=
  run_convert_bytes_back (P := Tryz.prog) (w.alloc (.cells #[.int .u8 55] 5)) 168 9 5 ⟨w.heap.size, 0, none⟩ 1 [55] Tryz.underlying168 Tryz.underlying5 Tryz.underlying9 (by
   intro j hj
   have h0 : j = 0 := by simpa using hj
   subst h0
   simp [go_sem])
 go_enter Tryz.func115, Tryz.ntmps115
 go_wp2
 go_ret
 exact ⟨rfl, rfl⟩
set_option maxHeartbeats 1000000 in
set_option maxRecDepth 100000 in
theorem dig_8 (w : World) : Calls Tryz.prog 115 #[.int .i64 8] w fun e w' => e = .returned (.string ⟨#[56]⟩) ∧ w' = w.alloc (.cells #[.int .u8 56] 5) := by
 have hcv : (convert 168 9 (.slice (some ⟨w.heap.size, 0, none⟩) 1 1)).run Tryz.prog (w.alloc (.cells #[.int .u8 56] 5)) = .ok (.string ⟨#[56]⟩) (w.alloc (.cells #[.int .u8 56] 5)) :=
  run_convert_bytes_back (P := Tryz.prog) (w.alloc (.cells #[.int .u8 56] 5)) 168 9 5 ⟨w.heap.size, 0, none⟩ 1 [56] Tryz.underlying168 Tryz.underlying5 Tryz.underlying9 (by
   intro j hj
   have h0 : j = 0 := by simpa using hj
   subst h0
   simp [go_sem])
 go_enter Tryz.func115, Tryz.ntmps115
 go_wp2
 go_ret
 exact ⟨rfl, rfl⟩
set_option maxHeartbeats 1000000 in
set_option maxRecDepth 100000 in
theorem dig_9 (w : World) : Calls Tryz.prog 115 #[.int .i64 9] w fun e w' => e = .returned (.string ⟨#[57]⟩) ∧ w' = w.alloc (.cells #[.int .u8 57] 5) := by
 have hcv : (convert 168 9 (.slice (some ⟨w.heap.size, 0, none⟩) 1 1)).run Tryz.prog (w.alloc (.cells #[.int .u8 57] 5)) = .ok (.string ⟨#[57]⟩) (w.alloc (.cells #[.int .u8 57] 5)) :=
  run_convert_bytes_back (P := Tryz.prog) (w.alloc (.cells #[.int .u8 57] 5)) 168 9 5 ⟨w.heap.size, 0, none⟩ 1 [57] Tryz.underlying168 Tryz.underlying5 Tryz.underlying9 (by
   intro j hj
   have h0 : j = 0 := by simpa using hj
   subst h0
   simp [go_sem])
 go_enter Tryz.func115, Tryz.ntmps115
 go_wp2
 go_ret
 exact ⟨rfl, rfl⟩
end Go.PX
