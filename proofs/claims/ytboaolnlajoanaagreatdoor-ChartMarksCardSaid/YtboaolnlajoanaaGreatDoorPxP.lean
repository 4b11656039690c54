import Derived.Test.YtboaolnlajoanaaGreatDoorPxO
import Derived.Test.YtboaolnlajoanaaGreatDoorPxK
set_option linter.all false
set_option maxRecDepth 10000
namespace Go.PX
open Go.Proofs
def cmpP (p : Nat) : Pt := (compC[p]?).getD ⟨0, 0⟩
theorem cmp_call (p : Nat) (hp : p < 32) : FnV Tryz.prog 61 [i64 p] (cmpP p).d := by
 have h := @ch61 (p : Int) ⟨by omega, by omega⟩
 rw [compC_eq p hp] at h
 exact fun {σ} => h
theorem cmp_pin (p : Nat) (hp : p < 32) : Pin 1000 (cmpP p) := by
 have h : ∀ p : Nat, p < 32 → (-1000 ≤ (cmpP p).x ∧ (cmpP p).x ≤ 1000) ∧ (-1000 ≤ (cmpP p).y ∧ (cmpP p).y ≤ 1000) := by decide +kernel
 obtain ⟨h1, h2⟩ := h p hp
 exact ⟨h1, h2⟩
set_option maxHeartbeats 2000000 in
theorem ch83 (v : Pt) (hp : Pin 1000000 v) (hz : NZ v) : FnV Tryz.prog 83 [v.d] (i64 (towF v)) := by
 refine fnV_of mixed tysOk Tryz.func83 rfl (ft := ft83) 1 (by decide +kernel) (by rfl) fun {σ} Y st => ?_
 conv=>whnf
 have ht := towF_in hz
 refine LoopA_p (T := tys) tysOk (by exact drawsB_spec mixed tysOk (by decide +kernel)) (α := Nat) (fun p => ⟨[(1, .ptr 1 0), (3, .d (i64 p))], [(1, .box (.dd v.cells))], st⟩) (fun p => (p : Int) ≤ towF v) (fun p => 32 - p) 0 (Wk.sub ⟨(by first | rfl | (simp only [List.length_map]; rfl) | simp [PX.get]), (by first | rfl | (simp only [List.length_map]; rfl) | simp [PX.get]), trivial⟩ ⟨(by first | rfl | (simp only [List.length_map]; rfl) | simp [PX.get]), trivial⟩) (by simp; omega) ?_
 rintro p hpt
 obtain ⟨hg1, hg2⟩ := tow_goes hz p
 have hp32 : p < 32 := by omega
 have hk32 : (p + 1) % 32 < 32 := by omega
 have hkk : ((p : Int) + 1).tmod 32 = (((p + 1) % 32 : Nat) : Int) := by
  rw [Int.tmod_eq_emod_of_nonneg (by omega)]; omega
 have hgo : goesOn v p ↔ (0 < leftF (cmpP p) v ∨ leftF (cmpP ((p + 1) % 32)) v ≤ 0) := Iff.rfl
 generalize hk : (p + 1) % 32 = k at *
 conv=>whnf
 refine DrawCall_v (ds := [i64 p]) (cmp_call p hp32) rfl rfl ?_
 conv=>whnf
 refine DrawCall_v (ds := [(cmpP p).d, v.d]) (ch95 (cmpP p) v ((cmp_pin p hp32).mono (by omega)) (hp.mono (by omega))) rfl rfl ?_
 conv=>whnf
 have fin : goesOn v p → (p : Int) + 1 ≤ towF v := fun h => by
  rcases Int.lt_or_eq_of_le hpt with h1 | h1
  ·omega
  ·exact absurd h (hg2 h1)
 refine brk_i (fun h1 => ?_) (fun h1 => ?_)
 ·have h1 : 0 < leftF (cmpP p) v := of_decide_eq_true h1
  have h2 := fin (hgo.2 (.inl h1))
  conv=>whnf
  refine arith_in (wrap_i64 (by (try dsimp only); omega)) ?_
  conv=>whnf
  exact ⟨p + 1, by omega, by show ((p + 1 : Nat) : Int) ≤ towF v; omega, Wk.sub ⟨rfl, congrArg (fun z => some (V.d (i64 z))) (by omega), trivial⟩ ⟨rfl, trivial⟩⟩
 have h1 : ¬ 0 < leftF (cmpP p) v := of_decide_eq_false h1
 conv=>whnf
 refine arith_in (wrap_i64 (by (try dsimp only); omega)) ?_
 conv=>whnf
 rw [hkk]
 refine DrawCall_v (ds := [i64 k]) (cmp_call k hk32) rfl rfl ?_
 conv=>whnf
 refine DrawCall_v (ds := [(cmpP k).d, v.d]) (ch95 (cmpP k) v ((cmp_pin k hk32).mono (by omega)) (hp.mono (by omega))) rfl rfl ?_
 conv=>whnf
 refine brk_i (fun h2 => ?_) (fun h2 => ?_)
 ·have h2 : leftF (cmpP k) v ≤ 0 := of_decide_eq_true h2
  have h3 := fin (hgo.2 (.inr h2))
  conv=>whnf
  refine arith_in (wrap_i64 (by (try dsimp only); omega)) ?_
  conv=>whnf
  exact ⟨p + 1, by omega, by show ((p + 1 : Nat) : Int) ≤ towF v; omega, Wk.sub ⟨rfl, congrArg (fun z => some (V.d (i64 z))) (by omega), trivial⟩ ⟨rfl, trivial⟩⟩
 ·have h2 : ¬ leftF (cmpP k) v ≤ 0 := of_decide_eq_false h2
  have he : (p : Int) = towF v := by
   rcases Int.lt_or_eq_of_le hpt with h3 | h3
   ·rcases hgo.1 (hg1 h3) with h4 | h4
    ·exact absurd h4 h1
    ·exact absurd h4 h2
   ·exact h3
  rw [← he]
  conv=>whnf
  exact RetA_view 0 rfl ⟨⟨rfl, rfl⟩, rfl⟩
end Go.PX
namespace Go.PX
open Go.Proofs
set_option maxHeartbeats 2000000 in
theorem ch33 (c : Cht) (day k : Int) (p : Pt) : FnV Tryz.prog 33 [c.d, i64 day, i64 k, p.d] (.tup [i64 (seenV c day k p), i64 (seenE c day k p)]) := by
 refine fnV_of mixed tysOk Tryz.func33 rfl (ft := ft33) 4 (by decide +kernel) (by rfl) fun {σ} Y st => ?_
 conv=>whnf
 refine CallA_v (ch82 c day k) rfl rfl ?_
 conv=>whnf
 by_cases h0 : stdE c day k = 0
 case neg =>
  have he : seenE c day k p = stdE c day k := by unfold seenE; rw [if_neg h0]
  have hv : seenV c day k p = 0 := by unfold seenV; rw [he, if_neg h0]
  rw [he, hv, decide_eq_false h0]
  conv=>whnf
  refine brk_i (fun h => absurd h (by simp [h0])) (fun _ => ?_)
  conv=>whnf
  refine brk_i (fun _ => ?_) (fun h => absurd h (by simp [h0]))
  conv=>whnf
  exact RetA_view 0 rfl ⟨⟨rfl, rfl⟩, rfl⟩
 obtain ⟨hR, hmem⟩ := marM_ok (stdE_mar h0)
 have hmp := (hR.mark _ hmem).1
 obtain ⟨j, rfl, hj⟩ := marE_get (stdE_mar h0)
 have he : seenE c day j p = if withinB 30000 p then (if sameP (marM c day j).at' p then 8 else 0) else 7 := by unfold seenE; rw [if_pos h0]
 rw [decide_eq_true h0]
 conv=>whnf
 refine CallA_view (ds := [p.d, i64 30000]) (ch55 p 30000 (by omega)) rfl 1 rfl ?_
 cases hw : withinB 30000 p with
 | false =>
  rw [hw, if_neg (by simp)] at he
  have hv : seenV c day j p = 0 := by unfold seenV; rw [he]; rfl
  rw [he, hv]
  conv=>whnf
  exact RetA_view 0 rfl ⟨⟨rfl, rfl⟩, rfl⟩
 | true =>
  rw [hw, if_pos rfl] at he
  have hp := within_iff.1 hw
  generalize hM : marM c day j = m at *
  conv=>whnf
  refine brk_i (fun _ => ?_) (fun h => absurd h (by simp [h0]))
  conv=>whnf
  refine elemK_nat hj ?_
  conv=>whnf
  cases hs : sameP m.at' p with
  | true =>
   rw [hs, if_pos rfl] at he
   have hv : seenV c day j p = 0 := by unfold seenV; rw [he]; rfl
   rw [he, hv]
   refine brk_i (fun _ => ?_) (fun h => absurd (hs.symm.trans h) (by simp))
   conv=>whnf
   exact RetA_view 0 rfl ⟨⟨rfl, rfl⟩, rfl⟩
  | false =>
   rw [hs, if_neg (by simp)] at he
   have hv : seenV c day j p = towF (m.at'.sub p) := by unfold seenV; rw [he, hM]; rfl
   have hnz : NZ (m.at'.sub p) := by
    show m.at'.x - p.x ≠ 0 ∨ m.at'.y - p.y ≠ 0
    unfold sameP at hs
    simp at hs
    omega
   rw [he, hv]
   refine brk_i (fun h => absurd (hs.symm.trans h) (by simp)) (fun _ => ?_)
   conv=>whnf
   refine brk_i (fun h => absurd h (by simp [h0])) (fun _ => ?_)
   conv=>whnf
   refine elemK_nat hj ?_
   conv=>whnf
   refine DrawCall_view (ds := [m.at'.d, p.d]) (ch84 m.at' p (hmp.mono (by omega)) (hp.mono (by omega))) rfl 1 rfl ?_
   conv=>whnf
   refine DrawCall_v (ds := [(m.at'.sub p).d]) (ch83 (m.at'.sub p) ((hmp.sub hp).mono (by omega)) hnz) rfl rfl ?_
   conv=>whnf
   exact RetA_view 0 rfl ⟨⟨rfl, rfl⟩, rfl⟩
end Go.PX
namespace Go.PX
open Go.Proofs
def movesL (b : Box) : List Pt := (spanL b.x).flatMap fun x => (spanL b.y).map fun y => ⟨x, y⟩
structure SmallB (b : Box) : Prop where
 x : -1000000 ≤ b.x.lo ∧ b.x.hi ≤ 1000000 ∧ b.x.hi - b.x.lo ≤ 40
 y : -1000000 ≤ b.y.lo ∧ b.y.hi ≤ 1000000 ∧ b.y.hi - b.y.lo ≤ 40
def ptsC (l : List Pt) : List (List D) := l.map Pt.cells
set_option maxHeartbeats 2000000 in
theorem ch73 (b : Box) (hb : SmallB b) : FnV Tryz.prog 73 [b.d] (ptsD (movesL b)) := by
 refine fnV_of mixed tysOk Tryz.func73 rfl (ft := ft73) 1 (by decide +kernel) (by rfl) fun {σ} Y st => ?_
 conv=>whnf
 have hx := hb.x
 have hy := hb.y
 generalize hM : movesL b = M
 have hM : (spanL b.x).flatMap (fun x => (spanL b.y).map fun y => (⟨x, y⟩ : Pt)) = M := hM
 have hlenx : (spanL b.x).length = (b.x.hi - b.x.lo + 1).toNat := upX_len _ _
 have hleny : (spanL b.y).length = (b.y.hi - b.y.lo + 1).toNat := upX_len _ _
 refine LoopA_i (T := tys) tysOk (by exact drawsB_spec mixed tysOk (by decide +kernel)) (spanL b.x) (fun i (acc : List Pt) => ⟨[(1, .ptr 1 0), (3, .sl 900001 2 0 acc.length), (4, .d (i64 (b.x.lo + i)))], [(1, .box (.dd b.cells)), (900001, .arr 2 (.dd (ptsC acc)))], st⟩)
  (fun i r acc => acc.length ≤ 41 * i ∧ acc ++ r.flatMap (fun x => (spanL b.y).map fun y => (⟨x, y⟩ : Pt)) = M) [] ((Wk.born 3 900001 2 rfl rfl rfl).trans (Wk.sub ⟨rfl, rfl, congrArg (fun z => some (V.d (i64 z))) (by simp), trivial⟩ ⟨rfl, rfl, trivial⟩)) ⟨by simp, by simpa using hM⟩ ?_ ?_
 ·rintro i x r acc hxi hi hir ⟨hal, hac⟩
  obtain ⟨hx1, hx2⟩ := upX_get hxi
  subst hx1
  rw [List.flatMap_cons] at hac
  generalize hR : r.flatMap (fun x => (spanL b.y).map fun y => (⟨x, y⟩ : Pt)) = R at hac
  conv=>whnf
  refine brk_i (fun _ => ?_) (fun h => absurd h (by simp; omega))
  conv=>whnf
  refine LoopA_i (T := tys) tysOk (by exact drawsB_spec mixed tysOk (by decide +kernel)) (spanL b.y) (fun j (acc : List Pt) => ⟨[(1, .ptr 1 0), (3, .sl 900001 2 0 acc.length), (4, .d (i64 (b.x.lo + i))), (5, .d (i64 (b.y.lo + j)))], [(1, .box (.dd b.cells)), (900001, .arr 2 (.dd (ptsC acc)))], st⟩)
   (fun j s acc => acc.length ≤ 41 * i + j ∧ acc ++ (s.map (fun y => (⟨b.x.lo + i, y⟩ : Pt)) ++ R) = M) acc (Wk.sub ⟨rfl, rfl, rfl, congrArg (fun z => some (V.d (i64 z))) (by simp), trivial⟩ ⟨rfl, rfl, trivial⟩) ⟨by omega, hac⟩ ?_ ?_
  ·rintro j y s acc hyj hj hjr ⟨hal, hac⟩
   obtain ⟨hy1, hy2⟩ := upX_get hyj
   subst hy1
   conv=>whnf
   refine brk_i (fun _ => ?_) (fun h => absurd h (by simp; omega))
   conv=>whnf
   refine ownK_whole rfl ?_
   conv=>whnf
   refine ownK_whole (by simp [Els.len, ptsC]) ?_
   conv=>whnf
   refine chk_i (decide_eq_true (by show ((ptsC acc).length + 1) * 16 ≤ _; simp only [ptsC, List.length_map]; omega)) ?_
   conv=>whnf
   refine arith_in (wrap_i64 (by (try dsimp only); omega)) ?_
   conv=>whnf
   exact ⟨acc ++ [⟨b.x.lo + i, b.y.lo + j⟩], ⟨by simp; omega, by rw [← hac]; simp⟩, (Wk.move 31 900001 rfl rfl).trans (Wk.sub ⟨rfl, congrArg (fun z : Nat => some (V.sl 900001 2 0 z)) (by simp [Els.len, ptsC]), rfl, congrArg (fun z => some (V.d (i64 z))) (by omega), trivial⟩ ⟨rfl, congrArg (fun z => some (Obj.arr 2 (.dd z))) (by simp [ptsC, Pt.cells]), trivial⟩)⟩
  ·rintro acc ⟨hal, hac⟩
   conv=>whnf
   refine brk_i (fun h => absurd h (by simp; omega)) (fun _ => ?_)
   conv=>whnf
   refine arith_in (wrap_i64 (by (try dsimp only); omega)) ?_
   conv=>whnf
   exact ⟨acc, ⟨by omega, by simpa using hac⟩, Wk.sub ⟨rfl, rfl, congrArg (fun z => some (V.d (i64 z))) (by omega), trivial⟩ ⟨rfl, rfl, trivial⟩⟩
 ·rintro acc ⟨hal, hac⟩
  have hac : acc = M := by simpa using hac
  subst hac
  conv=>whnf
  refine brk_i (fun h => absurd h (by simp; omega)) (fun _ => ?_)
  conv=>whnf
  exact RetA_view 1 (viewL_cons (viewV_sl rfl (by simp [ptsC])) rfl) ⟨⟨rfl, rfl⟩, rfl⟩
end Go.PX
namespace Go.PX
open Go.Proofs
def boolsC (l : List Bool) : List (List D) := l.map fun b => [.bool b]
def stepB (m : Pt) (bs : List Bool) (p : Pt) : List Bool := if p.x = m.x ∧ p.y = m.y then bs else bs.set (towF (m.sub p)).toNat true
def seenB (m : Pt) (l : List Pt) : List Bool := l.foldl (stepB m) (List.replicate 32 false)
def dirsB (bs : List Bool) (l : List Nat) : List Int := (l.filter fun p => (bs[p]?).getD false).map fun (p : Nat) => (p : Int)
def dirR (c : Cht) (day k : Int) (b : Box) : List Int := if ptsE c day k b = 0 then dirsB (seenB (marM c day k).at' (movesL b)) (List.range 32) else []
theorem get_bool {bs : List Bool} {o t : Nat} (ht : t < bs.length) (ho : o = t) : (boolsC bs)[o]? = some [.bool bs[t]] := by
 subst ho
 unfold boolsC
 rw [List.getElem?_map, List.getElem?_eq_getElem ht]; rfl
set_option maxHeartbeats 4000000 in
theorem ch35 (c : Cht) (day k : Int) (b : Box) : FnV Tryz.prog 35 [c.d, i64 day, i64 k, b.d] (.tup [intsD (dirR c day k b), i64 (ptsE c day k b)]) := by
 refine fnV_of mixed tysOk Tryz.func35 rfl (ft := ft35) 4 (by decide +kernel) (by rfl) fun {σ} Y st => ?_
 conv=>whnf
 refine CallA_v (ch82 c day k) rfl rfl ?_
 conv=>whnf
 by_cases h0 : stdE c day k = 0
 case neg =>
  have he : ptsE c day k b = stdE c day k := by unfold ptsE; rw [if_neg h0]
  have hL : dirR c day k b = [] := by unfold dirR; rw [if_neg (by rw [he]; exact h0)]
  rw [hL, he, decide_eq_false h0]
  conv=>whnf
  refine brk_i (fun _ => ?_) (fun h1 => absurd h1 (by simp [h0]))
  conv=>whnf
  exact RetA_viewR 0 rfl rfl ⟨⟨rfl, rfl⟩, rfl⟩
 have he : ptsE c day k b = boxE 30000 b := by unfold ptsE; rw [if_pos h0]
 obtain ⟨hR, hmem⟩ := marM_ok (stdE_mar h0)
 have hmp := (hR.mark _ hmem).1
 obtain ⟨j, rfl, hj⟩ := marE_get (stdE_mar h0)
 rw [decide_eq_true h0]
 conv=>whnf
 refine CallA_view (ds := [b.d, i64 (-30000), i64 30000]) (ch56 b 30000 (by omega)) rfl 1 rfl ?_
 by_cases h1 : boxE 30000 b = 0
 case neg =>
  have hL : dirR c day j b = [] := by unfold dirR; rw [if_neg (by rw [he]; exact h1)]
  rw [hL, he]
  conv=>whnf
  refine brk_i (fun _ => ?_) (fun h2 => absurd h2 (by simp [h1]))
  conv=>whnf
  exact RetA_viewR 0 rfl rfl ⟨⟨rfl, rfl⟩, rfl⟩
 have hL : dirR c day j b = dirsB (seenB (marM c day j).at' (movesL b)) (List.range 32) := by unfold dirR; rw [if_pos (by rw [he]; exact h1)]
 rw [hL, he, h1]
 generalize marM c day j = m at *
 clear hL he
 have hbx : (-30000 ≤ b.x.lo ∧ b.x.hi ≤ 30000 ∧ b.x.lo ≤ b.x.hi ∧ b.x.hi - b.x.lo ≤ 40) ∧ (-30000 ≤ b.y.lo ∧ b.y.hi ≤ 30000 ∧ b.y.lo ≤ b.y.hi ∧ b.y.hi - b.y.lo ≤ 40) := by
  unfold boxE at h1
  split at h1
  case isFalse => cases h1
  rename_i h5
  split at h1
  case isFalse => cases h1
  rename_i h6
  simp only [Bool.and_eq_true, inB_iff] at h5 h6
  omega
 have hML : (movesL b).length < 1000000 := by
  have e : (movesL b).length = (spanL b.x).length * (spanL b.y).length := by
   unfold movesL
   generalize spanL b.x = xs
   induction xs with
   | nil => simp
   | cons x r ih => rw [List.flatMap_cons, List.length_append, ih, List.length_cons, List.length_map, Nat.succ_mul]; omega
  have hlenx : (spanL b.x).length = (b.x.hi - b.x.lo + 1).toNat := upX_len _ _
  have hleny : (spanL b.y).length = (b.y.hi - b.y.lo + 1).toNat := upX_len _ _
  rw [e]
  have h2 : (spanL b.x).length ≤ 41 := by omega
  have h3 : (spanL b.y).length ≤ 41 := by omega
  have := Nat.mul_le_mul h2 h3
  omega
 have hpin : ∀ p ∈ movesL b, Pin 30000 p := by
  intro p hp
  unfold movesL at hp
  obtain ⟨x, hx, hp⟩ := List.mem_flatMap.1 hp
  obtain ⟨y, hy, rfl⟩ := List.mem_map.1 hp
  obtain ⟨i, hi⟩ := List.getElem?_of_mem hx
  obtain ⟨i2, hi2⟩ := List.getElem?_of_mem hy
  obtain ⟨e1, e2⟩ := upX_get hi
  obtain ⟨e3, e4⟩ := upX_get hi2
  exact ⟨by simp only; omega, by simp only; omega⟩
 conv=>whnf
 refine CallA_v (ds := [b.d]) (ch73 b ⟨by omega, by omega⟩) rfl rfl ?_
 generalize movesL b = ML at *
 generalize hB : seenB m.at' ML = B
 conv=>whnf
 refine LoopA_i (T := tys) tysOk (by exact drawsB_spec mixed tysOk (by decide +kernel)) ML (fun i (bs : List Bool) => ⟨[(2, .d (i64 j)), (4, .ptr 4 0), (8, .d .nils), (11, .sl 27 1 0 32), (12, .d (ptsD ML)), (13, .d (i64 i))], [(4, .box (.dd c.cells)), (27, .arr 1 (.dd (boolsC bs)))], st⟩)
  (fun i r bs => bs.length = 32 ∧ r.foldl (stepB m.at') bs = B) (List.replicate 32 false) (Wk.sub ⟨(by first | rfl | (simp only [List.length_map]; rfl) | simp [PX.get]), (by first | rfl | (simp only [List.length_map]; rfl) | simp [PX.get]), (by first | rfl | (simp only [List.length_map]; rfl) | simp [PX.get]), (by first | rfl | (simp only [List.length_map]; rfl) | simp [PX.get]), (by first | rfl | (simp only [List.length_map]; rfl) | simp [PX.get]), (by first | rfl | (simp only [List.length_map]; rfl) | simp [PX.get]), trivial⟩ ⟨(by first | rfl | (simp only [List.length_map]; rfl) | simp [PX.get]), (by first | rfl | (simp only [List.length_map]; rfl) | simp [PX.get]), trivial⟩) ⟨rfl, hB⟩ ?_ ?_
 ·rintro i p r bs hpi hi hir ⟨hbl, hbs⟩
  have hp := hpin p (List.mem_of_getElem? hpi)
  rw [List.foldl_cons] at hbs
  conv=>whnf
  refine brk_i (fun _ => ?_) (fun h => absurd hi (by simpa using h))
  conv=>whnf
  refine elemK_nat hpi ?_
  conv=>whnf
  refine elemK_nat hj ?_
  conv=>whnf
  refine brk_i (fun h3 => ?_) (fun h3 => ?_)
  ·have hne : ¬ (p.x = m.at'.x ∧ p.y = m.at'.y) := by
    rintro ⟨e1, e2⟩
    simp [e1, e2] at h3
   have hnz : NZ (m.at'.sub p) := by
    show m.at'.x - p.x ≠ 0 ∨ m.at'.y - p.y ≠ 0
    omega
   rw [stepB, if_neg hne] at hbs
   conv=>whnf
   refine elemK_nat hj ?_
   conv=>whnf
   refine elemK_nat hpi ?_
   conv=>whnf
   refine DrawCall_view (ds := [m.at'.d, p.d]) (ch84 m.at' p (hmp.mono (by omega)) (hp.mono (by omega))) rfl 1 rfl ?_
   conv=>whnf
   refine DrawCall_v (ds := [(m.at'.sub p).d]) (ch83 (m.at'.sub p) ((hmp.sub hp).mono (by omega)) hnz) rfl rfl ?_
   have hti := towF_in hnz
   generalize towF (m.at'.sub p) = T at hti hbs ⊢
   obtain ⟨t, rfl⟩ : ∃ t : Nat, T = t := ⟨T.toNat, by omega⟩
   rw [Int.toNat_natCast] at hbs
   conv=>whnf
   refine brk_i (fun _ => ?_) (fun h => absurd h (by simp; omega))
   conv=>whnf
   refine cellK_i [.bool (bs[t]'(by omega))] (show (boolsC bs)[0 + ((t : Nat) : Int).toNat]? = _ from get_bool (t := t) (by omega) (by omega)) ?_
   conv=>whnf
   refine arith_in (wrap_i64 (by (try dsimp only); omega)) ?_
   conv=>whnf
   exact ⟨bs.set t true, ⟨by simpa using hbl, hbs⟩, Wk.sub ⟨rfl, rfl, rfl, rfl, rfl, congrArg (fun z => some (V.d (i64 z))) (by omega), trivial⟩ ⟨rfl, congrArg (fun z => some (Obj.arr 1 (.dd z))) (by simp [boolsC, List.map_set]), trivial⟩⟩
  ·have hne : p.x = m.at'.x ∧ p.y = m.at'.y := by simpa using h3
   rw [stepB, if_pos hne] at hbs
   conv=>whnf
   refine arith_in (wrap_i64 (by (try dsimp only); omega)) ?_
   conv=>whnf
   exact ⟨bs, ⟨hbl, hbs⟩, Wk.sub ⟨rfl, rfl, rfl, rfl, rfl, congrArg (fun z => some (V.d (i64 z))) (by omega), trivial⟩ ⟨rfl, rfl, trivial⟩⟩
 ·rintro bs ⟨hbl, hbs⟩
  have hbs : bs = B := hbs
  subst hbs
  conv=>whnf
  refine brk_i (fun h => absurd h (by simp)) (fun _ => ?_)
  conv=>whnf
  generalize hD : dirsB bs (List.range 32) = DL
  refine LoopA_i (T := tys) tysOk (by exact drawsB_spec mixed tysOk (by decide +kernel)) (List.range 32) (fun i (acc : List Int) => ⟨[(11, .sl 27 1 0 32), (14, .sl 900001 1 0 acc.length), (15, .d (i64 i))], [(27, .arr 1 (.dd (boolsC bs))), (900001, .arr 1 (.dd (acc.map fun n => [i64 n])))], st⟩)
   (fun i r acc => acc.length ≤ i ∧ DL = acc ++ dirsB bs r) [] ((Wk.born 14 900001 1 rfl rfl rfl).trans (Wk.sub ⟨(by first | rfl | (simp only [List.length_map]; rfl) | simp [PX.get]), (by first | rfl | (simp only [List.length_map]; rfl) | simp [PX.get]), (by first | rfl | (simp only [List.length_map]; rfl) | simp [PX.get]), trivial⟩ ⟨(by first | rfl | (simp only [List.length_map]; rfl) | simp [PX.get]), (by first | rfl | (simp only [List.length_map]; rfl) | simp [PX.get]), trivial⟩)) ⟨by simp, hD.symm⟩ ?_ ?_
  ·rintro i q r acc hqi hi hir ⟨hal, hDL⟩
   have hq := range_get hqi
   subst hq
   have hi : q < 32 := by simpa using hi
   conv=>whnf
   refine brk_i (fun _ => ?_) (fun h => absurd h (by simp; omega))
   conv=>whnf
   refine brk_i (fun _ => ?_) (fun h => absurd h (by simp; omega))
   conv=>whnf
   refine cellK_i [.bool (bs[q]'(by omega))] (show (boolsC bs)[0 + ((q : Nat) : Int).toNat]? = _ from get_bool (t := q) (by omega) (by omega)) ?_
   conv=>whnf
   refine brk_i (fun h3 => ?_) (fun h3 => ?_)
   ·have hg : (bs[q]?).getD false = true := by rw [List.getElem?_eq_getElem (by omega)]; exact h3
    have hDL : DL = (acc ++ [(q : Int)]) ++ dirsB bs r := by rw [hDL]; simp [dirsB, hg]
    conv=>whnf
    refine ownK_whole rfl ?_
    conv=>whnf
    refine ownK_whole (by simp [Els.len]) ?_
    conv=>whnf
    refine chk_i (decide_eq_true (by show ((acc.map fun n => [i64 n]).length + 1) * 8 ≤ _; rw [List.length_map]; omega)) ?_
    conv=>whnf
    refine arith_in (wrap_i64 (by (try dsimp only); omega)) ?_
    conv=>whnf
    exact ⟨acc ++ [(q : Int)], ⟨by simp; omega, hDL⟩, (Wk.move 74 900001 rfl rfl).trans (Wk.sub ⟨rfl, congrArg (fun z : Nat => some (V.sl 900001 1 0 z)) (by simp [Els.len]), congrArg (fun z => some (V.d (i64 z))) (by omega), trivial⟩ ⟨rfl, congrArg (fun z => some (Obj.arr 1 (.dd z))) (by simp), trivial⟩)⟩
   ·have hg : (bs[q]?).getD false = false := by rw [List.getElem?_eq_getElem (by omega)]; exact h3
    have hDL : DL = acc ++ dirsB bs r := by rw [hDL]; simp [dirsB, hg]
    conv=>whnf
    refine arith_in (wrap_i64 (by (try dsimp only); omega)) ?_
    conv=>whnf
    exact ⟨acc, ⟨by omega, hDL⟩, Wk.sub ⟨rfl, rfl, congrArg (fun z => some (V.d (i64 z))) (by omega), trivial⟩ ⟨rfl, rfl, trivial⟩⟩
  ·rintro acc ⟨hal, hDL⟩
   have hDL : DL = acc := by rw [hDL]; simp [dirsB]
   rw [hDL]
   conv=>whnf
   refine RetA_view 1 (ds := [intsD acc, i64 0]) ?_ ⟨⟨rfl, rfl⟩, rfl⟩
   exact viewL_cons (viewV_sl rfl (by simp)) rfl
theorem counts_seen (m : Pt) : ∀ (l : List Pt) (f : Nat → Int) (bs : List Bool), bs.length = 32 → (∀ p ∈ l, NZ (m.sub p) → 0 ≤ towF (m.sub p) ∧ towF (m.sub p) ≤ 31) → (∀ q, q < 32 → 0 ≤ f q) → (∀ q, q < 32 → (0 < f q ↔ (bs[q]?).getD false = true)) →
  ∀ q, q < 32 → (0 < l.foldl (cntStep m) f q ↔ ((l.foldl (stepB m) bs)[q]?).getD false = true)
 | [], f, bs, _, _, _, h, q, hq => h q hq
 | p :: r, f, bs, hl, ht, h0, h, q, hq => by
  rw [List.foldl_cons, List.foldl_cons]
  have ht' : ∀ p ∈ r, NZ (m.sub p) → 0 ≤ towF (m.sub p) ∧ towF (m.sub p) ≤ 31 := fun x hx => ht x (List.mem_cons_of_mem _ hx)
  by_cases hp : p.x = m.x ∧ p.y = m.y
  ·have e1 : cntStep m f p = f := by unfold cntStep; rw [if_pos hp]
   have e2 : stepB m bs p = bs := by unfold stepB; rw [if_pos hp]
   rw [e1, e2]
   exact counts_seen m r f bs hl ht' h0 h q hq
  ·have hnz : NZ (m.sub p) := by show m.x - p.x ≠ 0 ∨ m.y - p.y ≠ 0; omega
   obtain ⟨t0, t1⟩ := ht p (List.mem_cons_self ..) hnz
   have e1 : cntStep m f p = fun q => if q = (towF (m.sub p)).toNat then f q + 1 else f q := by unfold cntStep; rw [if_neg hp]
   have e2 : stepB m bs p = bs.set (towF (m.sub p)).toNat true := by unfold stepB; rw [if_neg hp]
   rw [e1, e2]
   refine counts_seen m r _ _ (by simpa using hl) ht' (fun q hq => ?_) (fun q hq => ?_) q hq
   ·have := h0 q hq
    split <;> omega
   ·have h1 := h q hq
    have h2 := h0 q hq
    have h3 : (towF (m.sub p)).toNat < bs.length := by omega
    rw [List.getElem?_set]
    by_cases he : q = (towF (m.sub p)).toNat
    ·rw [if_pos he, if_pos he.symm, if_pos h3]
     simp; omega
    ·rw [if_neg he, if_neg (Ne.symm he)]
     exact h1
theorem grid_fold (m : Pt) (ys : List Int) : ∀ (xs : List Int) (f : Nat → Int), gridF m ys xs f = (xs.flatMap fun x => ys.map fun y => (⟨x, y⟩ : Pt)).foldl (cntStep m) f
 | [], f => rfl
 | x :: r, f => by
  show gridF m ys r (colF m x ys f) = _
  rw [grid_fold m ys r, List.flatMap_cons, List.foldl_append, List.foldl_map]
  rfl
theorem dir_eq (c : Cht) (day k : Int) (b : Box) : dirR c day k b = ptsL c day k b := by
 unfold dirR ptsL
 split
 ·generalize (marM c day k).at' = m
  have h : ∀ q, q < 32 → (0 < gridF m (spanL b.y) (spanL b.x) (fun _ => 0) q ↔ ((seenB m (movesL b))[q]?).getD false = true) := by
   intro q hq
   rw [grid_fold]
   refine counts_seen m (movesL b) (fun _ => 0) (List.replicate 32 false) rfl (fun p _ hz => towF_in hz) (fun _ _ => Int.le_refl _) (fun q hq => ?_) q hq
   rw [List.getElem?_replicate, if_pos hq]; simp
  unfold dirsB dirsL
  congr 1
  apply List.filter_congr
  intro q hq
  have := h q (List.mem_range.1 hq)
  rw [Bool.eq_iff_iff, decide_eq_true_eq]
  exact this.symm
 ·rfl
end Go.PX
namespace Go.PX
open Go.Proofs
structure Look where
 day : Int
 mark : Int
 from' : Pt
 box : Box
def Look.cells (x : Look) : List D := [i64 x.day, i64 x.mark, i64 x.from'.x, i64 x.from'.y, i64 x.box.x.lo, i64 x.box.x.hi, i64 x.box.y.lo, i64 x.box.y.hi]
def Look.d (x : Look) : D := .agg x.cells
theorem ch35x (c : Cht) (day k : Int) (b : Box) : FnV Tryz.prog 35 [c.d, i64 day, i64 k, b.d] (.tup [intsD (ptsL c day k b), i64 (ptsE c day k b)]) := FnV.cast (ch35 c day k b) (by rw [dir_eq])
theorem ptsL_len (c : Cht) (day k : Int) (b : Box) : (ptsL c day k b).length < 1000000 := by
 unfold ptsL
 split
 ·unfold dirsL
  rw [List.length_map]
  have := List.length_filter_le (fun p => decide (0 < gridF (marM c day k).at' (spanL b.y) (spanL b.x) (fun _ => 0) p)) (List.range 32)
  rw [List.length_range] at this
  omega
 ·simp
set_option maxHeartbeats 4000000 in
theorem ch5 (c : Cht) (x : Look) : FnV Tryz.prog 5 [c.d, x.d] (.bool true) := by
 refine fnV_of mixed tysOk Tryz.func5 rfl (ft := ft5) 2 (by decide +kernel) (by rfl) fun {σ} Y st => ?_
 conv=>whnf
 refine CallA_v (ds := [c.d, i64 x.day, i64 x.mark]) (ch30 c x.day x.mark) rfl rfl ?_
 conv=>whnf
 refine CallA_v (ds := [c.d, i64 x.day, i64 x.mark]) (ch31 c x.day x.mark) rfl rfl ?_
 conv=>whnf
 refine brk_i (fun h => absurd h (by simp)) (fun _ => ?_)
 conv=>whnf
 refine brk_i (fun h => absurd h (by simp)) (fun _ => ?_)
 conv=>whnf
 refine CallA_v (ds := [c.d, i64 x.day, i64 x.mark, x.from'.d]) (ch32 c x.day x.mark x.from') rfl rfl ?_
 conv=>whnf
 refine CallA_v (ds := [c.d, i64 x.day, i64 x.mark, x.from'.d]) (ch33 c x.day x.mark x.from') rfl rfl ?_
 conv=>whnf
 refine brk_i (fun h => absurd h (by simp)) (fun _ => ?_)
 conv=>whnf
 refine brk_i (fun h => absurd h (by simp)) (fun _ => ?_)
 conv=>whnf
 refine CallA_v (ds := [c.d, i64 x.day, i64 x.mark, x.box.d]) (ch34 c x.day x.mark x.box) rfl rfl ?_
 conv=>whnf
 refine CallA_v (ds := [c.d, i64 x.day, i64 x.mark, x.box.d]) (ch35x c x.day x.mark x.box) rfl rfl ?_
 conv=>whnf
 refine CallA_v (a16 (ptsL c x.day x.mark x.box) (ptsL_len c x.day x.mark x.box)) rfl rfl ?_
 conv=>whnf
 refine brk_i (fun _ => ?_) (fun h => absurd h (by simp))
 conv=>whnf
 repeat' (first
  | (refine CallA_v (ch22) rfl rfl ?_; conv=>whnf)
  | (refine CallA_view (ch22) rfl 1 rfl ?_; conv=>whnf)
  | (refine DrawCall_v (ch22) rfl rfl ?_; conv=>whnf)
  | (refine DrawCall_view (ch22) rfl 1 rfl ?_; conv=>whnf)
  | (refine arith_in (wrap_i64 (by (try dsimp only); omega)) ?_; conv=>whnf)
  | (refine elemK_nat (by assumption) ?_; conv=>whnf)
  | (refine ownK_whole (by first | rfl | assumption | (simp [Els.len]; done) | (simp [Els.len]; omega)) ?_; conv=>whnf)
  | (refine chk_i (by first | (exact decide_eq_true (by (try simp only [List.length_map]); omega)) | (simp [Els.len, Els.cons, V.cells, Els.toV, injL]; done) | (simp [Els.len, Els.cons, V.cells, Els.toV, injL]; omega)) ?_; conv=>whnf)
  | fail)
 exact RetA_view 1 rfl ⟨⟨rfl, rfl⟩, rfl⟩
end Go.PX
namespace Go.PX
open Go.Proofs Go.RowKit Go.ChangeShapes
theorem c50 : Tryz.prog.cellsOf 50 = 8 := by kernel_rfl
theorem rdLook (W : World) : Rd Tryz.prog W 50 fun ds => ∃ x : Look, ds = x.cells :=
 (Rd.struct Tryz.underlying50 c50 (.cons rfl c3 (rdInt W) (.cons rfl c3 (rdInt W) (.cons rfl c27 (rdPt W) (.cons rfl c48 (rdBox W) (.nil _)))))).mono fun ds h => by
  obtain ⟨_, _, rfl, ⟨a, rfl⟩, _, _, rfl, ⟨b, rfl⟩, _, _, rfl, ⟨p, rfl⟩, _, _, rfl, ⟨x, rfl⟩, rfl⟩ := h
  exact ⟨⟨a, b, p, x⟩, rfl⟩
end Go.PX
