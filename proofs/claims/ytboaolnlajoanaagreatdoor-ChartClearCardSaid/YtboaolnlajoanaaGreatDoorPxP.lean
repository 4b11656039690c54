import Derived.Test.YtboaolnlajoanaaGreatDoorPxO
import Derived.Test.YtboaolnlajoanaaGreatDoorPxL
set_option linter.all false
set_option maxRecDepth 10000
namespace Go.PX
open Go.Proofs
def firstL (p : Pt) (r : Int) : Int → List Sand → Option (Int × Pt)
 | _, [] => none
 | i, s :: l => match (movesL s.moves).find? fun m => insR s m p r with
  | some m => some (i, m)
  | none => firstL p r (i + 1) l
def firstR (c : Cht) (p : Pt) (r : Int) : Option (Int × Pt) := firstL p r 0 c.sands
theorem inCol_find (s : Sand) (p : Pt) (r x : Int) : ∀ l : List Int, inCol s p r x l = (l.map fun y => (⟨x, y⟩ : Pt)).find? fun m => nearX s (p.sub m) r
 | [] => rfl
 | y :: l => by
  rw [inCol, List.map_cons, List.find?_cons, inCol_find s p r x l]
  cases nearX s (p.sub ⟨x, y⟩) r <;> rfl
theorem inCols_find (s : Sand) (p : Pt) (r : Int) : ∀ l : List Int, inCols s p r l = (l.flatMap fun x => (ysX s).map fun y => (⟨x, y⟩ : Pt)).find? fun m => nearX s (p.sub m) r
 | [] => rfl
 | x :: l => by
  rw [inCols, List.flatMap_cons, List.find?_append, ← inCol_find, inCols_find s p r l]
  cases inCol s p r x (ysX s) <;> rfl
theorem cols_moves (s : Sand) (p : Pt) (r : Int) : inCols s p r (xsX s) = (movesL s.moves).find? fun m => nearX s (p.sub m) r := inCols_find s p r (xsX s)
theorem find_congr {α : Type} {f g : α → Bool} : ∀ {l : List α}, (∀ x ∈ l, f x = g x) → l.find? f = l.find? g
 | [], _ => rfl
 | x :: l, h => by
  rw [List.find?_cons, List.find?_cons, h x (by simp), find_congr fun y hy => h y (by simp [hy])]
theorem insL_first {p : Pt} {r : Int} (hr : 0 < r) : ∀ (l : List Sand) (i : Int), (∀ s ∈ l, SandR s) → insL p r i l = firstL p r i l
 | [], _, _ => rfl
 | s :: l, i, h => by
  rw [insL, firstL, cols_moves, find_congr (fun m _ => near_ins (h s (by simp)) m p hr), insL_first hr l (i + 1) fun t ht => h t (by simp [ht])]
  cases (movesL s.moves).find? (fun m => insR s m p r) <;> rfl
theorem first_0 {p : Pt} : ∀ (l : List Sand) (i : Int), (∀ s ∈ l, SandR s) → firstL p 0 i l = none
 | [], _, _ => rfl
 | s :: l, i, h => by
  rw [firstL]
  have : (movesL s.moves).find? (fun m => insR s m p 0) = none := by
   rw [List.find?_eq_none]
   intro m _
   rw [ins_0 (h s (by simp))]; simp
  rw [this]
  exact first_0 l (i + 1) fun t ht => h t (by simp [ht])
theorem ins_first {c : Cht} (hR : ChtR c) (p : Pt) {r : Int} (hr : 0 ≤ r) : insX c p r = firstR c p r := by
 unfold insX firstR
 split
 ·rename_i h; subst h; rw [first_0 _ _ hR.sand]
 ·exact insL_first (by omega) _ _ hR.sand
theorem firstL_none {p : Pt} {r : Int} : ∀ {l : List Sand} {i : Int}, firstL p r i l = none ↔ ∀ s ∈ l, ∀ m ∈ movesL s.moves, insR s m p r = false
 | [], _ => by simp [firstL]
 | s :: l, i => by
  rw [firstL]
  cases h : (movesL s.moves).find? fun m => insR s m p r with
  | some m =>
   refine ⟨fun h => by simp at h, fun h2 => ?_⟩
   have h3 := h2 s (by simp) m (List.mem_of_find?_eq_some h)
   have h4 : insR s m p r = true := by simpa using List.find?_some h
   rw [h3] at h4; cases h4
  | none =>
   simp only
   rw [firstL_none]
   rw [List.find?_eq_none] at h
   constructor
   ·intro h2 t ht m hm
    rcases List.mem_cons.1 ht with rfl | ht
    ·simpa using h m hm
    ·exact h2 t ht m hm
   ·intro h2 t ht
    exact h2 t (by simp [ht])
theorem first_mono {c : Cht} (hR : ChtR c) {p : Pt} {r r' : Int} (h0 : 0 ≤ r) (hr : r ≤ r') (h : firstR c p r' = none) : firstR c p r = none := by
 unfold firstR at h ⊢
 rw [firstL_none] at h ⊢
 intro s hs m hm
 have h1 := h s hs m hm
 rw [Bool.eq_false_iff] at h1 ⊢
 exact fun h2 => h1 (ins_mono (hR.sand s hs) h0 hr h2)
structure GoodRad (c : Cht) (p : Pt) (a : Int) : Prop where
 lo : 0 ≤ a
 hi : a ≤ 5000
 clear : firstR c p a = none
 most : a < 5000 → firstR c p (a + 1) ≠ none
theorem radL_good {c : Cht} (hR : ChtR c) (p : Pt) : ∀ (n : Nat) (a b : Int), 0 ≤ a → a < b → b ≤ 5001 → b - a ≤ n → firstR c p a = none → (b ≤ 5000 → firstR c p b ≠ none) → GoodRad c p (radL c p n a b)
 | 0, a, b, _, h2, _, h4, _, _ => by omega
 | n + 1, a, b, h1, h2, h3, h4, h5, h6 => by
  rw [radL]
  by_cases h : b - a > 1
  ·rw [if_pos h, ins_first hR p (show 0 ≤ (a + b) / 2 by omega)]
   cases hx : firstR c p ((a + b) / 2) with
   | none =>
    exact radL_good hR p n _ _ (by omega) (by omega) h3 (by omega) hx h6
   | some x =>
    exact radL_good hR p n _ _ h1 (by omega) (by omega) (by omega) h5 (fun _ => by rw [hx]; simp)
  ·rw [if_neg h]
   have : b = a + 1 := by omega
   subst this
   exact ⟨h1, by omega, h5, fun h7 => h6 (by omega)⟩
theorem first_zero {c : Cht} (hR : ChtR c) (p : Pt) : firstR c p 0 = none := first_0 _ _ hR.sand
theorem rad_good {c : Cht} {p : Pt} (h : openX c p = 0) : GoodRad c p (radV c p) := by
 have hR := (openX_ok h).1
 unfold radV
 rw [if_pos h]
 exact radL_good hR p 5001 0 5001 (by omega) (by omega) (by omega) (by omega) (first_zero hR p) (fun h => by omega)
end Go.PX
namespace Go.PX
open Go.Proofs
end Go.PX
namespace Go.PX
open Go.Proofs
end Go.PX
namespace Go.PX
open Go.Proofs
theorem ch121 (v : Pt) (hv : Pin 1000000 v) : FnV Tryz.prog 121 [v.d] (i64 (sqF v)) := by
 refine fnV_of mixed tysOk Tryz.func121 rfl (ft := ft121) 1 (by decide +kernel) (by rfl) fun {σ} Y st => ?_
 conv=>whnf
 have h1 := mul_b 1000000 1000000 hv.x hv.x
 have h2 := mul_b 1000000 1000000 hv.y hv.y
 refine arith_in (wrap_i64 (by (try dsimp only); omega)) ?_
 conv=>whnf
 refine arith_in (wrap_i64 (by (try dsimp only); omega)) ?_
 conv=>whnf
 refine arith_in (wrap_i64 (by (try dsimp only); omega)) ?_
 conv=>whnf
 exact RetA_view 0 rfl ⟨⟨rfl, rfl⟩, rfl⟩
set_option maxHeartbeats 1000000 in
theorem ch96 (a b p : Pt) (ha : Pin 10000 a) (hb : Pin 10000 b) (hp : Pin 10500 p) (r : Int) (hr : 0 ≤ r ∧ r ≤ 5001) : FnV Tryz.prog 96 [a.d, b.d, p.d, i64 r] (.bool (nearR a b p r)) := by
 refine fnV_of mixed tysOk Tryz.func96 rfl (ft := ft96) 4 (by decide +kernel) (by rfl) fun {σ} Y st => ?_
 conv=>whnf
 have hs : Pin 20000 (b.sub a) := hb.sub ha
 have ht : Pin 20500 (p.sub a) := hp.sub ha
 have hu : Pin 20500 (p.sub b) := hp.sub hb
 have b1 := leftF_bd hs ht
 have b2 := mul_b 20000 20500 hs.x ht.x
 have b3 := mul_b 20000 20500 hs.y ht.y
 have b4 := dotF_bd hs hs
 have b6 := mul_b (a := r) (b := r) 5001 5001 (by omega) (by omega)
 have b7 := mul_b (a := leftF (b.sub a) (p.sub a)) (b := leftF (b.sub a) (p.sub a)) 820000000 820000000 (by omega) (by omega)
 have b4' : -800000000 ≤ sqF (b.sub a) ∧ sqF (b.sub a) ≤ 800000000 := b4
 have b8 := mul_b (a := r * r) (b := sqF (b.sub a)) 25010001 800000000 (by omega) (by omega)
 have hn : nearR a b p r = if dotF (b.sub a) (p.sub a) ≤ 0 then decide (sqF (p.sub a) < r * r) else if sqF (b.sub a) ≤ dotF (b.sub a) (p.sub a) then decide (sqF (p.sub b) < r * r) else decide (leftF (b.sub a) (p.sub a) * leftF (b.sub a) (p.sub a) < r * r * sqF (b.sub a)) := rfl
 refine DrawCall_v (ds := [b.d, a.d]) (ch84 b a (hb.mono (by omega)) (ha.mono (by omega))) rfl rfl ?_
 conv=>whnf
 refine DrawCall_v (ds := [p.d, a.d]) (ch84 p a (hp.mono (by omega)) (ha.mono (by omega))) rfl rfl ?_
 conv=>whnf
 refine arith_in (wrap_i64 (by (try dsimp only); omega)) ?_
 conv=>whnf
 refine arith_in (wrap_i64 (by (try dsimp only); omega)) ?_
 conv=>whnf
 have b9 := dotF_bd hs ht
 refine arith_to (dotF (b.sub a) (p.sub a)) rfl (wrap_i64 (by omega)) ?_
 conv=>whnf
 refine brk_i (fun h1 => ?_) (fun h1 => ?_)
 ·rw [if_pos (of_decide_eq_true h1)] at hn
  rw [hn]
  conv=>whnf
  refine CallA_v (ds := [(p.sub a).d]) (ch121 _ (ht.mono (by omega))) rfl rfl ?_
  conv=>whnf
  refine arith_in (wrap_i64 (by (try dsimp only); omega)) ?_
  conv=>whnf
  exact RetA_view 0 rfl ⟨⟨rfl, rfl⟩, rfl⟩
 ·rw [if_neg (of_decide_eq_false h1)] at hn
  conv=>whnf
  refine CallA_v (ds := [(b.sub a).d]) (ch121 _ (hs.mono (by omega))) rfl rfl ?_
  conv=>whnf
  refine brk_i (fun h2 => ?_) (fun h2 => ?_)
  ·rw [if_pos (of_decide_eq_true h2)] at hn
   rw [hn]
   conv=>whnf
   refine CallA_v (ds := [p.d, b.d]) (ch84 p b (hp.mono (by omega)) (hb.mono (by omega))) rfl rfl ?_
   conv=>whnf
   refine CallA_v (ds := [(p.sub b).d]) (ch121 _ (hu.mono (by omega))) rfl rfl ?_
   conv=>whnf
   refine arith_in (wrap_i64 (by (try dsimp only); omega)) ?_
   conv=>whnf
   exact RetA_view 0 rfl ⟨⟨rfl, rfl⟩, rfl⟩
  ·rw [if_neg (of_decide_eq_false h2)] at hn
   rw [hn]
   conv=>whnf
   refine CallA_v (ds := [(b.sub a).d, (p.sub a).d]) (ch95 _ _ (hs.mono (by omega)) (ht.mono (by omega))) rfl rfl ?_
   conv=>whnf
   refine arith_in (wrap_i64 (by (try dsimp only); omega)) ?_
   conv=>whnf
   refine arith_in (wrap_i64 (by (try dsimp only); omega)) ?_
   conv=>whnf
   refine CallA_v (ds := [(b.sub a).d]) (ch121 _ (hs.mono (by omega))) rfl rfl ?_
   conv=>whnf
   refine arith_in (wrap_i64 (by (try dsimp only); omega)) ?_
   conv=>whnf
   exact RetA_view 0 rfl ⟨⟨rfl, rfl⟩, rfl⟩
theorem mod_i {l q : Nat} (hl : 0 < l) : ((q : Int) + 1).tmod (l : Int) = (((q + 1) % l : Nat) : Int) := by
 rw [Int.tmod_eq_emod_of_nonneg (by omega)]
 first | exact (Int.natCast_mod _ _).symm | exact (Int.natCast_emod _ _).symm | norm_cast
def lieAt (s : Sand) (m p : Pt) (i : Nat) : Bool := decide (0 ≤ leftF ((nxS s.corners i).sub (atP s.corners i)) ((p.sub m).sub (atP s.corners i)))
set_option maxHeartbeats 1000000 in
theorem ch46 (s : Sand) (hR : SandR s) (m p : Pt) (hm : Pin 1000 m) (hp : Pin 10000 p) : FnV Tryz.prog 46 [s.d, m.d, p.d] (.bool (liesR s m p)) := by
 refine fnV_of mixed tysOk Tryz.func46 rfl (ft := ft46) 3 (by decide +kernel) (by rfl) fun {σ} Y st => ?_
 conv=>whnf
 have hlen := hR.len
 have hl : liesR s m p = (List.range s.corners.length).all (lieAt s m p) := rfl
 refine LoopA_i (T := tys) tysOk (by exact drawsB_spec mixed tysOk (by decide +kernel)) (List.range s.corners.length) (fun i (_ : Unit) => ⟨[(4, .ptr 4 0), (5, .ptr 5 0), (7, .d (ptsD s.corners)), (8, .d (i64 i))], [(4, .box (.dd m.cells)), (5, .box (.dd p.cells))], st⟩) (fun i r _ => liesR s m p = r.all (lieAt s m p)) () (Wk.sub ⟨(by first | rfl | (simp only [List.length_map]; rfl) | simp [PX.get]), (by first | rfl | (simp only [List.length_map]; rfl) | simp [PX.get]), (by first | rfl | (simp only [List.length_map]; rfl) | simp [PX.get]), (by first | rfl | (simp only [List.length_map]; rfl) | simp [PX.get]), trivial⟩ ⟨(by first | rfl | (simp only [List.length_map]; rfl) | simp [PX.get]), (by first | rfl | (simp only [List.length_map]; rfl) | simp [PX.get]), trivial⟩) hl ?_ ?_
 ·rintro i q r _ hqi hi hr hk
  have hq := range_get hqi
  subst hq
  have hil : q < s.corners.length := by simpa using hi
  rw [List.all_cons] at hk
  conv=>whnf
  refine brk_i (fun _ => ?_) (fun h => absurd h (by simp; omega))
  conv=>whnf
  refine arith_in (wrap_i64 (by (try dsimp only); omega)) ?_
  conv=>whnf
  have hk0 : ((q : Int) + 1).tmod (((s.corners.map Pt.cells).length : Nat) : Int) = (((q + 1) % s.corners.length : Nat) : Int) := by
   rw [List.length_map]; exact mod_i (by omega)
  rw [hk0]
  have hkl : (q + 1) % s.corners.length < s.corners.length := Nat.mod_lt _ (by omega)
  have hlie : lieAt s m p q = decide (0 ≤ leftF ((atP s.corners ((q + 1) % s.corners.length)).sub (atP s.corners q)) ((p.sub m).sub (atP s.corners q))) := rfl
  generalize hkk : (q + 1) % s.corners.length = k at hkl hlie
  refine brk_i (fun _ => ?_) (fun h => absurd h (by simp; rintro h; rw [h] at hlen; simp at hlen))
  conv=>whnf
  have hpk := hR.pin _ (atP_mem hkl)
  have hpq := hR.pin _ (atP_mem hil)
  refine elemK_nat (atP_get hkl) ?_
  conv=>whnf
  refine elemK_nat (atP_get hil) ?_
  conv=>whnf
  refine DrawCall_v (ds := [(atP s.corners k).d, (atP s.corners q).d]) (ch84 _ _ (hpk.mono (by omega)) (hpq.mono (by omega))) rfl rfl ?_
  conv=>whnf
  refine DrawCall_v (ds := [p.d, m.d]) (ch84 _ _ (hp.mono (by omega)) (hm.mono (by omega))) rfl rfl ?_
  conv=>whnf
  refine elemK_nat (atP_get hil) ?_
  conv=>whnf
  refine DrawCall_v (ds := [(p.sub m).d, (atP s.corners q).d]) (ch84 _ _ ((hp.sub hm).mono (by omega)) (hpq.mono (by omega))) rfl rfl ?_
  conv=>whnf
  refine DrawCall_v (ds := [((atP s.corners k).sub (atP s.corners q)).d, ((p.sub m).sub (atP s.corners q)).d]) (ch95 _ _ ((hpk.sub hpq).mono (by omega)) (((hp.sub hm).sub hpq).mono (by omega))) rfl rfl ?_
  conv=>whnf
  refine brk_i (fun h3 => ?_) (fun h3 => ?_)
  ·have h3 : leftF ((atP s.corners k).sub (atP s.corners q)) ((p.sub m).sub (atP s.corners q)) < 0 := of_decide_eq_true h3
   rw [decide_eq_false (by omega)] at hlie
   rw [hlie, Bool.false_and] at hk
   rw [hk]
   conv=>whnf
   exact RetA_view 0 rfl ⟨⟨rfl, rfl⟩, rfl⟩
  ·have h3 : ¬ leftF ((atP s.corners k).sub (atP s.corners q)) ((p.sub m).sub (atP s.corners q)) < 0 := of_decide_eq_false h3
   rw [decide_eq_true (by omega)] at hlie
   rw [hlie, Bool.true_and] at hk
   conv=>whnf
   refine arith_in (wrap_i64 (by (try dsimp only); omega)) ?_
   conv=>whnf
   exact ⟨(), hk, Wk.sub ⟨rfl, rfl, rfl, congrArg (fun z => some (V.d (i64 z))) (by omega), trivial⟩ ⟨rfl, rfl, trivial⟩⟩
 ·rintro _ hk
  conv=>whnf
  refine brk_i (fun h => absurd h (by simp)) (fun _ => ?_)
  conv=>whnf
  rw [hk]
  exact RetA_view 0 rfl ⟨⟨rfl, rfl⟩, rfl⟩
def nearAt (s : Sand) (m p : Pt) (r : Int) (i : Nat) : Bool := nearR (atP s.corners i) (nxS s.corners i) (p.sub m) r
set_option maxHeartbeats 2000000 in
theorem ch51 (s : Sand) (hR : SandR s) (m p : Pt) (hm : Pin 500 m) (hp : Pin 10000 p) (r : Int) (hr : 0 ≤ r ∧ r ≤ 5001) : FnV Tryz.prog 51 [s.d, m.d, p.d, i64 r] (.bool (insR s m p r)) := by
 refine fnV_of mixed tysOk Tryz.func51 rfl (ft := ft51) 4 (by decide +kernel) (by rfl) fun {σ} Y st => ?_
 conv=>whnf
 have hlen := hR.len
 have hl : insR s m p r = ((decide (0 < r) && liesR s m p) || (List.range s.corners.length).any (nearAt s m p r)) := rfl
 refine brk_i (fun h0 => ?_) (fun h0 => ?_)
 ·have h0 : 0 < r := by have := of_decide_eq_true h0; omega
  rw [decide_eq_true h0, Bool.true_and] at hl
  conv=>whnf
  refine CallA_v (ds := [s.d, m.d, p.d]) (ch46 s hR m p (hm.mono (by omega)) hp) rfl rfl ?_
  cases h1 : liesR s m p with
  | true =>
   rw [h1, Bool.true_or] at hl
   rw [hl]
   conv=>whnf
   exact RetA_view 0 rfl ⟨⟨rfl, rfl⟩, rfl⟩
  | false =>
   rw [h1, Bool.false_or] at hl
   conv=>whnf
   refine LoopA_i (T := tys) tysOk (by exact drawsB_spec mixed tysOk (by decide +kernel)) (List.range s.corners.length) (fun i (_ : Unit) => ⟨[(3, .d (i64 r)), (5, .ptr 5 0), (6, .ptr 6 0), (9, .d (ptsD s.corners)), (10, .d (i64 i))], [(5, .box (.dd m.cells)), (6, .box (.dd p.cells))], st⟩) (fun i l _ => insR s m p r = l.any (nearAt s m p r)) () (Wk.sub ⟨(by first | rfl | (simp only [List.length_map]; rfl) | simp [PX.get]), (by first | rfl | (simp only [List.length_map]; rfl) | simp [PX.get]), (by first | rfl | (simp only [List.length_map]; rfl) | simp [PX.get]), (by first | rfl | (simp only [List.length_map]; rfl) | simp [PX.get]), (by first | rfl | (simp only [List.length_map]; rfl) | simp [PX.get]), trivial⟩ ⟨(by first | rfl | (simp only [List.length_map]; rfl) | simp [PX.get]), (by first | rfl | (simp only [List.length_map]; rfl) | simp [PX.get]), trivial⟩) hl ?_ ?_
   ·rintro i q l _ hqi hi hil0 hk
    have hq := range_get hqi
    subst hq
    have hil : q < s.corners.length := by simpa using hi
    rw [List.any_cons] at hk
    conv=>whnf
    refine brk_i (fun _ => ?_) (fun h => absurd h (by simp; omega))
    conv=>whnf
    refine elemK_nat (atP_get hil) ?_
    conv=>whnf
    refine arith_in (wrap_i64 (by (try dsimp only); omega)) ?_
    conv=>whnf
    have hk0 : ((q : Int) + 1).tmod (((s.corners.map Pt.cells).length : Nat) : Int) = (((q + 1) % s.corners.length : Nat) : Int) := by
     rw [List.length_map]; exact mod_i (by omega)
    rw [hk0]
    have hkl : (q + 1) % s.corners.length < s.corners.length := Nat.mod_lt _ (by omega)
    have hnr : nearAt s m p r q = nearR (atP s.corners q) (atP s.corners ((q + 1) % s.corners.length)) (p.sub m) r := rfl
    generalize hkk : (q + 1) % s.corners.length = k at hkl hnr
    refine brk_i (fun _ => ?_) (fun h => absurd h (by simp; rintro h; rw [h] at hlen; simp at hlen))
    conv=>whnf
    have hpk := hR.pin _ (atP_mem hkl)
    have hpq := hR.pin _ (atP_mem hil)
    refine elemK_nat (atP_get hkl) ?_
    conv=>whnf
    refine DrawCall_v (ds := [p.d, m.d]) (ch84 _ _ (hp.mono (by omega)) (hm.mono (by omega))) rfl rfl ?_
    conv=>whnf
    refine DrawCall_v (ds := [(atP s.corners q).d, (atP s.corners k).d, (p.sub m).d, i64 r]) (ch96 _ _ _ hpq hpk (hp.sub hm) r hr) rfl rfl ?_
    rw [← hnr]
    cases hn : nearAt s m p r q with
    | true =>
     rw [hn, Bool.true_or] at hk
     rw [hk]
     conv=>whnf
     exact RetA_view 0 rfl ⟨⟨rfl, rfl⟩, rfl⟩
    | false =>
     rw [hn, Bool.false_or] at hk
     conv=>whnf
     refine arith_in (wrap_i64 (by (try dsimp only); omega)) ?_
     conv=>whnf
     exact ⟨(), hk, Wk.sub ⟨rfl, rfl, rfl, rfl, congrArg (fun z => some (V.d (i64 z))) (by omega), trivial⟩ ⟨rfl, rfl, trivial⟩⟩
   ·rintro _ hk
    conv=>whnf
    refine brk_i (fun h => absurd h (by simp)) (fun _ => ?_)
    conv=>whnf
    rw [hk]
    exact RetA_view 0 rfl ⟨⟨rfl, rfl⟩, rfl⟩
 ·have h0 : ¬ 0 < r := by have := of_decide_eq_false h0; omega
  rw [decide_eq_false h0, Bool.false_and, Bool.false_or] at hl
  conv=>whnf
  refine LoopA_i (T := tys) tysOk (by exact drawsB_spec mixed tysOk (by decide +kernel)) (List.range s.corners.length) (fun i (_ : Unit) => ⟨[(3, .d (i64 r)), (5, .ptr 5 0), (6, .ptr 6 0), (9, .d (ptsD s.corners)), (10, .d (i64 i))], [(5, .box (.dd m.cells)), (6, .box (.dd p.cells))], st⟩) (fun i l _ => insR s m p r = l.any (nearAt s m p r)) () (Wk.sub ⟨(by first | rfl | (simp only [List.length_map]; rfl) | simp [PX.get]), (by first | rfl | (simp only [List.length_map]; rfl) | simp [PX.get]), (by first | rfl | (simp only [List.length_map]; rfl) | simp [PX.get]), (by first | rfl | (simp only [List.length_map]; rfl) | simp [PX.get]), (by first | rfl | (simp only [List.length_map]; rfl) | simp [PX.get]), trivial⟩ ⟨(by first | rfl | (simp only [List.length_map]; rfl) | simp [PX.get]), (by first | rfl | (simp only [List.length_map]; rfl) | simp [PX.get]), trivial⟩) hl ?_ ?_
  ·rintro i q l _ hqi hi hil0 hk
   have hq := range_get hqi
   subst hq
   have hil : q < s.corners.length := by simpa using hi
   rw [List.any_cons] at hk
   conv=>whnf
   refine brk_i (fun _ => ?_) (fun h => absurd h (by simp; omega))
   conv=>whnf
   refine elemK_nat (atP_get hil) ?_
   conv=>whnf
   refine arith_in (wrap_i64 (by (try dsimp only); omega)) ?_
   conv=>whnf
   have hk0 : ((q : Int) + 1).tmod (((s.corners.map Pt.cells).length : Nat) : Int) = (((q + 1) % s.corners.length : Nat) : Int) := by
    rw [List.length_map]; exact mod_i (by omega)
   rw [hk0]
   have hkl : (q + 1) % s.corners.length < s.corners.length := Nat.mod_lt _ (by omega)
   have hnr : nearAt s m p r q = nearR (atP s.corners q) (atP s.corners ((q + 1) % s.corners.length)) (p.sub m) r := rfl
   generalize hkk : (q + 1) % s.corners.length = k at hkl hnr
   refine brk_i (fun _ => ?_) (fun h => absurd h (by simp; rintro h; rw [h] at hlen; simp at hlen))
   conv=>whnf
   have hpk := hR.pin _ (atP_mem hkl)
   have hpq := hR.pin _ (atP_mem hil)
   refine elemK_nat (atP_get hkl) ?_
   conv=>whnf
   refine DrawCall_v (ds := [p.d, m.d]) (ch84 _ _ (hp.mono (by omega)) (hm.mono (by omega))) rfl rfl ?_
   conv=>whnf
   refine DrawCall_v (ds := [(atP s.corners q).d, (atP s.corners k).d, (p.sub m).d, i64 r]) (ch96 _ _ _ hpq hpk (hp.sub hm) r hr) rfl rfl ?_
   rw [← hnr]
   cases hn : nearAt s m p r q with
   | true =>
    rw [hn, Bool.true_or] at hk
    rw [hk]
    conv=>whnf
    exact RetA_view 0 rfl ⟨⟨rfl, rfl⟩, rfl⟩
   | false =>
    rw [hn, Bool.false_or] at hk
    conv=>whnf
    refine arith_in (wrap_i64 (by (try dsimp only); omega)) ?_
    conv=>whnf
    exact ⟨(), hk, Wk.sub ⟨rfl, rfl, rfl, rfl, congrArg (fun z => some (V.d (i64 z))) (by omega), trivial⟩ ⟨rfl, rfl, trivial⟩⟩
  ·rintro _ hk
   conv=>whnf
   refine brk_i (fun h => absurd h (by simp)) (fun _ => ?_)
   conv=>whnf
   rw [hk]
   exact RetA_view 0 rfl ⟨⟨rfl, rfl⟩, rfl⟩
end Go.PX
namespace Go.PX
open Go.Proofs
theorem move_pin {s : Sand} (h : SandR s) {m : Pt} (hm : m ∈ movesL s.moves) : Pin 500 m := by
 have hx := h.x
 have hy := h.y
 have := (mem_movesL _ _).1 hm
 exact ⟨by omega, by omega⟩
end Go.PX
namespace Go.PX
open Go.Proofs
end Go.PX
namespace Go.PX
open Go.Proofs
end Go.PX
namespace Go.PX
open Go.Proofs
end Go.PX
namespace Go.PX
open Go.Proofs
def valL (c : Cht) : Bool := decide ((checkX c).2.2 = 0)
theorem ch43 (c : Cht) : FnV Tryz.prog 43 [c.d] (.bool (valL c)) := by
 refine fnV_of mixed tysOk Tryz.func43 rfl (ft := ft43) 1 (by decide +kernel) (by rfl) fun {σ} Y st => ?_
 conv=>whnf
 refine CallA_v (ch21x c) rfl rfl ?_
 conv=>whnf
 exact RetA_view 1 rfl ⟨⟨rfl, rfl⟩, rfl⟩
def wordsU (l : List Int) : D := .vs (l.map fun b => [.int .u16 b])
def turnF (x : List Int) (n : Nat) : Int := if x = [] then 0 else x.getD (n % x.length) 0
def U16 (x : List Int) : Prop := ∀ b ∈ x, 0 ≤ b ∧ b ≤ 65535
theorem ch49 (x : List Int) (hx : U16 x) (n : Nat) : FnV Tryz.prog 49 [wordsU x, i64 n] (i64 (turnF x n)) := by
 refine fnV_of mixed tysOk Tryz.func49 rfl (ft := ft49) 2 (by decide +kernel) (by rfl) fun {σ} Y st => ?_
 conv=>whnf
 by_cases h : x = []
 ·subst h
  conv=>whnf
  exact RetA_view 0 rfl ⟨⟨rfl, rfl⟩, rfl⟩
 ·have hl : 0 < x.length := List.length_pos_iff.2 h
  refine brk_i (fun h1 => absurd h1 (by simp [h])) (fun _ => ?_)
  conv=>whnf
  refine chk_i (decide_eq_true (by rw [List.length_map]; omega)) ?_
  conv=>whnf
  rw [List.length_map]
  have hm := Nat.mod_lt n hl
  have he : ((n : Int).tmod (x.length : Int)) = ((n % x.length : Nat) : Int) := by
   rw [Int.tmod_eq_emod_of_nonneg (by omega)]; omega
  rw [he]
  have hg : x[n % x.length]? = some (x[n % x.length]) := List.getElem?_eq_getElem hm
  refine elemK_nat hg ?_
  conv=>whnf
  have hb := hx _ (List.mem_of_getElem? hg)
  have ht : turnF x n = x[n % x.length] := by
   unfold turnF
   rw [if_neg h, List.getD_eq_getElem?_getD, hg]; rfl
  rw [← ht] at hb ⊢
  refine arith_in (wrap_i64 (by (try dsimp only); omega)) ?_
  conv=>whnf
  exact RetA_view 0 rfl ⟨⟨rfl, rfl⟩, rfl⟩
theorem turn_bd {x : List Int} (hx : U16 x) (n : Nat) : 0 ≤ turnF x n ∧ turnF x n ≤ 65535 := by
 unfold turnF
 split
 ·omega
 ·rename_i h
  have hm := Nat.mod_lt n (List.length_pos_iff.2 h)
  rw [List.getD_eq_getElem?_getD, List.getElem?_eq_getElem hm]
  exact hx _ (List.getElem_mem _)
def amongF (s : Span) (n : Int) : Int := s.lo + n.tmod (s.hi - s.lo + 1)
theorem among_in {s : Span} {n : Int} (hs : s.lo ≤ s.hi) (hn : 0 ≤ n) : s.lo ≤ amongF s n ∧ amongF s n ≤ s.hi := by
 have h1 := Int.tmod_nonneg (s.hi - s.lo + 1) hn
 have h2 := Int.tmod_lt_of_pos n (b := s.hi - s.lo + 1) (by omega)
 unfold amongF
 omega
theorem ch57 (s : Span) (n : Int) (hs : s.lo ≤ s.hi) (hb : -1000000 ≤ s.lo ∧ s.hi ≤ 1000000) (hn : 0 ≤ n ∧ n ≤ 1000000) : FnV Tryz.prog 57 [.agg (Span.cells s), i64 n] (i64 (amongF s n)) := by
 refine fnV_of mixed tysOk Tryz.func57 rfl (ft := ft57) 2 (by decide +kernel) (by rfl) fun {σ} Y st => ?_
 conv=>whnf
 have h1 := among_in hs hn.1
 refine arith_in (wrap_i64 (by (try dsimp only); omega)) ?_
 conv=>whnf
 refine arith_in (wrap_i64 (by (try dsimp only); omega)) ?_
 conv=>whnf
 refine chk_i (decide_eq_true (by omega)) ?_
 conv=>whnf
 refine arith_in (wrap_i64 (by unfold amongF at h1; omega)) ?_
 conv=>whnf
 exact RetA_view 0 rfl ⟨⟨rfl, rfl⟩, rfl⟩
def movP (s : Sand) (l : List Int) (n : Nat) : Pt := ⟨amongF s.moves.x (turnF l (2 * n)), amongF s.moves.y (turnF l (2 * n + 1))⟩
theorem ch47 (s : Sand) (hR : SandR s) (l : List Int) (hl : U16 l) (n : Nat) (hn : n < 1000000) : FnV Tryz.prog 47 [s.d, wordsU l, i64 n] (movP s l n).d := by
 refine fnV_of mixed tysOk Tryz.func47 rfl (ft := ft47) 3 (by decide +kernel) (by rfl) fun {σ} Y st => ?_
 conv=>whnf
 have hx := hR.x
 have hy := hR.y
 have h1 := turn_bd hl (2 * n)
 have h2 := turn_bd hl (2 * n + 1)
 refine arith_to ((((2 * n : Nat) : Int))) (by (try dsimp only); omega) (wrap_i64 (by (try dsimp only); omega)) ?_
 conv=>whnf
 refine DrawCall_v (ds := [wordsU l, i64 ((2 * n : Nat) : Int)]) (ch49 l hl (2 * n)) rfl rfl ?_
 conv=>whnf
 refine DrawCall_v (ds := [.agg (Span.cells s.moves.x), i64 (turnF l (2 * n))]) (ch57 s.moves.x _ (by omega) (by omega) (by omega)) rfl rfl ?_
 conv=>whnf
 refine arith_to ((((2 * n : Nat) : Int))) (by (try dsimp only); omega) (wrap_i64 (by (try dsimp only); omega)) ?_
 conv=>whnf
 refine arith_to ((((2 * n + 1 : Nat) : Int))) (by (try dsimp only); omega) (wrap_i64 (by (try dsimp only); omega)) ?_
 conv=>whnf
 refine DrawCall_v (ds := [wordsU l, i64 ((2 * n + 1 : Nat) : Int)]) (ch49 l hl (2 * n + 1)) rfl rfl ?_
 conv=>whnf
 refine DrawCall_v (ds := [.agg (Span.cells s.moves.y), i64 (turnF l (2 * n + 1))]) (ch57 s.moves.y _ (by omega) (by omega) (by omega)) rfl rfl ?_
 conv=>whnf
 refine DrawCall_v (ch42 _ _) rfl rfl ?_
 conv=>whnf
 exact RetA_view 0 rfl ⟨⟨rfl, rfl⟩, rfl⟩
theorem movP_mem {s : Sand} (hR : SandR s) {l : List Int} (hl : U16 l) (n : Nat) : movP s l n ∈ movesL s.moves := by
 have hx := hR.x
 have hy := hR.y
 rw [mem_movesL]
 exact ⟨among_in (by omega) (turn_bd hl _).1, among_in (by omega) (turn_bd hl _).1⟩
def clampF (n : Int) : Int := max (-10000) (min 10000 n)
def clampP (p : Pt) : Pt := ⟨clampF p.x, clampF p.y⟩
def awayP (l : List Int) : Pt := ⟨(turnF l 1).tmod 400 - 200, (turnF l 2).tmod 400 - 200⟩
def atS (l : List Sand) (i : Nat) : Sand := (l[i]?).getD ⟨.empty, [], ⟨⟨0, 0⟩, ⟨0, 0⟩⟩⟩
def sandI (c : Cht) (l : List Int) : Sand := atS c.sands ((turnF l 0).toNat % c.sands.length)
def nearP (c : Cht) (l : List Int) : Pt := if c.sands = [] then clampP (awayP l) else clampP ((awayP l).add (atP (sandI c l).corners ((turnF l 3).toNat % (sandI c l).corners.length)))
theorem clamp_pin (p : Pt) : Pin 10000 (clampP p) := by
 have h : ∀ n, -10000 ≤ clampF n ∧ clampF n ≤ 10000 := fun n => by unfold clampF; omega
 exact ⟨h _, h _⟩
theorem near_pin (c : Cht) (l : List Int) : Pin 10000 (nearP c l) := by
 unfold nearP
 split <;> exact clamp_pin _
theorem tmod_nat {a : Int} {n : Nat} (ha : 0 ≤ a) : a.tmod (n : Int) = ((a.toNat % n : Nat) : Int) := by
 rw [Int.tmod_eq_emod_of_nonneg ha]
 obtain ⟨k, rfl⟩ := Int.eq_ofNat_of_zero_le ha
 simp
set_option maxHeartbeats 1000000 in
theorem ch44 (c : Cht) (hR : ChtR c) (l : List Int) (hl : U16 l) : FnV Tryz.prog 44 [c.d, wordsU l] (nearP c l).d := by
 refine fnV_of mixed tysOk Tryz.func44 rfl (ft := ft44) 2 (by decide +kernel) (by rfl) fun {σ} Y st => ?_
 conv=>whnf
 have h0 := turn_bd hl 0
 have h1 := turn_bd hl 1
 have h2 := turn_bd hl 2
 have h3 := turn_bd hl 3
 have t1 := Int.tmod_nonneg 400 h1.1
 have t2 := Int.tmod_lt_of_pos (turnF l 1) (b := 400) (by omega)
 have t3 := Int.tmod_nonneg 400 h2.1
 have t4 := Int.tmod_lt_of_pos (turnF l 2) (b := 400) (by omega)
 have hsl := hR.sands
 refine CallA_v (ds := [wordsU l, i64 1]) (ch49 l hl 1) rfl rfl ?_
 conv=>whnf
 refine arith_in (wrap_i64 (by (try dsimp only); omega)) ?_
 conv=>whnf
 refine CallA_v (ds := [wordsU l, i64 2]) (ch49 l hl 2) rfl rfl ?_
 conv=>whnf
 refine arith_in (wrap_i64 (by (try dsimp only); omega)) ?_
 conv=>whnf
 refine CallA_v (ch42 _ _) rfl rfl ?_
 conv=>whnf
 refine brk_i (fun h => ?_) (fun h => ?_)
 ·have hn : 0 < c.sands.length := by have := of_decide_eq_true h; simp at this; omega
  have hk := Nat.mod_lt (turnF l 0).toNat hn
  have hne : ¬ c.sands = [] := by rintro h; rw [h] at hn; simp at hn
  have hp : nearP c l = clampP ((awayP l).add (atP (sandI c l).corners ((turnF l 3).toNat % (sandI c l).corners.length))) := by unfold nearP; rw [if_neg hne]
  rw [hp]
  have hg : c.sands[(turnF l 0).toNat % c.sands.length]? = some (sandI c l) := by unfold sandI atS; simp [hk]
  have hS := hR.sand _ (List.mem_of_getElem? hg)
  generalize sandI c l = s at hg hS ⊢
  have hlen := hS.len
  have hj := Nat.mod_lt (turnF l 3).toNat (show 0 < s.corners.length by omega)
  have hq := hS.pin _ (atP_mem hj)
  generalize hjj : (turnF l 3).toNat % s.corners.length = j at hj hq ⊢
  conv=>whnf
  refine DrawCall_v (ds := [wordsU l, i64 0]) (ch49 l hl 0) rfl rfl ?_
  conv=>whnf
  refine chk_i (decide_eq_true (by simp only [List.length_map]; omega)) ?_
  conv=>whnf
  rw [List.length_map, tmod_nat h0.1]
  refine elemK_nat hg ?_
  conv=>whnf
  refine DrawCall_v (ds := [wordsU l, i64 3]) (ch49 l hl 3) rfl rfl ?_
  conv=>whnf
  refine chk_i (decide_eq_true (by simp only [List.length_map]; omega)) ?_
  conv=>whnf
  rw [List.length_map, tmod_nat h3.1, hjj]
  refine elemK_nat (atP_get hj) ?_
  conv=>whnf
  have haw : Pin 1000 (awayP l) := ⟨by show -1000 ≤ (turnF l 1).tmod 400 - 200 ∧ (turnF l 1).tmod 400 - 200 ≤ 1000; omega, by show -1000 ≤ (turnF l 2).tmod 400 - 200 ∧ (turnF l 2).tmod 400 - 200 ≤ 1000; omega⟩
  refine DrawCall_v (ds := [(awayP l).d, (atP s.corners j).d]) (ch54 _ _ (haw.mono (by omega)) (hq.mono (by omega))) rfl rfl ?_
  conv=>whnf
  refine CallA_v (ch42 _ _) rfl rfl ?_
  conv=>whnf
  exact RetA_view 0 rfl ⟨⟨rfl, rfl⟩, rfl⟩
 ·have hne : c.sands = [] := by
   have := of_decide_eq_false h
   simp at this
   exact this
  have hp : nearP c l = clampP (awayP l) := by unfold nearP; rw [if_pos hne]
  rw [hp]
  conv=>whnf
  refine CallA_v (ch42 _ _) rfl rfl ?_
  conv=>whnf
  exact RetA_view 0 rfl ⟨⟨rfl, rfl⟩, rfl⟩
end Go.PX
namespace Go.PX
open Go.Proofs Go.RowKit Go.ChangeShapes
theorem c64 : Tryz.prog.cellsOf 64 = 1 := by kernel_rfl
theorem c82 : Tryz.prog.cellsOf 82 = 1 := by kernel_rfl
theorem u16In {n : Int} (h : (Lit.int .u16 n).wf = true) : 0 ≤ n ∧ n ≤ 65535 := by
 simp only [Lit.wf, Bool.and_eq_true, decide_eq_true_eq] at h
 exact h
theorem Rd.intw {P : Program} {W : World} {t : TypeId} {k : IntKind} (ht : P.underlying t = some (.int k)) : Rd P W t fun ds => ∃ n, ds = [.int k n] ∧ (Lit.int k n).wf = true := by
 refine ⟨?_⟩
 intro H enc sp held fuel cs x h
 obtain ⟨n, rfl, _, hw⟩ := DataW.trod_int ht h
 exact ⟨[.int k n], ⟨n, rfl, hw⟩, _, [], rfl, rfl, rfl⟩
section
variable (W : World)
theorem rdU16 : Rd Tryz.prog W 82 fun ds => ∃ n, ds = [.int .u16 n] ∧ 0 ≤ n ∧ n ≤ 65535 := (Rd.intw Tryz.underlying82).mono fun ds ⟨n, h, w⟩ => ⟨n, h, u16In w⟩
theorem rdU16s : Rd Tryz.prog W 64 fun ds => ∃ l : List Int, ds = [wordsU l] ∧ U16 l :=
 (Rd.slice Tryz.underlying64 c82 (by omega) (rdU16 W)).mono fun ds h => by
  obtain ⟨es, rfl, he⟩ := h
  have : ∃ l : List Int, es = l.map (fun b => [D.int .u16 b]) ∧ U16 l := by
   induction es with
   | nil => exact ⟨[], rfl, fun b h => by cases h⟩
   | cons e r ih =>
    obtain ⟨l, h1, h2⟩ := ih fun x hx => he x (by simp [hx])
    obtain ⟨n, h3, h4⟩ := he e (by simp)
    refine ⟨n :: l, by rw [h3, h1]; rfl, fun b hb => ?_⟩
    rcases List.mem_cons.1 hb with rfl | hb
    ·exact h4
    ·exact h2 b hb
  obtain ⟨l, rfl, h2⟩ := this
  exact ⟨l, rfl, h2⟩
end
end Go.PX
namespace Go.PX
open Go.Proofs Go.RowKit Go.ChangeShapes
theorem c74 : Tryz.prog.cellsOf 74 = 2 * 1 := by kernel_rfl
theorem rdTwoZ (W : World) : RdZ Tryz.prog W 74 fun ds => ∃ a b : List Int, ds = [wordsU a, wordsU b] ∧ U16 a ∧ U16 b :=
 (RdZ.array Tryz.underlying74 c74 c64 (Rd.z (rdU16s W))).mono fun ds h => by
  obtain ⟨dss, rfl, hl, hd⟩ := h
  match dss, hl with
  | [x, y], _ =>
   obtain ⟨a, rfl, ha⟩ := hd x (by simp)
   obtain ⟨b, rfl, hb⟩ := hd y (by simp)
   exact ⟨a, b, rfl, ha, hb⟩
end Go.PX
namespace Go.PX
open Go.Proofs
theorem valid_open {c : Cht} (h : (checkX c).2.2 = 0) {p : Pt} (hp : Pin 10000 p) : openX c p = 0 := by
 unfold openX
 rw [if_pos h, if_pos (within_iff.2 hp)]
theorem open_bad {c : Cht} (h : ¬ (checkX c).2.2 = 0) (p : Pt) : ¬ openX c p = 0 := by
 unfold openX
 rw [if_neg h]; exact h
end Go.PX
namespace Go.PX
open Go.Proofs
theorem firstL_some {p : Pt} {r : Int} : ∀ {l : List Sand} {i j : Int} {m : Pt}, firstL p r i l = some (j, m) → ∃ k : Nat, j = i + k ∧ ∃ s, l[k]? = some s ∧ ((movesL s.moves).find? fun m => insR s m p r) = some m ∧ ∀ n, n < k → ∀ t, l[n]? = some t → ∀ v ∈ movesL t.moves, insR t v p r = false
 | [], _, _, _, h => by cases h
 | s :: l, i, j, m, h => by
  rw [firstL] at h
  cases hf : (movesL s.moves).find? fun m => insR s m p r with
  | some v =>
   rw [hf] at h
   cases h
   exact ⟨0, by omega, s, rfl, hf, fun n hn => by omega⟩
  | none =>
   rw [hf] at h
   obtain ⟨k, hk, t, ht, h1, h2⟩ := firstL_some h
   refine ⟨k + 1, by omega, t, by simpa using ht, h1, fun n hn u hu v hv => ?_⟩
   cases n with
   | zero =>
    simp at hu; subst hu
    rw [List.find?_eq_none] at hf
    simpa using hf v hv
   | succ n => exact h2 n (by omega) u (by simpa using hu) v hv
def lexP (a b : Pt) : Prop := a.x < b.x ∨ (a.x = b.x ∧ a.y < b.y)
theorem upX_sorted : ∀ (k : Nat) (v : Int), (upX k v).Pairwise (· < ·)
 | 0, _ => List.Pairwise.nil
 | k + 1, v => by
  rw [upX]
  refine List.Pairwise.cons (fun y hy => ?_) (upX_sorted k (v + 1))
  rw [mem_upX] at hy; omega
theorem grid_sorted (ys : List Int) (hy : ys.Pairwise (· < ·)) : ∀ (xs : List Int), xs.Pairwise (· < ·) → (xs.flatMap fun x => ys.map fun y => (⟨x, y⟩ : Pt)).Pairwise lexP
 | [], _ => List.Pairwise.nil
 | x :: xs, h => by
  obtain ⟨h1, h2⟩ := List.pairwise_cons.1 h
  rw [List.flatMap_cons, List.pairwise_append]
  refine ⟨?_, grid_sorted ys hy xs h2, ?_⟩
  ·rw [List.pairwise_map]
   exact hy.imp fun h => .inr ⟨rfl, h⟩
  ·intro a ha b hb
   obtain ⟨_, _, rfl⟩ := List.mem_map.1 ha
   obtain ⟨x', hx', hb⟩ := List.mem_flatMap.1 hb
   obtain ⟨_, _, rfl⟩ := List.mem_map.1 hb
   exact .inl (h1 x' hx')
theorem moves_sorted (b : Box) : (movesL b).Pairwise lexP := grid_sorted _ (upX_sorted _ _) _ (upX_sorted _ _)
theorem find_before {f : Pt → Bool} {l : List Pt} (hl : l.Pairwise lexP) {m v : Pt} (hf : l.find? f = some m) (hv : v ∈ l) (hlt : lexP v m) : f v = false := by
 obtain ⟨hm, l1, l2, rfl, has⟩ := List.find?_eq_some_iff_append.1 hf
 rcases List.mem_append.1 hv with hv | hv
 ·simpa using has v hv
 ·rw [List.pairwise_append] at hl
  rcases List.mem_cons.1 hv with rfl | hv
  ·unfold lexP at hlt; omega
  ·have := (List.pairwise_cons.1 hl.2.1).1 v hv
   unfold lexP at hlt this; omega
def cornI (s : Sand) (l : List Int) (n : Nat) : Pt := atP s.corners ((turnF l n).toNat % s.corners.length)
def mixA (l : List Int) : Int := (turnF l 3).tmod 101
def mixB (l : List Int) : Int := (turnF l 4).tmod (101 - mixA l)
def cornP (s : Sand) (l : List Int) : Pt := ⟨mixA l * (cornI s l 0).x + mixB l * (cornI s l 1).x + (100 - mixA l - mixB l) * (cornI s l 2).x, mixA l * (cornI s l 0).y + mixB l * (cornI s l 1).y + (100 - mixA l - mixB l) * (cornI s l 2).y⟩
theorem mix_in {l : List Int} (hl : U16 l) : 0 ≤ mixA l ∧ mixA l ≤ 100 ∧ 0 ≤ mixB l ∧ mixB l ≤ 100 - mixA l := by
 have h3 := turn_bd hl 3
 have h4 := turn_bd hl 4
 have a1 := Int.tmod_nonneg 101 h3.1
 have a2 := Int.tmod_lt_of_pos (turnF l 3) (b := 101) (by omega)
 have e : mixA l = (turnF l 3).tmod 101 := rfl
 have b1 := Int.tmod_nonneg (101 - mixA l) h4.1
 have b2 := Int.tmod_lt_of_pos (turnF l 4) (b := 101 - mixA l) (by omega)
 have f : mixB l = (turnF l 4).tmod (101 - mixA l) := rfl
 omega
theorem cornI_lt {s : Sand} (hS : SandR s) (l : List Int) (n : Nat) : (turnF l n).toNat % s.corners.length < s.corners.length := Nat.mod_lt _ (by have := hS.len; omega)
theorem mix_left (f a b d t : Pt) (x y z : Int) (h : x + y + z = 100) : leftF f ⟨x * a.x + y * b.x + z * d.x - 100 * t.x, x * a.y + y * b.y + z * d.y - 100 * t.y⟩ = x * leftF f (a.sub t) + y * leftF f (b.sub t) + z * leftF f (d.sub t) := by
 have hz : z = 100 - x - y := by omega
 subst hz
 unfold leftF Pt.sub; grind
theorem corn_in {s : Sand} (hS : SandR s) {l : List Int} (hl : U16 l) (t : Nat) (ht : t < s.corners.length) : 0 ≤ farD s.corners.length (atP s.corners) 100 (cornP s l) t := by
 obtain ⟨h1, h2, h3, h4⟩ := mix_in hl
 have e : farD s.corners.length (atP s.corners) 100 (cornP s l) t = mixA l * leftF (sideF s.corners.length (atP s.corners) t) ((cornI s l 0).sub (atP s.corners t)) + mixB l * leftF (sideF s.corners.length (atP s.corners) t) ((cornI s l 1).sub (atP s.corners t)) + (100 - mixA l - mixB l) * leftF (sideF s.corners.length (atP s.corners) t) ((cornI s l 2).sub (atP s.corners t)) := mix_left _ _ _ _ _ _ _ _ (by omega)
 rw [e]
 have hR := hS.round
 have k0 := Int.mul_nonneg h1 (hR.nonneg ht (cornI_lt hS l 0))
 have k1 := Int.mul_nonneg h3 (hR.nonneg ht (cornI_lt hS l 1))
 have k2 := Int.mul_nonneg (show 0 ≤ 100 - mixA l - mixB l by omega) (hR.nonneg ht (cornI_lt hS l 2))
 unfold cornI
 omega
def offP (q m p : Pt) : Pt := ⟨q.x + 100 * (m.x - p.x), q.y + 100 * (m.y - p.y)⟩
theorem clear_far {s : Sand} (hS : SandR s) {m p : Pt} {r : Int} (hr : 0 ≤ r) (hi : insR s m p r = false) {l : List Int} (hl : U16 l) : 10000 * r * r ≤ sqF (offP (cornP s l) m p) := by
 rcases Int.lt_or_le (sqF (offP (cornP s l) m p)) (10000 * r * r) with h | h
 case inr => exact h
 exfalso
 have e1 : offP (cornP s l) m p = ⟨(cornP s l).x - 100 * (p.sub m).x, (cornP s l).y - 100 * (p.sub m).y⟩ := by
  unfold offP Pt.sub; simp; omega
 have h2 : sqF ⟨(cornP s l).x - 100 * (p.sub m).x, (cornP s l).y - 100 * (p.sub m).y⟩ < r * r * (100 * 100) := by
  rw [← e1]
  have : r * r * (100 * 100) = 10000 * r * r := by grind
  omega
 have h0 : 0 < r := by
  rcases Int.lt_or_eq_of_le hr with h3 | h3
  ·exact h3
  ·subst h3
   have := sqF_nonneg (offP (cornP s l) m p)
   simp at h; omega
 rw [Bool.eq_false_iff] at hi
 refine hi ((insR_iff hS m p r).2 ?_)
 by_cases h3 : ∃ k, k < s.corners.length ∧ farF s.corners.length (atP s.corners) (p.sub m) k < 0
 ·obtain ⟨k, hk, _, h4⟩ := wayIn hS.round (d := 100) (by omega) (fun j hj => corn_in hS hl j hj) h3 h2
  exact .inr ⟨k, hk, h4⟩
 ·refine .inl ⟨h0, fun k hk => ?_⟩
  rcases Int.lt_or_le (farF s.corners.length (atP s.corners) (p.sub m) k) 0 with h4 | h4
  ·exact absurd ⟨k, hk, h4⟩ h3
  ·exact h4
theorem clear_none {c : Cht} {p : Pt} (ho : openX c p = 0) {r : Int} (hr : 0 ≤ r ∧ r ≤ 5000) (h : firstR c p r = none) : FnV Tryz.prog 26 [c.d, p.d, i64 r] (.tup [i64 0, Pt.d ⟨0, 0⟩, i64 4]) := by
 have hb : inB r 0 5000 = true := inB_iff.2 (by omega)
 have hx : insX c p r = none := by rw [ins_first (openX_ok ho).1 p hr.1, h]
 have h : FnV Tryz.prog 26 [c.d, p.d, i64 r] (.tup [i64 (clearV c p r).1, (clearV c p r).2.d, i64 (clearE c p r)]) := ch26 c p r
 have e1 : clearV c p r = (0, ⟨0, 0⟩) := by unfold clearV; rw [if_pos ⟨ho, hb⟩, hx]; rfl
 have e2 : clearE c p r = 4 := by unfold clearE; rw [if_pos ho, if_pos hb, hx]; rfl
 rw [e1, e2] at h
 exact fun {σ} => h
theorem clear_some {c : Cht} {p : Pt} (ho : openX c p = 0) {r : Int} (hr : 0 ≤ r ∧ r ≤ 5000) {i : Int} {m : Pt} (h : firstR c p r = some (i, m)) : FnV Tryz.prog 26 [c.d, p.d, i64 r] (.tup [i64 i, m.d, i64 0]) := by
 have hb : inB r 0 5000 = true := inB_iff.2 (by omega)
 have hx : insX c p r = some (i, m) := by rw [ins_first (openX_ok ho).1 p hr.1, h]
 have h : FnV Tryz.prog 26 [c.d, p.d, i64 r] (.tup [i64 (clearV c p r).1, (clearV c p r).2.d, i64 (clearE c p r)]) := ch26 c p r
 have e1 : clearV c p r = (i, m) := by unfold clearV; rw [if_pos ⟨ho, hb⟩, hx]; rfl
 have e2 : clearE c p r = 0 := by unfold clearE; rw [if_pos ho, if_pos hb, hx]; rfl
 rw [e1, e2] at h
 exact fun {σ} => h
set_option maxHeartbeats 1000000 in
theorem ch50 (s : Sand) (hS : SandR s) (l : List Int) (hl : U16 l) : FnV Tryz.prog 50 [s.d, wordsU l] (cornP s l).d := by
 refine fnV_of mixed tysOk Tryz.func50 rfl (ft := ft50) 2 (by decide +kernel) (by rfl) fun {σ} Y st => ?_
 conv=>whnf
 have hlen := hS.len
 have t0 := turn_bd hl 0
 have t1 := turn_bd hl 1
 have t2 := turn_bd hl 2
 have t3 := turn_bd hl 3
 have t4 := turn_bd hl 4
 have hi0 := cornI_lt hS l 0
 have hi1 := cornI_lt hS l 1
 have hi2 := cornI_lt hS l 2
 have hp0 := hS.pin _ (atP_mem hi0)
 have hp1 := hS.pin _ (atP_mem hi1)
 have hp2 := hS.pin _ (atP_mem hi2)
 obtain ⟨m1, m2, m3, m4⟩ := mix_in hl
 have hc : cornP s l = ⟨mixA l * (cornI s l 0).x + mixB l * (cornI s l 1).x + (100 - mixA l - mixB l) * (cornI s l 2).x, mixA l * (cornI s l 0).y + mixB l * (cornI s l 1).y + (100 - mixA l - mixB l) * (cornI s l 2).y⟩ := rfl
 have ea : mixA l = (turnF l 3).tmod 101 := rfl
 have eb : mixB l = (turnF l 4).tmod (101 - mixA l) := rfl
 rw [hc]
 have g0 : cornI s l 0 = atP s.corners ((turnF l 0).toNat % s.corners.length) := rfl
 have g1 : cornI s l 1 = atP s.corners ((turnF l 1).toNat % s.corners.length) := rfl
 have g2 : cornI s l 2 = atP s.corners ((turnF l 2).toNat % s.corners.length) := rfl
 rw [← g0] at hp0
 rw [← g1] at hp1
 rw [← g2] at hp2
 refine DrawCall_v (ds := [wordsU l, i64 0]) (ch49 l hl 0) rfl rfl ?_
 conv=>whnf
 refine chk_i (decide_eq_true (by simp only [List.length_map]; omega)) ?_
 conv=>whnf
 rw [List.length_map, tmod_nat t0.1]
 refine elemK_nat (atP_get hi0) ?_
 conv=>whnf
 refine DrawCall_v (ds := [wordsU l, i64 1]) (ch49 l hl 1) rfl rfl ?_
 conv=>whnf
 refine chk_i (decide_eq_true (by omega)) ?_
 conv=>whnf
 rw [tmod_nat t1.1]
 refine elemK_nat (atP_get hi1) ?_
 conv=>whnf
 refine DrawCall_v (ds := [wordsU l, i64 2]) (ch49 l hl 2) rfl rfl ?_
 conv=>whnf
 refine chk_i (decide_eq_true (by omega)) ?_
 conv=>whnf
 rw [tmod_nat t2.1]
 refine elemK_nat (atP_get hi2) ?_
 conv=>whnf
 rw [← g0, ← g1, ← g2]
 refine CallA_v (ds := [wordsU l, i64 3]) (ch49 l hl 3) rfl rfl ?_
 conv=>whnf
 rw [← ea]
 refine CallA_v (ds := [wordsU l, i64 4]) (ch49 l hl 4) rfl rfl ?_
 conv=>whnf
 refine arith_in (wrap_i64 (by (try dsimp only); omega)) ?_
 conv=>whnf
 refine chk_i (decide_eq_true (by omega)) ?_
 conv=>whnf
 rw [← eb]
 refine arith_in (wrap_i64 (by (try dsimp only); omega)) ?_
 conv=>whnf
 refine arith_in (wrap_i64 (by (try dsimp only); omega)) ?_
 conv=>whnf
 have b00 := mul_b 100 10000 (show -100 ≤ mixA l ∧ mixA l ≤ 100 by omega) hp0.x
 have b01 := mul_b 100 10000 (show -100 ≤ mixA l ∧ mixA l ≤ 100 by omega) hp0.y
 have b10 := mul_b 100 10000 (show -100 ≤ mixB l ∧ mixB l ≤ 100 by omega) hp1.x
 have b11 := mul_b 100 10000 (show -100 ≤ mixB l ∧ mixB l ≤ 100 by omega) hp1.y
 have b20 := mul_b 100 10000 (show -100 ≤ 100 - mixA l - mixB l ∧ 100 - mixA l - mixB l ≤ 100 by omega) hp2.x
 have b21 := mul_b 100 10000 (show -100 ≤ 100 - mixA l - mixB l ∧ 100 - mixA l - mixB l ≤ 100 by omega) hp2.y
 refine arith_in (wrap_i64 (by (try dsimp only); omega)) ?_
 conv=>whnf
 refine arith_in (wrap_i64 (by (try dsimp only); omega)) ?_
 conv=>whnf
 refine arith_in (wrap_i64 (by (try dsimp only); omega)) ?_
 conv=>whnf
 refine arith_in (wrap_i64 (by (try dsimp only); omega)) ?_
 conv=>whnf
 refine arith_in (wrap_i64 (by (try dsimp only); omega)) ?_
 conv=>whnf
 refine arith_in (wrap_i64 (by (try dsimp only); omega)) ?_
 conv=>whnf
 refine arith_in (wrap_i64 (by (try dsimp only); omega)) ?_
 conv=>whnf
 refine arith_in (wrap_i64 (by (try dsimp only); omega)) ?_
 conv=>whnf
 refine arith_in (wrap_i64 (by (try dsimp only); omega)) ?_
 conv=>whnf
 refine arith_in (wrap_i64 (by (try dsimp only); omega)) ?_
 conv=>whnf
 refine CallA_v (ch42 _ _) rfl rfl ?_
 conv=>whnf
 exact RetA_view 0 rfl ⟨⟨rfl, rfl⟩, rfl⟩
end Go.PX
namespace Go.PX
open Go.Proofs
theorem cornP_pin {s : Sand} (hS : SandR s) {l : List Int} (hl : U16 l) : Pin 3000000 (cornP s l) := by
 obtain ⟨m1, m2, m3, m4⟩ := mix_in hl
 have hp0 := hS.pin _ (atP_mem (cornI_lt hS l 0))
 have hp1 := hS.pin _ (atP_mem (cornI_lt hS l 1))
 have hp2 := hS.pin _ (atP_mem (cornI_lt hS l 2))
 have b00 := mul_b 100 10000 (show -100 ≤ mixA l ∧ mixA l ≤ 100 by omega) hp0.x
 have b01 := mul_b 100 10000 (show -100 ≤ mixA l ∧ mixA l ≤ 100 by omega) hp0.y
 have b10 := mul_b 100 10000 (show -100 ≤ mixB l ∧ mixB l ≤ 100 by omega) hp1.x
 have b11 := mul_b 100 10000 (show -100 ≤ mixB l ∧ mixB l ≤ 100 by omega) hp1.y
 have b20 := mul_b 100 10000 (show -100 ≤ 100 - mixA l - mixB l ∧ 100 - mixA l - mixB l ≤ 100 by omega) hp2.x
 have b21 := mul_b 100 10000 (show -100 ≤ 100 - mixA l - mixB l ∧ 100 - mixA l - mixB l ≤ 100 by omega) hp2.y
 have ex : (cornP s l).x = mixA l * (cornI s l 0).x + mixB l * (cornI s l 1).x + (100 - mixA l - mixB l) * (cornI s l 2).x := rfl
 have ey : (cornP s l).y = mixA l * (cornI s l 0).y + mixB l * (cornI s l 1).y + (100 - mixA l - mixB l) * (cornI s l 2).y := rfl
 unfold cornI at ex ey
 exact ⟨by omega, by omega⟩
theorem ch26n {c : Cht} {p : Pt} (ho : openX c p = 0) (hR : ChtR c) {a r : Int} (ha : 0 ≤ a ∧ a ≤ r) (hr : r ≤ 5000) (h : firstR c p r = none) : FnV Tryz.prog 26 [c.d, p.d, i64 a] (.tup [i64 0, Pt.d ⟨0, 0⟩, i64 4]) :=
 clear_none ho ⟨ha.1, by omega⟩ (first_mono hR ha.1 ha.2 h)
set_option maxHeartbeats 8000000 in
theorem ch9 (c : Cht) (a b y : List Int) (ha : U16 a) (hb : U16 b) (hy : U16 y) : FnV Tryz.prog 9 [c.d, .agg [wordsU a, wordsU b], wordsU y] (.bool true) := by
 refine fnV_of mixed tysOk Tryz.func9 rfl (ft := ft9) 3 (by decide +kernel) (by rfl) fun {σ} Y st => ?_
 conv=>whnf
 refine CallA_v (ch43 c) rfl rfl ?_
 conv=>whnf
 by_cases hv : (checkX c).2.2 = 0
 case neg =>
  refine brk_i (fun _ => ?_) (fun h => absurd h (by simp [valL, hv]))
  conv=>whnf
  refine DrawCall_v (ch42 _ _) rfl rfl ?_
  conv=>whnf
  refine DrawCall_v (ds := [c.d, Pt.d ⟨0, 0⟩]) (ch28 c ⟨0, 0⟩) rfl rfl ?_
  conv=>whnf
  have := open_bad hv ⟨0, 0⟩
  refine brk_i (fun _ => ?_) (fun h => absurd h (by simp [this]))
  conv=>whnf
  repeat' (first
   | (refine CallA_v (ch22) rfl rfl ?_; conv=>whnf)
   | (refine CallA_view (ch22) rfl 1 rfl ?_; conv=>whnf)
   | (refine DrawCall_v (ch22) rfl rfl ?_; conv=>whnf)
   | (refine DrawCall_view (ch22) rfl 1 rfl ?_; conv=>whnf)
   | (refine arith_in (wrap_i64 (by (try dsimp only); omega)) ?_; conv=>whnf)
   | (refine elemK_nat (by assumption) ?_; conv=>whnf)
   | (refine ownK_whole (by first | rfl | assumption | (simp [Els.len]; done) | (simp [Els.len]; omega)) ?_; conv=>whnf)
   | (refine chk_i (by first | (exact decide_eq_true (by (try simp only [List.length_map]); omega)) | (simp [Els.len, Els.cons, V.cells, Els.toV, injL]; done) | (simp [Els.len, Els.cons, V.cells, Els.toV, injL]; omega)) ?_; conv=>whnf)
   | fail)
  exact RetA_view 1 rfl ⟨⟨rfl, rfl⟩, rfl⟩
 have hR := checkX_ok hv
 have hsl := hR.sands
 refine brk_i (fun h => absurd h (by simp [valL, hv])) (fun _ => ?_)
 conv=>whnf
 refine CallA_v (ds := [c.d, wordsU y]) (ch44 c hR y hy) rfl rfl ?_
 have hp := near_pin c y
 generalize nearP c y = p at hp ⊢
 have ho := valid_open hv hp
 have hg := rad_good ho
 have hch : FnV Tryz.prog 28 [c.d, p.d] (.tup [i64 (radV c p), i64 0]) := FnV.cast (ch28 c p) (by rw [ho])
 generalize radV c p = r at hg hch
 obtain ⟨hr0, hr1, hclear, hmost⟩ := hg
 conv=>whnf
 refine CallA_v (ds := [c.d, p.d]) (fun {σ} => hch) rfl rfl ?_
 conv=>whnf
 refine brk_i (fun h => absurd (of_decide_eq_true h) (by omega)) (fun _ => ?_)
 conv=>whnf
 refine brk_i (fun h => absurd (of_decide_eq_true h) (by omega)) (fun _ => ?_)
 conv=>whnf
 have t4 := turn_bd hy 4
 refine CallA_v (ds := [wordsU y, i64 4]) (ch49 y hy 4) rfl rfl ?_
 conv=>whnf
 refine arith_in (wrap_i64 (by (try dsimp only); omega)) ?_
 conv=>whnf
 refine chk_i (decide_eq_true (by omega)) ?_
 conv=>whnf
 have hl0 := Int.tmod_nonneg (r + 1) t4.1
 have hl1 := Int.tmod_lt_of_pos (turnF y 4) (b := r + 1) (by omega)
 generalize (turnF y 4).tmod (r + 1) = less at hl0 hl1 ⊢
 refine CallA_v (ds := [c.d, p.d, i64 r]) (ch26n ho hR ⟨hr0, Int.le_refl _⟩ hr1 hclear) rfl rfl ?_
 conv=>whnf
 refine CallA_v (ds := [c.d, p.d, i64 less]) (ch26n ho hR ⟨hl0, by omega⟩ hr1 hclear) rfl rfl ?_
 conv=>whnf
 have hins : ∀ s ∈ c.sands, ∀ m ∈ movesL s.moves, insR s m p r = false := by
  unfold firstR at hclear
  rw [firstL_none] at hclear; exact hclear
 refine LoopA_i (T := tys) tysOk (by exact drawsB_spec mixed tysOk (by decide +kernel)) c.sands (fun i (_ : Unit) => ⟨[(3, .ptr 3 0), (4, .ptr 4 0), (9, .ptr 9 0), (10, .d (i64 r)), (19, .d (i64 i))], [(3, .box (.dd c.cells)), (4, .box (.dd [wordsU a, wordsU b])), (9, .box (.dd p.cells))], st⟩) (fun i l _ => True) () (Wk.sub ⟨(by first | rfl | (simp only [List.length_map]; rfl) | simp [PX.get]), (by first | rfl | (simp only [List.length_map]; rfl) | simp [PX.get]), (by first | rfl | (simp only [List.length_map]; rfl) | simp [PX.get]), (by first | rfl | (simp only [List.length_map]; rfl) | simp [PX.get]), (by first | rfl | (simp only [List.length_map]; rfl) | simp [PX.get]), trivial⟩ ⟨(by first | rfl | (simp only [List.length_map]; rfl) | simp [PX.get]), (by first | rfl | (simp only [List.length_map]; rfl) | simp [PX.get]), (by first | rfl | (simp only [List.length_map]; rfl) | simp [PX.get]), trivial⟩) trivial ?_ ?_
 ·rintro i s l _ hsi hi hil _
  have hsm := List.mem_of_getElem? hsi
  have hS := hR.sand s hsm
  have hmm := movP_mem hS ha i
  have hm := move_pin hS hmm
  have hq := cornP_pin hS hb
  have hfar := clear_far hS hr0 (hins s hsm _ hmm) hb
  conv=>whnf
  refine brk_i (fun _ => ?_) (fun h => absurd hi (by simpa using h))
  conv=>whnf
  refine elemK_nat hsi ?_
  conv=>whnf
  refine DrawCall_v (ds := [s.d, wordsU b]) (ch50 s hS b hb) rfl rfl ?_
  conv=>whnf
  refine elemK_nat hsi ?_
  conv=>whnf
  refine DrawCall_v (ds := [s.d, wordsU a, i64 i]) (ch47 s hS a ha i (by omega)) rfl rfl ?_
  generalize movP s a i = m at hmm hm hfar ⊢
  generalize cornP s b = q at hq hfar ⊢
  have q1 := hq.x
  have q2 := hq.y
  have m1 := hm.x
  have m2 := hm.y
  have p1 := hp.x
  have p2 := hp.y
  conv=>whnf
  refine arith_in (wrap_i64 (by (try dsimp only); omega)) ?_
  conv=>whnf
  refine arith_in (wrap_i64 (by (try dsimp only); omega)) ?_
  conv=>whnf
  refine arith_in (wrap_i64 (by (try dsimp only); omega)) ?_
  conv=>whnf
  refine arith_in (wrap_i64 (by (try dsimp only); omega)) ?_
  conv=>whnf
  refine arith_in (wrap_i64 (by (try dsimp only); omega)) ?_
  conv=>whnf
  refine arith_in (wrap_i64 (by (try dsimp only); omega)) ?_
  conv=>whnf
  have hf2 : 10000 * r * r ≤ (q.x + 100 * (m.x - p.x)) * (q.x + 100 * (m.x - p.x)) + (q.y + 100 * (m.y - p.y)) * (q.y + 100 * (m.y - p.y)) := hfar
  have dx : -5000000 ≤ q.x + 100 * (m.x - p.x) ∧ q.x + 100 * (m.x - p.x) ≤ 5000000 := by omega
  have dy : -5000000 ≤ q.y + 100 * (m.y - p.y) ∧ q.y + 100 * (m.y - p.y) ≤ 5000000 := by omega
  have sx := mul_b _ _ dx dx
  have sy := mul_b _ _ dy dy
  have sr := mul_b 50000000 5000 (show -50000000 ≤ 10000 * r ∧ 10000 * r ≤ 50000000 by omega) (show -5000 ≤ r ∧ r ≤ 5000 by omega)
  generalize q.x + 100 * (m.x - p.x) = X at *
  generalize q.y + 100 * (m.y - p.y) = Y' at *
  refine arith_in (wrap_i64 (by (try dsimp only); omega)) ?_
  conv=>whnf
  refine arith_in (wrap_i64 (by (try dsimp only); omega)) ?_
  conv=>whnf
  refine arith_in (wrap_i64 (by (try dsimp only); omega)) ?_
  conv=>whnf
  refine arith_in (wrap_i64 (by (try dsimp only); omega)) ?_
  conv=>whnf
  refine arith_in (wrap_i64 (by (try dsimp only); omega)) ?_
  conv=>whnf
  refine brk_i (fun h => absurd (of_decide_eq_true h) (by omega)) (fun _ => ?_)
  conv=>whnf
  refine arith_in (wrap_i64 (by (try dsimp only); omega)) ?_
  conv=>whnf
  exact ⟨(), trivial, (Wk.sub ⟨(by first | rfl | (simp only [List.length_map]; rfl) | simp [PX.get]), (by first | rfl | (simp only [List.length_map]; rfl) | simp [PX.get]), (by first | rfl | (simp only [List.length_map]; rfl) | simp [PX.get]), (by first | rfl | (simp only [List.length_map]; rfl) | simp [PX.get]), (by first | rfl | (simp only [List.length_map]; rfl) | simp [PX.get]), trivial⟩ ⟨(by first | rfl | (simp only [List.length_map]; rfl) | simp [PX.get]), (by first | rfl | (simp only [List.length_map]; rfl) | simp [PX.get]), (by first | rfl | (simp only [List.length_map]; rfl) | simp [PX.get]), trivial⟩)⟩
 ·rintro _ _
  conv=>whnf
  refine brk_i (fun h => absurd h (by simp)) (fun _ => ?_)
  conv=>whnf
  refine brk_i (fun h5 => ?_) (fun h5 => ?_)
  ·conv=>whnf
   repeat' (first
    | (refine CallA_v (ch22) rfl rfl ?_; conv=>whnf)
    | (refine CallA_view (ch22) rfl 1 rfl ?_; conv=>whnf)
    | (refine DrawCall_v (ch22) rfl rfl ?_; conv=>whnf)
    | (refine DrawCall_view (ch22) rfl 1 rfl ?_; conv=>whnf)
    | (refine arith_in (wrap_i64 (by (try dsimp only); omega)) ?_; conv=>whnf)
    | (refine elemK_nat (by assumption) ?_; conv=>whnf)
    | (refine ownK_whole (by first | rfl | assumption | (simp [Els.len]; done) | (simp [Els.len]; omega)) ?_; conv=>whnf)
    | (refine chk_i (by first | (exact decide_eq_true (by (try simp only [List.length_map]); omega)) | (simp [Els.len, Els.cons, V.cells, Els.toV, injL]; done) | (simp [Els.len, Els.cons, V.cells, Els.toV, injL]; omega)) ?_; conv=>whnf)
    | fail)
   exact RetA_view 1 rfl ⟨⟨rfl, rfl⟩, rfl⟩
  have h5 : r < 5000 := by have := of_decide_eq_false h5; omega
  obtain ⟨j, m, hf⟩ : ∃ j m, firstR c p (r + 1) = some (j, m) := by
   cases h : firstR c p (r + 1) with
   | none => exact absurd h (hmost h5)
   | some x => exact ⟨x.1, x.2, rfl⟩
  have hcs : FnV Tryz.prog 26 [c.d, p.d, i64 (r + 1)] (.tup [i64 j, m.d, i64 0]) := clear_some ho (by omega) hf
  obtain ⟨k, hk, s, hs, hfind, hbef⟩ := firstL_some hf
  have hk : j = (k : Int) := by omega
  subst hk
  have hkl : k < c.sands.length := (List.getElem?_eq_some_iff.1 hs).1
  have hS := hR.sand s (List.mem_of_getElem? hs)
  have hmm := List.mem_of_find?_eq_some hfind
  have hm := move_pin hS hmm
  have hbox := (mem_movesL _ _).1 hmm
  have him : insR s m p (r + 1) = true := by simpa using List.find?_some hfind
  have hlex := fun v hv hlt => find_before (moves_sorted s.moves) (v := v) hfind hv hlt
  conv=>whnf
  refine arith_in (wrap_i64 (by (try dsimp only); omega)) ?_
  conv=>whnf
  refine CallA_v (ds := [c.d, p.d, i64 (r + 1)]) (fun {σ} => hcs) rfl rfl ?_
  conv=>whnf
  refine brk_i (fun h => absurd (of_decide_eq_true h) (by simp; omega)) (fun _ => ?_)
  conv=>whnf
  refine elemK_nat hs ?_
  conv=>whnf
  refine brk_i (fun h => absurd (of_decide_eq_true h) (by omega)) (fun _ => ?_)
  conv=>whnf
  refine brk_i (fun h => absurd (of_decide_eq_true h) (by omega)) (fun _ => ?_)
  conv=>whnf
  refine brk_i (fun h => absurd (of_decide_eq_true h) (by omega)) (fun _ => ?_)
  conv=>whnf
  refine brk_i (fun h => absurd (of_decide_eq_true h) (by omega)) (fun _ => ?_)
  conv=>whnf
  refine elemK_nat hs ?_
  conv=>whnf
  refine arith_in (wrap_i64 (by (try dsimp only); omega)) ?_
  conv=>whnf
  refine DrawCall_v (ds := [s.d, m.d, p.d, i64 (r + 1)]) (ch51 s hS m p hm hp (r + 1) (by omega)) rfl rfl ?_
  rw [him]
  conv=>whnf
  refine LoopA_i (T := tys) tysOk (by exact drawsB_spec mixed tysOk (by decide +kernel)) (List.range k) (fun i (_ : Unit) => ⟨[(3, .ptr 3 0), (4, .ptr 4 0), (9, .ptr 9 0), (10, .d (i64 r)), (24, .d (i64 k)), (25, .ptr 25 0), (28, .d (i64 i))], [(3, .box (.dd c.cells)), (4, .box (.dd [wordsU a, wordsU b])), (9, .box (.dd p.cells)), (25, .box (.dd m.cells))], st⟩) (fun i l _ => True) () (Wk.sub ⟨(by first | rfl | (simp only [List.length_map]; rfl) | simp [PX.get]), (by first | rfl | (simp only [List.length_map]; rfl) | simp [PX.get]), (by first | rfl | (simp only [List.length_map]; rfl) | simp [PX.get]), (by first | rfl | (simp only [List.length_map]; rfl) | simp [PX.get]), (by first | rfl | (simp only [List.length_map]; rfl) | simp [PX.get]), (by first | rfl | (simp only [List.length_map]; rfl) | simp [PX.get]), (by first | rfl | (simp only [List.length_map]; rfl) | simp [PX.get]), trivial⟩ ⟨(by first | rfl | (simp only [List.length_map]; rfl) | simp [PX.get]), (by first | rfl | (simp only [List.length_map]; rfl) | simp [PX.get]), (by first | rfl | (simp only [List.length_map]; rfl) | simp [PX.get]), (by first | rfl | (simp only [List.length_map]; rfl) | simp [PX.get]), trivial⟩) trivial ?_ ?_
  ·rintro i i' l _ hii hi hil _
   have hik : i < k := by simpa using hi
   obtain ⟨t, ht⟩ : ∃ t, c.sands[i]? = some t := ⟨_, List.getElem?_eq_getElem (by omega)⟩
   have hT := hR.sand t (List.mem_of_getElem? ht)
   have htm := movP_mem hT ha i
   have hno := hbef i hik t ht _ htm
   conv=>whnf
   refine brk_i (fun _ => ?_) (fun h => absurd (of_decide_eq_false h) (by omega))
   conv=>whnf
   refine elemK_nat ht ?_
   conv=>whnf
   refine elemK_nat ht ?_
   conv=>whnf
   refine DrawCall_v (ds := [t.d, wordsU a, i64 i]) (ch47 t hT a ha i (by omega)) rfl rfl ?_
   conv=>whnf
   refine arith_in (wrap_i64 (by (try dsimp only); omega)) ?_
   conv=>whnf
   refine DrawCall_v (ds := [t.d, (movP t a i).d, p.d, i64 (r + 1)]) (ch51 t hT _ p (move_pin hT htm) hp (r + 1) (by omega)) rfl rfl ?_
   rw [hno]
   conv=>whnf
   refine arith_in (wrap_i64 (by (try dsimp only); omega)) ?_
   conv=>whnf
   exact ⟨(), trivial, (Wk.sub ⟨(by first | rfl | (simp only [List.length_map]; rfl) | simp [PX.get]), (by first | rfl | (simp only [List.length_map]; rfl) | simp [PX.get]), (by first | rfl | (simp only [List.length_map]; rfl) | simp [PX.get]), (by first | rfl | (simp only [List.length_map]; rfl) | simp [PX.get]), (by first | rfl | (simp only [List.length_map]; rfl) | simp [PX.get]), (by first | rfl | (simp only [List.length_map]; rfl) | simp [PX.get]), (by first | rfl | (simp only [List.length_map]; rfl) | simp [PX.get]), trivial⟩ ⟨(by first | rfl | (simp only [List.length_map]; rfl) | simp [PX.get]), (by first | rfl | (simp only [List.length_map]; rfl) | simp [PX.get]), (by first | rfl | (simp only [List.length_map]; rfl) | simp [PX.get]), (by first | rfl | (simp only [List.length_map]; rfl) | simp [PX.get]), trivial⟩)⟩
  ·rintro _ _
   have hvm := movP_mem hS ha k
   conv=>whnf
   refine brk_i (fun h => absurd (of_decide_eq_true h) (by simp)) (fun _ => ?_)
   conv=>whnf
   refine elemK_nat hs ?_
   conv=>whnf
   refine DrawCall_v (ds := [s.d, wordsU a, i64 k]) (ch47 s hS a ha k (by omega)) rfl rfl ?_
   generalize movP s a k = v at hvm ⊢
   have hv := move_pin hS hvm
   conv=>whnf
   refine brk_i (fun h6 => ?_) (fun h6 => ?_)
   ·have hno := hlex v hvm (.inl (of_decide_eq_true h6))
    conv=>whnf
    refine elemK_nat hs ?_
    conv=>whnf
    refine arith_in (wrap_i64 (by (try dsimp only); omega)) ?_
    conv=>whnf
    refine DrawCall_v (ds := [s.d, v.d, p.d, i64 (r + 1)]) (ch51 s hS v p hv hp (r + 1) (by omega)) rfl rfl ?_
    rw [hno]
    conv=>whnf
    repeat' (first
     | (refine CallA_v (ch22) rfl rfl ?_; conv=>whnf)
     | (refine CallA_view (ch22) rfl 1 rfl ?_; conv=>whnf)
     | (refine DrawCall_v (ch22) rfl rfl ?_; conv=>whnf)
     | (refine DrawCall_view (ch22) rfl 1 rfl ?_; conv=>whnf)
     | (refine arith_in (wrap_i64 (by (try dsimp only); omega)) ?_; conv=>whnf)
     | (refine elemK_nat (by assumption) ?_; conv=>whnf)
     | (refine ownK_whole (by first | rfl | assumption | (simp [Els.len]; done) | (simp [Els.len]; omega)) ?_; conv=>whnf)
     | (refine chk_i (by first | (exact decide_eq_true (by (try simp only [List.length_map]); omega)) | (simp [Els.len, Els.cons, V.cells, Els.toV, injL]; done) | (simp [Els.len, Els.cons, V.cells, Els.toV, injL]; omega)) ?_; conv=>whnf)
     | fail)
    exact RetA_view 1 rfl ⟨⟨rfl, rfl⟩, rfl⟩
   ·have h6 : ¬ v.x < m.x := of_decide_eq_false h6
    conv=>whnf
    refine brk_i (fun h7 => ?_) (fun h7 => ?_)
    ·have h7 : v.x = m.x := of_decide_eq_true h7
     conv=>whnf
     refine brk_i (fun h8 => ?_) (fun h8 => ?_)
     ·have hno := hlex v hvm (.inr ⟨h7, of_decide_eq_true h8⟩)
      conv=>whnf
      refine elemK_nat hs ?_
      conv=>whnf
      refine arith_in (wrap_i64 (by (try dsimp only); omega)) ?_
      conv=>whnf
      refine DrawCall_v (ds := [s.d, v.d, p.d, i64 (r + 1)]) (ch51 s hS v p hv hp (r + 1) (by omega)) rfl rfl ?_
      rw [hno]
      conv=>whnf
      repeat' (first
       | (refine CallA_v (ch22) rfl rfl ?_; conv=>whnf)
       | (refine CallA_view (ch22) rfl 1 rfl ?_; conv=>whnf)
       | (refine DrawCall_v (ch22) rfl rfl ?_; conv=>whnf)
       | (refine DrawCall_view (ch22) rfl 1 rfl ?_; conv=>whnf)
       | (refine arith_in (wrap_i64 (by (try dsimp only); omega)) ?_; conv=>whnf)
       | (refine elemK_nat (by assumption) ?_; conv=>whnf)
       | (refine ownK_whole (by first | rfl | assumption | (simp [Els.len]; done) | (simp [Els.len]; omega)) ?_; conv=>whnf)
       | (refine chk_i (by first | (exact decide_eq_true (by (try simp only [List.length_map]); omega)) | (simp [Els.len, Els.cons, V.cells, Els.toV, injL]; done) | (simp [Els.len, Els.cons, V.cells, Els.toV, injL]; omega)) ?_; conv=>whnf)
       | fail)
      exact RetA_view 1 rfl ⟨⟨rfl, rfl⟩, rfl⟩
     ·conv=>whnf
      repeat' (first
       | (refine CallA_v (ch22) rfl rfl ?_; conv=>whnf)
       | (refine CallA_view (ch22) rfl 1 rfl ?_; conv=>whnf)
       | (refine DrawCall_v (ch22) rfl rfl ?_; conv=>whnf)
       | (refine DrawCall_view (ch22) rfl 1 rfl ?_; conv=>whnf)
       | (refine arith_in (wrap_i64 (by (try dsimp only); omega)) ?_; conv=>whnf)
       | (refine elemK_nat (by assumption) ?_; conv=>whnf)
       | (refine ownK_whole (by first | rfl | assumption | (simp [Els.len]; done) | (simp [Els.len]; omega)) ?_; conv=>whnf)
       | (refine chk_i (by first | (exact decide_eq_true (by (try simp only [List.length_map]); omega)) | (simp [Els.len, Els.cons, V.cells, Els.toV, injL]; done) | (simp [Els.len, Els.cons, V.cells, Els.toV, injL]; omega)) ?_; conv=>whnf)
       | fail)
      exact RetA_view 1 rfl ⟨⟨rfl, rfl⟩, rfl⟩
    ·conv=>whnf
     repeat' (first
      | (refine CallA_v (ch22) rfl rfl ?_; conv=>whnf)
      | (refine CallA_view (ch22) rfl 1 rfl ?_; conv=>whnf)
      | (refine DrawCall_v (ch22) rfl rfl ?_; conv=>whnf)
      | (refine DrawCall_view (ch22) rfl 1 rfl ?_; conv=>whnf)
      | (refine arith_in (wrap_i64 (by (try dsimp only); omega)) ?_; conv=>whnf)
      | (refine elemK_nat (by assumption) ?_; conv=>whnf)
      | (refine ownK_whole (by first | rfl | assumption | (simp [Els.len]; done) | (simp [Els.len]; omega)) ?_; conv=>whnf)
      | (refine chk_i (by first | (exact decide_eq_true (by (try simp only [List.length_map]); omega)) | (simp [Els.len, Els.cons, V.cells, Els.toV, injL]; done) | (simp [Els.len, Els.cons, V.cells, Els.toV, injL]; omega)) ?_; conv=>whnf)
      | fail)
     exact RetA_view 1 rfl ⟨⟨rfl, rfl⟩, rfl⟩
end Go.PX
