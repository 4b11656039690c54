import Derived.Test.YtboaolnlajoanaaGreatDoorPxM
import Derived.Test.YtboaolnlajoanaaGreatDoorPxH
import Derived.Test.YtboaolnlajoanaaGreatDoorPxI
import Derived.Test.YtboaolnlajoanaaGreatDoorPxK
import Derived.Test.YtboaolnlajoanaaGreatDoorPxN
import Derived.Test.YtboaolnlajoanaaGreatDoorPxL
set_option linter.all false
set_option maxRecDepth 10000
namespace Go.PX
open Go.Proofs
def ptsE (c : Cht) (day k : Int) (b : Box) : Int := if stdE c day k = 0 then boxE 30000 b else stdE c day k
theorem cntF_ge (v : Pt) : ∀ (l : List Pt) (n : Int), n ≤ cntF v l n ∧ cntF v l n ≤ n + l.length
 | [], n => by simp [cntF]
 | q :: r, n => by
  have := cntF_ge v r (if leftF q v ≤ 0 then n + 1 else n)
  rw [cntF, List.length_cons]
  split at this <;> split <;> first | omega | contradiction
theorem turnN_quad {v : Pt} (hz : NZ v) : 0 ≤ (turnN (quadN v) v).x := by
 unfold NZ at hz
 unfold quadN
 split
 ·show 0 ≤ v.x; omega
 ·split
  ·show 0 ≤ -v.y; omega
  ·split
   ·show 0 ≤ -v.x; omega
   ·show 0 ≤ - -v.y; omega
theorem towF_in {v : Pt} (hz : NZ v) : 0 ≤ towF v ∧ towF v ≤ 31 := by
 have hx := turnN_quad hz
 have hq := quad_le v
 unfold towF
 generalize turnN (quadN v) v = u at hx ⊢
 have h1 : leftF ⟨0, 1000⟩ u ≤ 0 := by
  unfold leftF
  simp only
  omega
 have h2 := cntF_ge u quarterL (8 * quadN v)
 have h3 : cntF u quarterL (8 * quadN v) = cntF u quarterL.tail (8 * quadN v + 1) := by
  show cntF u (⟨0, 1000⟩ :: quarterL.tail) _ = _
  rw [cntF, if_pos h1]
 have h4 := cntF_ge u quarterL.tail (8 * quadN v + 1)
 have h5 : quarterL.length = 8 := rfl
 omega
def cfD (f : Nat → Int) : List D := [i64 (f 0), i64 (f 1), i64 (f 2), i64 (f 3), i64 (f 4), i64 (f 5), i64 (f 6), i64 (f 7), i64 (f 8), i64 (f 9), i64 (f 10), i64 (f 11), i64 (f 12), i64 (f 13), i64 (f 14), i64 (f 15), i64 (f 16), i64 (f 17), i64 (f 18), i64 (f 19), i64 (f 20), i64 (f 21), i64 (f 22), i64 (f 23), i64 (f 24), i64 (f 25), i64 (f 26), i64 (f 27), i64 (f 28), i64 (f 29), i64 (f 30), i64 (f 31)]
def cntStep (m : Pt) (f : Nat → Int) (p : Pt) : Nat → Int := if p.x = m.x ∧ p.y = m.y then f else fun q => if q = (towF (m.sub p)).toNat then f q + 1 else f q
def colF (m : Pt) (x : Int) (ys : List Int) (f : Nat → Int) : Nat → Int := ys.foldl (fun f y => cntStep m f ⟨x, y⟩) f
def gridF (m : Pt) (ys : List Int) (xs : List Int) (f : Nat → Int) : Nat → Int := xs.foldl (fun f x => colF m x ys f) f
def spanL (s : Span) : List Int := upX (s.hi - s.lo + 1).toNat s.lo
def dirsL (f : Nat → Int) (l : List Nat) : List Int := (l.filter fun p => decide (0 < f p)).map fun (p : Nat) => (p : Int)
def ptsL (c : Cht) (day k : Int) (b : Box) : List Int := if ptsE c day k b = 0 then dirsL (gridF (marM c day k).at' (spanL b.y) (spanL b.x) fun _ => 0) (List.range 32) else []
theorem getC {f : Nat → Int} {o k : Nat} (hk : k < 32) (ho : o = k) {t : TyI} (ht : t.isAgg = false) {K : V → Prop} (h : K (.d (i64 (f k)))) : Cells.getK t (.dd (cfD f)) o K := by
 subst ho
 unfold Cells.getK
 rw [ht]
 match o, hk with
  | 0, _ => exact h
  | 1, _ => exact h
  | 2, _ => exact h
  | 3, _ => exact h
  | 4, _ => exact h
  | 5, _ => exact h
  | 6, _ => exact h
  | 7, _ => exact h
  | 8, _ => exact h
  | 9, _ => exact h
  | 10, _ => exact h
  | 11, _ => exact h
  | 12, _ => exact h
  | 13, _ => exact h
  | 14, _ => exact h
  | 15, _ => exact h
  | 16, _ => exact h
  | 17, _ => exact h
  | 18, _ => exact h
  | 19, _ => exact h
  | 20, _ => exact h
  | 21, _ => exact h
  | 22, _ => exact h
  | 23, _ => exact h
  | 24, _ => exact h
  | 25, _ => exact h
  | 26, _ => exact h
  | 27, _ => exact h
  | 28, _ => exact h
  | 29, _ => exact h
  | 30, _ => exact h
  | 31, _ => exact h
  | k + 32, hk => exact absurd hk (by omega)
set_option maxHeartbeats 4000000 in
theorem ch34 (c : Cht) (day k : Int) (b : Box) : FnV Tryz.prog 34 [c.d, i64 day, i64 k, b.d] (.tup [intsD (ptsL c day k b), i64 (ptsE c day k b)]) := by
 refine fnV_of mixed tysOk Tryz.func34 rfl (ft := ft34) 4 (by decide +kernel) (by rfl) fun {σ} Y st => ?_
 conv=>whnf
 refine CallA_v (ch79 c day k) rfl rfl ?_
 conv=>whnf
 by_cases h0 : stdE c day k = 0
 case neg =>
  have he : ptsE c day k b = stdE c day k := by unfold ptsE; rw [if_neg h0]
  have hL : ptsL c day k b = [] := by unfold ptsL; rw [if_neg (by rw [he]; exact h0)]
  rw [hL, he]
  rw [decide_eq_false h0]
  conv=>whnf
  refine brk_i (fun _ => ?_) (fun h1 => absurd h1 (by simp [h0]))
  conv=>whnf
  exact RetA_viewR 0 rfl rfl ⟨⟨rfl, rfl⟩, rfl⟩
 have he : ptsE c day k b = boxE 30000 b := by unfold ptsE; rw [if_pos h0]
 obtain ⟨hR, hmem⟩ := marM_ok (stdE_mar h0)
 have hmp := (hR.mark _ hmem).1
 rw [he, decide_eq_true h0]
 conv=>whnf
 refine CallA_v (ch85 b 30000 (by omega)) rfl rfl ?_
 conv=>whnf
 by_cases h1 : boxE 30000 b = 0
 case neg =>
  have hL : ptsL c day k b = [] := by unfold ptsL; rw [if_neg (by rw [he]; exact h1)]
  rw [hL]
  refine brk_i (fun _ => ?_) (fun h2 => absurd h2 (by simp [h1]))
  conv=>whnf
  exact RetA_viewR 0 rfl rfl ⟨⟨rfl, rfl⟩, rfl⟩
 have hL : ptsL c day k b = dirsL (gridF (marM c day k).at' (spanL b.y) (spanL b.x) fun _ => 0) (List.range 32) := by unfold ptsL; rw [if_pos (by rw [he]; exact h1)]
 rw [hL, h1]
 conv=>whnf
 generalize marM c day k = m at *
 clear hL he
 have hbx : (-30000 ≤ b.x.lo ∧ b.x.hi ≤ 30000 ∧ b.x.lo ≤ b.x.hi ∧ b.x.hi - b.x.lo ≤ 40) ∧ (-30000 ≤ b.y.lo ∧ b.y.hi ≤ 30000 ∧ b.y.lo ≤ b.y.hi ∧ b.y.hi - b.y.lo ≤ 40) := by
  unfold boxE at h1
  split at h1
  case isFalse => cases h1
  rename_i h5
  split at h1
  case isFalse => cases h1
  rename_i h6
  simp only [Bool.and_eq_true, inB_iff] at h5 h6
  omega
 generalize hG : gridF m.at' (spanL b.y) (spanL b.x) (fun _ => 0) = G
 have hlenx : (spanL b.x).length = (b.x.hi - b.x.lo + 1).toNat := upX_len _ _
 have hleny : (spanL b.y).length = (b.y.hi - b.y.lo + 1).toNat := upX_len _ _
 refine LoopA_i (T := tys) tysOk (by exact drawsB_spec mixed tysOk (by decide +kernel)) (spanL b.x) (fun i (f : Nat → Int) => ⟨[(7, .ptr 7 0), (8, .d .nils), (10, .ptr 10 0), (11, .ptr 11 0), (12, .d (i64 (b.x.lo + i)))], [(7, .box (.dd b.cells)), (10, .box (.dd m.cells)), (11, .box (.dd (cfD f)))], st⟩)
  (fun i xs f => G = gridF m.at' (spanL b.y) xs f ∧ ∀ q, q < 32 → 0 ≤ f q ∧ f q ≤ 41 * i) (fun _ => 0) (Wk.sub ⟨rfl, rfl, rfl, rfl, congrArg (fun z => some (V.d (i64 z))) (by simp), trivial⟩ ⟨rfl, rfl, rfl, trivial⟩) ⟨hG.symm, fun v hv => by simp⟩ ?_ ?_
 ·rintro i x xs f hxi hi hir ⟨hgf, hav⟩
  obtain ⟨hx1, hx2⟩ := upX_get hxi
  have hgf : G = gridF m.at' (spanL b.y) xs (colF m.at' x (spanL b.y) f) := hgf
  generalize hH : colF m.at' x (spanL b.y) f = H at hgf
  conv=>whnf
  refine brk_i (fun _ => ?_) (fun h => absurd h (by simp; omega))
  conv=>whnf
  refine LoopA_i (T := tys) tysOk (by exact drawsB_spec mixed tysOk (by decide +kernel)) (spanL b.y) (fun j (f : Nat → Int) => ⟨[(7, .ptr 7 0), (8, .d .nils), (10, .ptr 10 0), (11, .ptr 11 0), (12, .d (i64 (b.x.lo + i))), (13, .d (i64 (b.y.lo + j)))], [(7, .box (.dd b.cells)), (10, .box (.dd m.cells)), (11, .box (.dd (cfD f)))], st⟩)
   (fun j ys f => H = colF m.at' x ys f ∧ ∀ q, q < 32 → 0 ≤ f q ∧ f q ≤ 41 * i + j) f (Wk.sub ⟨rfl, rfl, rfl, rfl, rfl, congrArg (fun z => some (V.d (i64 z))) (by simp), trivial⟩ ⟨rfl, rfl, rfl, trivial⟩) ⟨hH.symm, fun v hv => by have := hav v hv; omega⟩ ?_ ?_
  ·rintro j y ys f hyj hj hjr ⟨hcf, hav⟩
   obtain ⟨hy1, hy2⟩ := upX_get hyj
   have hcf : H = colF m.at' x ys (cntStep m.at' f ⟨x, y⟩) := hcf
   subst hx1 hy1
   conv=>whnf
   refine brk_i (fun _ => ?_) (fun h => absurd h (by simp; omega))
   conv=>whnf
   refine brk_i (fun h3 => ?_) (fun h3 => ?_)
   ·have hq : Pin 30000 ⟨b.x.lo + i, b.y.lo + j⟩ := ⟨by simp only; omega, by simp only; omega⟩
    have hnz : NZ (m.at'.sub ⟨b.x.lo + i, b.y.lo + j⟩) := by
     show m.at'.x - (b.x.lo + i) ≠ 0 ∨ m.at'.y - (b.y.lo + j) ≠ 0
     simp at h3
     omega
    have hne : ¬ (b.x.lo + (i : Int) = m.at'.x ∧ b.y.lo + (j : Int) = m.at'.y) := by
     intro e
     have hnz : m.at'.x - (b.x.lo + i) ≠ 0 ∨ m.at'.y - (b.y.lo + j) ≠ 0 := hnz
     omega
    rw [cntStep, if_neg hne] at hcf
    conv=>whnf
    refine CallA_view (ds := [Pt.d ⟨b.x.lo + i, b.y.lo + j⟩, m.at'.d]) (ch81 ⟨b.x.lo + i, b.y.lo + j⟩ m.at' (hq.mono (by omega)) (hmp.mono (by omega))) rfl 1 rfl ?_
    conv=>whnf
    refine CallA_view (ds := [(m.at'.sub ⟨b.x.lo + i, b.y.lo + j⟩).d]) (ch80 (m.at'.sub ⟨b.x.lo + i, b.y.lo + j⟩) ((hmp.sub hq).mono (by omega)) hnz) rfl 1 rfl ?_
    have hti := towF_in hnz
    generalize hT : towF (m.at'.sub ⟨b.x.lo + i, b.y.lo + j⟩) = T at hti hcf ⊢
    obtain ⟨t, rfl⟩ : ∃ t : Nat, T = t := ⟨T.toNat, by omega⟩
    rw [Int.toNat_natCast] at hcf
    have ht : t < 32 := by omega
    have hb := hav t ht
    have hmore : ∀ q, q < 32 → 0 ≤ (if q = t then f q + 1 else f q) ∧ (if q = t then f q + 1 else f q) ≤ 41 * i + (j + 1) := by
     intro q hq
     have := hav q hq
     split <;> omega
    clear hT hti hnz hne hq
    have ht32 : t = 0 ∨ t = 1 ∨ t = 2 ∨ t = 3 ∨ t = 4 ∨ t = 5 ∨ t = 6 ∨ t = 7 ∨ t = 8 ∨ t = 9 ∨ t = 10 ∨ t = 11 ∨ t = 12 ∨ t = 13 ∨ t = 14 ∨ t = 15 ∨ t = 16 ∨ t = 17 ∨ t = 18 ∨ t = 19 ∨ t = 20 ∨ t = 21 ∨ t = 22 ∨ t = 23 ∨ t = 24 ∨ t = 25 ∨ t = 26 ∨ t = 27 ∨ t = 28 ∨ t = 29 ∨ t = 30 ∨ t = 31 := by omega
    clear ht
    rcases ht32 with rfl | rfl | rfl | rfl | rfl | rfl | rfl | rfl | rfl | rfl | rfl | rfl | rfl | rfl | rfl | rfl | rfl | rfl | rfl | rfl | rfl | rfl | rfl | rfl | rfl | rfl | rfl | rfl | rfl | rfl | rfl | rfl <;>
    ·conv=>whnf
     refine arith_in (wrap_i64 (by (try dsimp only); omega)) ?_
     conv=>whnf
     refine arith_in (wrap_i64 (by (try dsimp only); omega)) ?_
     conv=>whnf
     exact ⟨_, ⟨hcf, hmore⟩, Wk.sub ⟨rfl, rfl, rfl, rfl, rfl, congrArg (fun z => some (V.d (i64 z))) (by omega), trivial⟩ ⟨rfl, rfl, rfl, trivial⟩⟩
   ·have hne : b.x.lo + (i : Int) = m.at'.x ∧ b.y.lo + (j : Int) = m.at'.y := by
     simp at h3
     omega
    rw [cntStep, if_pos hne] at hcf
    conv=>whnf
    refine arith_in (wrap_i64 (by (try dsimp only); omega)) ?_
    conv=>whnf
    exact ⟨f, ⟨hcf, fun q hq => by have := hav q hq; omega⟩, Wk.sub ⟨rfl, rfl, rfl, rfl, rfl, congrArg (fun z => some (V.d (i64 z))) (by omega), trivial⟩ ⟨rfl, rfl, rfl, trivial⟩⟩
  ·rintro f ⟨hcf, hav⟩
   have hcf : H = f := hcf
   conv=>whnf
   refine brk_i (fun h => absurd h (by simp; omega)) (fun _ => ?_)
   conv=>whnf
   refine arith_in (wrap_i64 (by (try dsimp only); omega)) ?_
   conv=>whnf
   exact ⟨f, ⟨hcf ▸ hgf, fun q hq => by have := hav q hq; omega⟩, Wk.sub ⟨rfl, rfl, rfl, rfl, congrArg (fun z => some (V.d (i64 z))) (by omega), trivial⟩ ⟨rfl, rfl, rfl, trivial⟩⟩
 ·rintro f ⟨hgf, hav⟩
  have hgf : G = f := hgf
  subst hgf
  conv=>whnf
  refine brk_i (fun h => absurd h (by simp; omega)) (fun _ => ?_)
  conv=>whnf
  generalize hD : dirsL G (List.range 32) = DL
  refine LoopA_i (T := tys) tysOk (by exact drawsB_spec mixed tysOk (by decide +kernel)) (List.range 32) (fun i (acc : List Int) => ⟨[(8, .sl 77 1 0 acc.length), (67, .d (.agg (cfD G))), (68, .d (i64 i))], [(77, .arr 1 (.dd (acc.map fun n => [i64 n])))], st⟩)
   (fun i r acc => acc.length ≤ i ∧ DL = acc ++ dirsL G r) [] ((Wk.born 8 77 1 rfl rfl rfl).trans (Wk.sub ⟨(by first | rfl | (simp only [List.length_map]; rfl) | simp [PX.get]), (by first | rfl | (simp only [List.length_map]; rfl) | simp [PX.get]), (by first | rfl | (simp only [List.length_map]; rfl) | simp [PX.get]), trivial⟩ ⟨(by first | rfl | (simp only [List.length_map]; rfl) | simp [PX.get]), trivial⟩)) ⟨by simp, hD.symm⟩ ?_ ?_
  ·rintro i q r acc hqi hi hir ⟨hal, hDL⟩
   have hq : q = i := by
    rw [List.getElem?_range (by simpa using hi)] at hqi
    cases hqi; rfl
   subst hq
   have hi : q < 32 := by simpa using hi
   conv=>whnf
   refine brk_i (fun _ => ?_) (fun h => absurd h (by simp; omega))
   refine brk_i (fun _ => ?_) (fun h => absurd h (by simp; omega))
   refine getC hi (by show (q : Int).toNat * 1 = q; omega) rfl ?_
   conv=>whnf
   refine brk_i (fun h3 => ?_) (fun h3 => ?_)
   ·have h3 : 0 < G q := of_decide_eq_true h3
    have hDL : DL = (acc ++ [(q : Int)]) ++ dirsL G r := by rw [hDL]; simp [dirsL, h3]
    conv=>whnf
    refine ownK_whole rfl ?_
    conv=>whnf
    refine ownK_whole (by simp [Els.len]) ?_
    conv=>whnf
    refine chk_i (decide_eq_true (by show ((acc.map fun n => [i64 n]).length + 1) * 8 ≤ _; rw [List.length_map]; omega)) ?_
    conv=>whnf
    refine arith_in (wrap_i64 (by (try dsimp only); omega)) ?_
    conv=>whnf
    exact ⟨acc ++ [(q : Int)], ⟨by simp; omega, hDL⟩, Wk.sub ⟨congrArg (fun z : Nat => some (V.sl 77 1 0 z)) (by simp [Els.len]), rfl, congrArg (fun z => some (V.d (i64 z))) (by omega), trivial⟩ ⟨congrArg (fun z => some (Obj.arr 1 (.dd z))) (by simp), trivial⟩⟩
   ·have h3 : ¬ 0 < G q := of_decide_eq_false h3
    have hDL : DL = acc ++ dirsL G r := by rw [hDL]; simp [dirsL, h3]
    conv=>whnf
    refine arith_in (wrap_i64 (by (try dsimp only); omega)) ?_
    conv=>whnf
    exact ⟨acc, ⟨by omega, hDL⟩, Wk.sub ⟨rfl, rfl, congrArg (fun z => some (V.d (i64 z))) (by omega), trivial⟩ ⟨rfl, trivial⟩⟩
  ·rintro acc ⟨hal, hDL⟩
   have hDL : DL = acc := by rw [hDL]; simp [dirsL]
   rw [hDL]
   conv=>whnf
   refine RetA_view 1 (ds := [intsD acc, i64 0]) ?_ ⟨⟨rfl, rfl⟩, rfl⟩
   exact viewL_cons (viewV_sl rfl (by simp)) rfl
end Go.PX
namespace Go.PX
open Go.Proofs
deriving instance DecidableEq for Pt
deriving instance DecidableEq for Mark
deriving instance DecidableEq for Sand
deriving instance DecidableEq for Cht
theorem ch94 (a b : List Pt) (ha : a.length < 1000000) : FnV Tryz.prog 94 [ptsD a, ptsD b] (.bool (decide (a = b))) := by
 refine fnV_of mixed tysOk Tryz.func94 rfl (ft := ft94) 2 (by decide +kernel) (by rfl) fun {σ} Y st => ?_
 conv=>whnf
 refine brk_i (fun h0 => ?_) (fun h0 => ?_)
 ·have h0 : a.length ≠ b.length := by
   intro e; simp [e] at h0
  conv=>whnf
  rw [decide_eq_false (by rintro rfl; exact h0 rfl)]
  exact RetA_view 0 rfl ⟨⟨rfl, rfl⟩, rfl⟩
 ·have h0 : a.length = b.length := by
   have := h0
   simp at this; omega
  conv=>whnf
  refine LoopA_p (T := tys) tysOk (by exact drawsB_spec mixed tysOk (by decide +kernel)) (α := Nat) (fun i => ⟨[(0, .d (ptsD a)), (1, .d (ptsD b)), (5, .d (i64 i))], [], st⟩) (fun i => i ≤ a.length ∧ a.take i = b.take i) (fun i => a.length - i) 0
   (Wk.sub ⟨rfl, rfl, rfl, trivial⟩ trivial) (by simp) ?_
  rintro i ⟨hi, he⟩
  conv=>whnf
  refine brk_i (fun hc => ?_) (fun hc => ?_)
  ·have hc : i < a.length := by simpa using hc
   have hc' : i < b.length := by omega
   conv=>whnf
   refine elemK_i a[i].cells (by simp [hc]) ?_
   conv=>whnf
   refine elemK_i b[i].cells (by simp [hc']) ?_
   conv=>whnf
   refine brk_i (fun h1 => ?_) (fun h1 => ?_)
   ·conv=>whnf
    have h1 : a[i] ≠ b[i] := by
     intro e
     rw [e] at h1
     simp at h1
    rw [decide_eq_false (by rintro rfl; exact h1 rfl)]
    exact RetA_view 0 rfl ⟨⟨rfl, rfl⟩, rfl⟩
   ·have h1 : a[i] = b[i] := by
     cases hx : a[i] with
     | mk x y =>
      cases hy : b[i] with
      | mk u v =>
       rw [hx, hy] at h1
       simpa using h1
    refine arith_in (wrap_i64 (by (try dsimp only); omega)) ?_
    conv=>whnf
    exact ⟨i + 1, by omega, ⟨hc, by rw [List.take_succ_eq_append_getElem hc, List.take_succ_eq_append_getElem hc', he, h1]⟩, Wk.sub ⟨rfl, rfl, rfl, trivial⟩ trivial⟩
  ·have hc : ¬ i < a.length := by simpa using hc
   conv=>whnf
   rw [List.take_of_length_le (by omega), List.take_of_length_le (by omega)] at he
   rw [decide_eq_true he]
   exact RetA_view 0 rfl ⟨⟨rfl, rfl⟩, rfl⟩
theorem ch52 (a b c d : Int) : FnV Tryz.prog 52 [i64 a, i64 b, i64 c, i64 d] (Box.d ⟨⟨a, b⟩, ⟨c, d⟩⟩) := by
 refine fnV_of mixed tysOk Tryz.func52 rfl (ft := ft52) 4 (by decide +kernel) (by rfl) fun {σ} Y st => ?_
 conv=>whnf
 exact RetA_view 0 rfl ⟨⟨rfl, rfl⟩, rfl⟩
def exT : ByteArray := ⟨#[109, 97, 114, 107, 32, 99, 104, 117, 114, 99, 104, 32, 51, 48, 48, 48, 32, 52, 48, 48, 48, 32, 48, 32, 49, 32, 53, 48, 32, 50, 10, 109, 97, 114, 107, 32, 109, 105, 108, 108, 32, 45, 50, 48, 48, 48, 32, 48, 32, 49, 48, 32, 51, 32, 57, 48, 32, 48, 10, 115, 97, 110, 100, 32, 107, 110, 111, 108, 108, 32, 48, 32, 49, 48, 32, 45, 53, 32, 53, 32, 49, 48, 48, 32, 48, 32, 50, 48, 48, 32, 48, 32, 50, 48, 48, 32, 49, 48, 48, 32, 49, 48, 48, 32, 49, 48, 48, 10, 115, 97, 110, 100, 32, 115, 112, 105, 116, 32, 48, 32, 48, 32, 48, 32, 48, 32, 45, 51, 48, 48, 32, 45, 51, 48, 48, 32, 45, 49, 48, 48, 32, 45, 52, 48, 48, 32, 45, 50, 48, 48, 32, 45, 50, 48, 48, 10]⟩
def exC : Cht := ⟨[⟨⟨#[99, 104, 117, 114, 99, 104]⟩, ⟨3000, 4000⟩, [⟨0, 1⟩, ⟨50, 2⟩]⟩, ⟨⟨#[109, 105, 108, 108]⟩, ⟨-2000, 0⟩, [⟨10, 3⟩, ⟨90, 0⟩]⟩],
 [⟨⟨#[107, 110, 111, 108, 108]⟩, [⟨100, 0⟩, ⟨200, 0⟩, ⟨200, 100⟩, ⟨100, 100⟩], ⟨⟨0, 10⟩, ⟨-5, 5⟩⟩⟩, ⟨⟨#[115, 112, 105, 116]⟩, [⟨-300, -300⟩, ⟨-100, -400⟩, ⟨-200, -200⟩], ⟨⟨0, 0⟩, ⟨0, 0⟩⟩⟩]⟩
theorem ch69 : FnV Tryz.prog 69 [] (.str exT) := by
 refine fnV_of mixed tysOk Tryz.func69 rfl (ft := ft69) 0 (by decide +kernel) (by rfl) fun {σ} Y st => ?_
 conv=>whnf
 exact RetA_view 0 rfl ⟨⟨rfl, rfl⟩, rfl⟩
theorem ch41 : FnV Tryz.prog 41 [] exC.d := by
 refine fnV_of mixed tysOk Tryz.func41 rfl (ft := ft41) 0 (by decide +kernel) (by rfl) fun {σ} Y st => ?_
 conv=>whnf
 repeat' (first
  | (refine CallA_v (ch42 _ _) rfl rfl ?_; conv=>whnf)
  | (refine CallA_view (ch42 _ _) rfl 1 rfl ?_; conv=>whnf)
  | (refine DrawCall_v (ch42 _ _) rfl rfl ?_; conv=>whnf)
  | (refine DrawCall_view (ch42 _ _) rfl 1 rfl ?_; conv=>whnf)
  | (refine CallA_v (ch52 _ _ _ _) rfl rfl ?_; conv=>whnf)
  | (refine CallA_view (ch52 _ _ _ _) rfl 1 rfl ?_; conv=>whnf)
  | (refine DrawCall_v (ch52 _ _ _ _) rfl rfl ?_; conv=>whnf)
  | (refine DrawCall_view (ch52 _ _ _ _) rfl 1 rfl ?_; conv=>whnf)
  | (refine arith_in (wrap_i64 (by (try dsimp only); omega)) ?_; conv=>whnf)
  | (refine elemK_nat (by assumption) ?_; conv=>whnf)
  | (refine ownK_whole (by first | rfl | assumption | (simp [Els.len]; done) | (simp [Els.len]; omega)) ?_; conv=>whnf)
  | (refine chk_i (by first | (exact decide_eq_true (by (try simp only [List.length_map]); omega)) | (simp [Els.len, Els.cons, V.cells, Els.toV, injL]; done) | (simp [Els.len, Els.cons, V.cells, Els.toV, injL]; omega)) ?_; conv=>whnf)
  | fail)
 exact RetA_view 3 rfl ⟨⟨rfl, rfl⟩, rfl⟩
end Go.PX
namespace Go.PX
open Go.Proofs
structure FewC (c : Cht) : Prop where
 marks : c.marks.length < 1000000
 sands : c.sands.length < 1000000
 paints : ∀ m ∈ c.marks, m.paints.length < 1000000
 corners : ∀ s ∈ c.sands, s.corners.length < 1000000
set_option maxHeartbeats 4000000 in
theorem ch40 (a b : Cht) (ha : FewC a) : FnV Tryz.prog 40 [a.d, b.d] (.bool (decide (a = b))) := by
 refine fnV_of mixed tysOk Tryz.func40 rfl (ft := ft40) 2 (by decide +kernel) (by rfl) fun {σ} Y st => ?_
 conv=>whnf
 have hm1 := ha.marks
 have hs1 := ha.sands
 refine brk_i (fun h0 => ?_) (fun h0 => ?_)
 ·have h0 : a.marks.length ≠ b.marks.length := by
   intro e; simp [e] at h0
  conv=>whnf
  rw [decide_eq_false (by rintro rfl; exact h0 rfl)]
  exact RetA_view 0 rfl ⟨⟨rfl, rfl⟩, rfl⟩
 have hml : a.marks.length = b.marks.length := by
  have := h0
  simp at this; omega
 conv=>whnf
 refine brk_i (fun h0 => ?_) (fun h0 => ?_)
 ·have h0 : a.sands.length ≠ b.sands.length := by
   intro e; simp [e] at h0
  conv=>whnf
  rw [decide_eq_false (by rintro rfl; exact h0 rfl)]
  exact RetA_view 0 rfl ⟨⟨rfl, rfl⟩, rfl⟩
 have hsl : a.sands.length = b.sands.length := by
  have := h0
  simp at this; omega
 conv=>whnf
 refine LoopA_p (T := tys) tysOk (by exact drawsB_spec mixed tysOk (by decide +kernel)) (α := Nat) (fun i => ⟨[(2, .ptr 2 0), (3, .ptr 3 0), (5, .d (i64 i))], [(2, .box (.dd a.cells)), (3, .box (.dd b.cells))], st⟩) (fun i => i ≤ a.marks.length ∧ a.marks.take i = b.marks.take i) (fun i => a.marks.length - i) 0
  (Wk.sub ⟨(by first | rfl | (simp only [List.length_map]; rfl) | simp [PX.get]), (by first | rfl | (simp only [List.length_map]; rfl) | simp [PX.get]), (by first | rfl | (simp only [List.length_map]; rfl) | simp [PX.get]), trivial⟩ ⟨(by first | rfl | (simp only [List.length_map]; rfl) | simp [PX.get]), (by first | rfl | (simp only [List.length_map]; rfl) | simp [PX.get]), trivial⟩) (by simp) ?_
 rintro i ⟨hi, he⟩
 conv=>whnf
 refine brk_i (fun hc => ?_) (fun hc => ?_)
 ·have hc : i < a.marks.length := by simpa using hc
  have hc' : i < b.marks.length := by omega
  have hpl := ha.paints a.marks[i] (List.getElem_mem hc)
  have hne : a.marks[i] ≠ b.marks[i] → a ≠ b := by rintro h rfl; exact h rfl
  have hnx : a.marks[i] = b.marks[i] → a.marks.take (i + 1) = b.marks.take (i + 1) := fun h1 => by rw [List.take_succ_eq_append_getElem hc, List.take_succ_eq_append_getElem hc', he, h1]
  generalize hx : a.marks[i] = x at *
  generalize hy : b.marks[i] = y at *
  conv=>whnf
  refine elemK_i x.cells (by simp [hc, hx]) ?_
  conv=>whnf
  refine elemK_i y.cells (by simp [hc', hy]) ?_
  conv=>whnf
  refine brk_i (fun h1 => ?_) (fun h1 => ?_)
  ·have h1 : x ≠ y := by rintro rfl; simp at h1
   conv=>whnf
   rw [decide_eq_false (hne h1)]
   exact RetA_view 0 rfl ⟨⟨rfl, rfl⟩, rfl⟩
  have n1 : x.name = y.name := by simpa using h1
  conv=>whnf
  refine brk_i (fun h1 => ?_) (fun h1 => ?_)
  ·have h1 : x ≠ y := by rintro rfl; simp at h1
   conv=>whnf
   rw [decide_eq_false (hne h1)]
   exact RetA_view 0 rfl ⟨⟨rfl, rfl⟩, rfl⟩
  have n2 : x.at' = y.at' := by
   cases h4 : x.at' with
   | mk p q =>
    cases h5 : y.at' with
    | mk u v =>
     rw [h4, h5] at h1
     simpa using h1
  conv=>whnf
  refine brk_i (fun h1 => ?_) (fun h1 => ?_)
  ·have h1 : x ≠ y := by rintro rfl; simp at h1
   conv=>whnf
   rw [decide_eq_false (hne h1)]
   exact RetA_view 0 rfl ⟨⟨rfl, rfl⟩, rfl⟩
  have hxy : x.paints.length = y.paints.length := by
   have := h1
   simp at this; omega
  conv=>whnf
  refine LoopA_p (T := tys) tysOk (by exact drawsB_spec mixed tysOk (by decide +kernel)) (α := Nat) (fun k => ⟨[(2, .ptr 2 0), (3, .ptr 3 0), (5, .d (i64 i)), (6, .ptr 6 0), (7, .ptr 7 0), (8, .d (i64 k))], [(2, .box (.dd a.cells)), (3, .box (.dd b.cells)), (6, .box (.dd x.cells)), (7, .box (.dd y.cells))], st⟩) (fun k => k ≤ x.paints.length ∧ x.paints.take k = y.paints.take k) (fun k => x.paints.length - k) 0
   (Wk.sub ⟨(by first | rfl | (simp only [List.length_map]; rfl) | simp [PX.get]), (by first | rfl | (simp only [List.length_map]; rfl) | simp [PX.get]), (by first | rfl | (simp only [List.length_map]; rfl) | simp [PX.get]), (by first | rfl | (simp only [List.length_map]; rfl) | simp [PX.get]), (by first | rfl | (simp only [List.length_map]; rfl) | simp [PX.get]), (by first | rfl | (simp only [List.length_map]; rfl) | simp [PX.get]), trivial⟩ ⟨(by first | rfl | (simp only [List.length_map]; rfl) | simp [PX.get]), (by first | rfl | (simp only [List.length_map]; rfl) | simp [PX.get]), (by first | rfl | (simp only [List.length_map]; rfl) | simp [PX.get]), (by first | rfl | (simp only [List.length_map]; rfl) | simp [PX.get]), trivial⟩) (by simp) ?_
  rintro k ⟨hk, hke⟩
  conv=>whnf
  refine brk_i (fun hc2 => ?_) (fun hc2 => ?_)
  ·have hc2 : k < x.paints.length := by simpa using hc2
   have hc3 : k < y.paints.length := by omega
   conv=>whnf
   refine elemK_i x.paints[k].cells (by simp [hc2]) ?_
   conv=>whnf
   refine elemK_i y.paints[k].cells (by simp [hc3]) ?_
   conv=>whnf
   refine brk_i (fun h1 => ?_) (fun h1 => ?_)
   ·conv=>whnf
    have h1 : x.paints[k] ≠ y.paints[k] := by
     intro e
     rw [e] at h1
     simp at h1
    rw [decide_eq_false (hne (by rintro rfl; exact h1 rfl))]
    exact RetA_view 0 rfl ⟨⟨rfl, rfl⟩, rfl⟩
   ·have h1 : x.paints[k] = y.paints[k] := by
     cases hx : x.paints[k] with
     | mk p q =>
      cases hy : y.paints[k] with
      | mk u v =>
       rw [hx, hy] at h1
       simpa using h1
    refine arith_in (wrap_i64 (by (try dsimp only); omega)) ?_
    conv=>whnf
    exact ⟨k + 1, by omega, ⟨hc2, by rw [List.take_succ_eq_append_getElem hc2, List.take_succ_eq_append_getElem hc3, hke, h1]⟩, (Wk.sub ⟨(by first | rfl | (simp only [List.length_map]; rfl) | simp [PX.get]), (by first | rfl | (simp only [List.length_map]; rfl) | simp [PX.get]), (by first | rfl | (simp only [List.length_map]; rfl) | simp [PX.get]), (by first | rfl | (simp only [List.length_map]; rfl) | simp [PX.get]), (by first | rfl | (simp only [List.length_map]; rfl) | simp [PX.get]), (by first | rfl | (simp only [List.length_map]; rfl) | simp [PX.get]), trivial⟩ ⟨(by first | rfl | (simp only [List.length_map]; rfl) | simp [PX.get]), (by first | rfl | (simp only [List.length_map]; rfl) | simp [PX.get]), (by first | rfl | (simp only [List.length_map]; rfl) | simp [PX.get]), (by first | rfl | (simp only [List.length_map]; rfl) | simp [PX.get]), trivial⟩)⟩
  ·have hc2 : ¬ k < x.paints.length := by simpa using hc2
   rw [List.take_of_length_le (by omega), List.take_of_length_le (by omega)] at hke
   have hxe : x = y := by
    cases x; cases y
    simp only at n1 n2 hke
    rw [n1, n2, hke]
   conv=>whnf
   refine arith_in (wrap_i64 (by (try dsimp only); omega)) ?_
   conv=>whnf
   exact ⟨i + 1, by omega, ⟨hc, hnx hxe⟩, (Wk.sub ⟨(by first | rfl | (simp only [List.length_map]; rfl) | simp [PX.get]), (by first | rfl | (simp only [List.length_map]; rfl) | simp [PX.get]), (by first | rfl | (simp only [List.length_map]; rfl) | simp [PX.get]), trivial⟩ ⟨(by first | rfl | (simp only [List.length_map]; rfl) | simp [PX.get]), (by first | rfl | (simp only [List.length_map]; rfl) | simp [PX.get]), trivial⟩)⟩
 ·have hc : ¬ i < a.marks.length := by simpa using hc
  rw [List.take_of_length_le (by omega), List.take_of_length_le (by omega)] at he
  conv=>whnf
  refine LoopA_p (T := tys) tysOk (by exact drawsB_spec mixed tysOk (by decide +kernel)) (α := Nat) (fun i => ⟨[(2, .ptr 2 0), (3, .ptr 3 0), (9, .d (i64 i))], [(2, .box (.dd a.cells)), (3, .box (.dd b.cells))], st⟩) (fun i => i ≤ a.sands.length ∧ a.sands.take i = b.sands.take i) (fun i => a.sands.length - i) 0
   (Wk.sub ⟨(by first | rfl | (simp only [List.length_map]; rfl) | simp [PX.get]), (by first | rfl | (simp only [List.length_map]; rfl) | simp [PX.get]), (by first | rfl | (simp only [List.length_map]; rfl) | simp [PX.get]), trivial⟩ ⟨(by first | rfl | (simp only [List.length_map]; rfl) | simp [PX.get]), (by first | rfl | (simp only [List.length_map]; rfl) | simp [PX.get]), trivial⟩) (by simp) ?_
  rintro i ⟨hi, hes⟩
  conv=>whnf
  refine brk_i (fun hc => ?_) (fun hc => ?_)
  ·have hc : i < a.sands.length := by simpa using hc
   have hc' : i < b.sands.length := by omega
   have hpl := ha.corners a.sands[i] (List.getElem_mem hc)
   have hne : a.sands[i] ≠ b.sands[i] → a ≠ b := by rintro h rfl; exact h rfl
   have hnx : a.sands[i] = b.sands[i] → a.sands.take (i + 1) = b.sands.take (i + 1) := fun h1 => by rw [List.take_succ_eq_append_getElem hc, List.take_succ_eq_append_getElem hc', hes, h1]
   generalize hx : a.sands[i] = x at *
   generalize hy : b.sands[i] = y at *
   conv=>whnf
   refine elemK_i x.cells (by simp [hc, hx]) ?_
   conv=>whnf
   refine elemK_i y.cells (by simp [hc', hy]) ?_
   conv=>whnf
   refine brk_i (fun h1 => ?_) (fun h1 => ?_)
   ·have h1 : x ≠ y := by rintro rfl; simp at h1
    conv=>whnf
    rw [decide_eq_false (hne h1)]
    exact RetA_view 0 rfl ⟨⟨rfl, rfl⟩, rfl⟩
   have n1 : x.name = y.name := by simpa using h1
   conv=>whnf
   refine brk_i (fun h1 => ?_) (fun h1 => ?_)
   ·have h1 : x ≠ y := by rintro rfl; simp at h1
    conv=>whnf
    rw [decide_eq_false (hne h1)]
    exact RetA_view 0 rfl ⟨⟨rfl, rfl⟩, rfl⟩
   have n2 : x.moves = y.moves := by
    cases h4 : x.moves with
    | mk p q =>
     cases h5 : y.moves with
     | mk u v =>
      rw [h4, h5] at h1
      cases p; cases q; cases u; cases v
      simp at h1 ⊢
      exact h1
   conv=>whnf
   refine CallA_view (ch94 x.corners y.corners hpl) rfl 1 rfl ?_
   conv=>whnf
   refine brk_i (fun h1 => ?_) (fun h1 => ?_)
   ·have h1 : x ≠ y := by rintro rfl; simp at h1
    conv=>whnf
    rw [decide_eq_false (hne h1)]
    exact RetA_view 0 rfl ⟨⟨rfl, rfl⟩, rfl⟩
   have n3 : x.corners = y.corners := by simpa using h1
   have hxe : x = y := by
    cases x; cases y
    simp only at n1 n2 n3
    rw [n1, n2, n3]
   conv=>whnf
   refine arith_in (wrap_i64 (by (try dsimp only); omega)) ?_
   conv=>whnf
   exact ⟨i + 1, by omega, ⟨hc, hnx hxe⟩, (Wk.sub ⟨(by first | rfl | (simp only [List.length_map]; rfl) | simp [PX.get]), (by first | rfl | (simp only [List.length_map]; rfl) | simp [PX.get]), (by first | rfl | (simp only [List.length_map]; rfl) | simp [PX.get]), trivial⟩ ⟨(by first | rfl | (simp only [List.length_map]; rfl) | simp [PX.get]), (by first | rfl | (simp only [List.length_map]; rfl) | simp [PX.get]), trivial⟩)⟩
  ·have hc : ¬ i < a.sands.length := by simpa using hc
   rw [List.take_of_length_le (by omega), List.take_of_length_le (by omega)] at hes
   have hab : a = b := by
    cases a; cases b
    simp only at he hes
    rw [he, hes]
   conv=>whnf
   rw [decide_eq_true hab]
   exact RetA_view 0 rfl ⟨⟨rfl, rfl⟩, rfl⟩
end Go.PX
namespace Go.PX
open Go.Proofs
theorem e1 : vecV 31 = ⟨-195, 981⟩ ∧ vecE 31 = 0 := by decide +kernel
theorem e2 : onA exC ⟨150, 50⟩ = [0] ∧ onB exC ⟨150, 50⟩ = [0] ∧ openX exC ⟨150, 50⟩ = 0 := by decide +kernel
theorem e3 : onA exC ⟨205, 50⟩ = [] ∧ onB exC ⟨205, 50⟩ = [0] ∧ openX exC ⟨205, 50⟩ = 0 := by decide +kernel
theorem e4 : clearV exC ⟨0, 0⟩ 101 = (0, ⟨0, -5⟩) ∧ clearE exC ⟨0, 0⟩ 101 = 0 := by decide +kernel
theorem e5 : clearE exC ⟨0, 0⟩ 100 = 4 := by decide +kernel
theorem e6 : radV exC ⟨0, 0⟩ = 100 ∧ openX exC ⟨0, 0⟩ = 0 := by decide +kernel
theorem e7 : marC exC 50 0 = 2 ∧ marE exC 50 0 = 0 := by decide +kernel
theorem e8 : seenV exC 20 0 ⟨0, 0⟩ = 3 ∧ seenE exC 20 0 ⟨0, 0⟩ = 0 := by decide +kernel
theorem e9 : ptsL exC 20 1 ⟨⟨-2010, -1990⟩, ⟨0, 0⟩⟩ = [8, 24] ∧ ptsE exC 20 1 ⟨⟨-2010, -1990⟩, ⟨0, 0⟩⟩ = 0 := by decide +kernel
theorem e10 : writeX exC = exT ∧ (checkX exC).2.2 = 0 := by decide +kernel
theorem e11 : readX exT = (exC, 0) := by decide +kernel
theorem e12 : seenE exC 90 1 ⟨0, 0⟩ = 9 := by decide +kernel
end Go.PX
namespace Go.PX
open Go.Proofs
theorem a1 : FnV Tryz.prog 16 [i64 31] (.tup [Pt.d ⟨-195, 981⟩, i64 0]) := FnV.cast (ch16 31) (by rw [e1.1, e1.2])
theorem a2 : FnV Tryz.prog 23 [exC.d, Pt.d ⟨150, 50⟩] (.tup [intsD [0], intsD [0], i64 0]) := FnV.cast (ch23 exC ⟨150, 50⟩) (by rw [e2.1, e2.2.1, e2.2.2])
theorem a3 : FnV Tryz.prog 23 [exC.d, Pt.d ⟨205, 50⟩] (.tup [intsD [], intsD [0], i64 0]) := FnV.cast (ch23 exC ⟨205, 50⟩) (by rw [e3.1, e3.2.1, e3.2.2])
theorem a4 : FnV Tryz.prog 26 [exC.d, Pt.d ⟨0, 0⟩, i64 101] (.tup [i64 0, Pt.d ⟨0, -5⟩, i64 0]) := FnV.cast (ch26 exC ⟨0, 0⟩ 101) (by rw [e4.1, e4.2])
theorem a5 : FnV Tryz.prog 26 [exC.d, Pt.d ⟨0, 0⟩, i64 100] (.tup [i64 (clearV exC ⟨0, 0⟩ 100).1, (clearV exC ⟨0, 0⟩ 100).2.d, i64 4]) := FnV.cast (ch26 exC ⟨0, 0⟩ 100) (by rw [e5])
theorem a6 : FnV Tryz.prog 28 [exC.d, Pt.d ⟨0, 0⟩] (.tup [i64 100, i64 0]) := FnV.cast (ch28 exC ⟨0, 0⟩) (by rw [e6.1, e6.2])
theorem a7 : FnV Tryz.prog 30 [exC.d, i64 50, i64 0] (.tup [i64 2, i64 0]) := FnV.cast (ch30 exC 50 0) (by rw [e7.1, e7.2])
theorem a8 : FnV Tryz.prog 32 [exC.d, i64 20, i64 0, Pt.d ⟨0, 0⟩] (.tup [i64 3, i64 0]) := FnV.cast (ch32 exC 20 0 ⟨0, 0⟩) (by rw [e8.1, e8.2])
theorem a9 : FnV Tryz.prog 34 [exC.d, i64 20, i64 1, Box.d ⟨⟨-2010, -1990⟩, ⟨0, 0⟩⟩] (.tup [intsD [8, 24], i64 0]) := FnV.cast (ch34 exC 20 1 ⟨⟨-2010, -1990⟩, ⟨0, 0⟩⟩) (by rw [e9.1, e9.2])
theorem a10 : FnV Tryz.prog 36 [exC.d] (.tup [.str exT, i64 0]) := FnV.cast (ch36 exC) (by rw [e10.1, e10.2])
theorem a11 : FnV Tryz.prog 38 [.str exT] (.tup [exC.d, i64 0]) := FnV.cast (ch38 exT) (by rw [e11])
theorem a12 : FnV Tryz.prog 32 [exC.d, i64 90, i64 1, Pt.d ⟨0, 0⟩] (.tup [i64 (seenV exC 90 1 ⟨0, 0⟩), i64 9]) := FnV.cast (ch32 exC 90 1 ⟨0, 0⟩) (by rw [e12])
theorem few_ex : FewC exC := ⟨by decide, by decide, by decide, by decide⟩
theorem a13 : FnV Tryz.prog 40 [exC.d, exC.d] (.bool true) := FnV.cast (ch40 exC exC few_ex) (by simp)
theorem a14 : FnV Tryz.prog 18 [.str ⟨#[97, 45, 98]⟩] (.bool true) := FnV.cast (fn47 ⟨#[97, 45, 98]⟩) (congrArg D.bool (by decide +kernel))
theorem a15 : FnV Tryz.prog 18 [.str ⟨#[97, 45, 45, 98]⟩] (.bool false) := FnV.cast (fn47 ⟨#[97, 45, 45, 98]⟩) (congrArg D.bool (by decide +kernel))
theorem a16 (l : List Int) (hl : l.length < 1000000) : FnV Tryz.prog 25 [intsD l, intsD l] (.bool true) := FnV.cast (fn19 l l hl) (by simp)
set_option maxHeartbeats 8000000 in
theorem ch22 : FnV Tryz.prog 22 [] (.bool true) := by
 refine fnV_of mixed tysOk Tryz.func22 rfl (ft := ft22) 0 (by decide +kernel) (by rfl) fun {σ} Y st => ?_
 conv=>whnf
 repeat' (first
  | (refine CallA_v (a1) rfl rfl ?_; conv=>whnf)
  | (refine CallA_view (a1) rfl 1 rfl ?_; conv=>whnf)
  | (refine DrawCall_v (a1) rfl rfl ?_; conv=>whnf)
  | (refine DrawCall_view (a1) rfl 1 rfl ?_; conv=>whnf)
  | (refine CallA_v (ch41) rfl rfl ?_; conv=>whnf)
  | (refine CallA_view (ch41) rfl 1 rfl ?_; conv=>whnf)
  | (refine DrawCall_v (ch41) rfl rfl ?_; conv=>whnf)
  | (refine DrawCall_view (ch41) rfl 1 rfl ?_; conv=>whnf)
  | (refine CallA_v (ch42 _ _) rfl rfl ?_; conv=>whnf)
  | (refine CallA_view (ch42 _ _) rfl 1 rfl ?_; conv=>whnf)
  | (refine DrawCall_v (ch42 _ _) rfl rfl ?_; conv=>whnf)
  | (refine DrawCall_view (ch42 _ _) rfl 1 rfl ?_; conv=>whnf)
  | (refine CallA_v (ch52 _ _ _ _) rfl rfl ?_; conv=>whnf)
  | (refine CallA_view (ch52 _ _ _ _) rfl 1 rfl ?_; conv=>whnf)
  | (refine DrawCall_v (ch52 _ _ _ _) rfl rfl ?_; conv=>whnf)
  | (refine DrawCall_view (ch52 _ _ _ _) rfl 1 rfl ?_; conv=>whnf)
  | (refine CallA_v (a2) rfl rfl ?_; conv=>whnf)
  | (refine CallA_view (a2) rfl 1 rfl ?_; conv=>whnf)
  | (refine DrawCall_v (a2) rfl rfl ?_; conv=>whnf)
  | (refine DrawCall_view (a2) rfl 1 rfl ?_; conv=>whnf)
  | (refine CallA_v (a3) rfl rfl ?_; conv=>whnf)
  | (refine CallA_view (a3) rfl 1 rfl ?_; conv=>whnf)
  | (refine DrawCall_v (a3) rfl rfl ?_; conv=>whnf)
  | (refine DrawCall_view (a3) rfl 1 rfl ?_; conv=>whnf)
  | (refine CallA_v (a4) rfl rfl ?_; conv=>whnf)
  | (refine CallA_view (a4) rfl 1 rfl ?_; conv=>whnf)
  | (refine DrawCall_v (a4) rfl rfl ?_; conv=>whnf)
  | (refine DrawCall_view (a4) rfl 1 rfl ?_; conv=>whnf)
  | (refine CallA_v (a5) rfl rfl ?_; conv=>whnf)
  | (refine CallA_view (a5) rfl 1 rfl ?_; conv=>whnf)
  | (refine DrawCall_v (a5) rfl rfl ?_; conv=>whnf)
  | (refine DrawCall_view (a5) rfl 1 rfl ?_; conv=>whnf)
  | (refine CallA_v (a6) rfl rfl ?_; conv=>whnf)
  | (refine CallA_view (a6) rfl 1 rfl ?_; conv=>whnf)
  | (refine DrawCall_v (a6) rfl rfl ?_; conv=>whnf)
  | (refine DrawCall_view (a6) rfl 1 rfl ?_; conv=>whnf)
  | (refine CallA_v (a7) rfl rfl ?_; conv=>whnf)
  | (refine CallA_view (a7) rfl 1 rfl ?_; conv=>whnf)
  | (refine DrawCall_v (a7) rfl rfl ?_; conv=>whnf)
  | (refine DrawCall_view (a7) rfl 1 rfl ?_; conv=>whnf)
  | (refine CallA_v (a8) rfl rfl ?_; conv=>whnf)
  | (refine CallA_view (a8) rfl 1 rfl ?_; conv=>whnf)
  | (refine DrawCall_v (a8) rfl rfl ?_; conv=>whnf)
  | (refine DrawCall_view (a8) rfl 1 rfl ?_; conv=>whnf)
  | (refine CallA_v (a9) rfl rfl ?_; conv=>whnf)
  | (refine CallA_view (a9) rfl 1 rfl ?_; conv=>whnf)
  | (refine DrawCall_v (a9) rfl rfl ?_; conv=>whnf)
  | (refine DrawCall_view (a9) rfl 1 rfl ?_; conv=>whnf)
  | (refine CallA_v (a10) rfl rfl ?_; conv=>whnf)
  | (refine CallA_view (a10) rfl 1 rfl ?_; conv=>whnf)
  | (refine DrawCall_v (a10) rfl rfl ?_; conv=>whnf)
  | (refine DrawCall_view (a10) rfl 1 rfl ?_; conv=>whnf)
  | (refine CallA_v (ch69) rfl rfl ?_; conv=>whnf)
  | (refine CallA_view (ch69) rfl 1 rfl ?_; conv=>whnf)
  | (refine DrawCall_v (ch69) rfl rfl ?_; conv=>whnf)
  | (refine DrawCall_view (ch69) rfl 1 rfl ?_; conv=>whnf)
  | (refine CallA_v (a11) rfl rfl ?_; conv=>whnf)
  | (refine CallA_view (a11) rfl 1 rfl ?_; conv=>whnf)
  | (refine DrawCall_v (a11) rfl rfl ?_; conv=>whnf)
  | (refine DrawCall_view (a11) rfl 1 rfl ?_; conv=>whnf)
  | (refine CallA_v (a12) rfl rfl ?_; conv=>whnf)
  | (refine CallA_view (a12) rfl 1 rfl ?_; conv=>whnf)
  | (refine DrawCall_v (a12) rfl rfl ?_; conv=>whnf)
  | (refine DrawCall_view (a12) rfl 1 rfl ?_; conv=>whnf)
  | (refine CallA_v (a14) rfl rfl ?_; conv=>whnf)
  | (refine CallA_view (a14) rfl 1 rfl ?_; conv=>whnf)
  | (refine DrawCall_v (a14) rfl rfl ?_; conv=>whnf)
  | (refine DrawCall_view (a14) rfl 1 rfl ?_; conv=>whnf)
  | (refine CallA_v (a15) rfl rfl ?_; conv=>whnf)
  | (refine CallA_view (a15) rfl 1 rfl ?_; conv=>whnf)
  | (refine DrawCall_v (a15) rfl rfl ?_; conv=>whnf)
  | (refine DrawCall_view (a15) rfl 1 rfl ?_; conv=>whnf)
  | (refine CallA_v (a16 [0] (by decide)) rfl rfl ?_; conv=>whnf)
  | (refine CallA_view (a16 [0] (by decide)) rfl 1 rfl ?_; conv=>whnf)
  | (refine DrawCall_v (a16 [0] (by decide)) rfl rfl ?_; conv=>whnf)
  | (refine DrawCall_view (a16 [0] (by decide)) rfl 1 rfl ?_; conv=>whnf)
  | (refine CallA_v (a16 [8, 24] (by decide)) rfl rfl ?_; conv=>whnf)
  | (refine CallA_view (a16 [8, 24] (by decide)) rfl 1 rfl ?_; conv=>whnf)
  | (refine DrawCall_v (a16 [8, 24] (by decide)) rfl rfl ?_; conv=>whnf)
  | (refine DrawCall_view (a16 [8, 24] (by decide)) rfl 1 rfl ?_; conv=>whnf)
  | (refine CallA_v (a13) rfl rfl ?_; conv=>whnf)
  | (refine CallA_view (a13) rfl 1 rfl ?_; conv=>whnf)
  | (refine DrawCall_v (a13) rfl rfl ?_; conv=>whnf)
  | (refine DrawCall_view (a13) rfl 1 rfl ?_; conv=>whnf)
  | (refine arith_in (wrap_i64 (by (try dsimp only); omega)) ?_; conv=>whnf)
  | (refine elemK_nat (by assumption) ?_; conv=>whnf)
  | (refine ownK_whole (by first | rfl | assumption | (simp [Els.len]; done) | (simp [Els.len]; omega)) ?_; conv=>whnf)
  | (refine chk_i (by first | (exact decide_eq_true (by (try simp only [List.length_map]); omega)) | (simp [Els.len, Els.cons, V.cells, Els.toV, injL]; done) | (simp [Els.len, Els.cons, V.cells, Els.toV, injL]; omega)) ?_; conv=>whnf)
  | fail)
 exact RetA_view 0 rfl ⟨⟨rfl, rfl⟩, rfl⟩
end Go.PX
namespace Go.PX
open Go.Proofs
def atP (l : List Pt) (i : Nat) : Pt := (l[i]?).getD ⟨0, 0⟩
def cornerOk (l : List Pt) (i n : Nat) : Bool := decide (n = i) || decide (n = (i + 1) % l.length) || decide (0 < leftF ((atP l ((i + 1) % l.length)).sub (atP l i)) ((atP l n).sub (atP l i)))
def rowOk (l : List Pt) (i : Nat) : Bool := (List.range l.length).all (cornerOk l i)
def roundR (l : List Pt) : Bool := (List.range l.length).all (rowOk l)
theorem atP_get {l : List Pt} {i : Nat} (h : i < l.length) : l[i]? = some (atP l i) := by
 unfold atP
 simp [h]
theorem atP_mem {l : List Pt} {i : Nat} (h : i < l.length) : atP l i ∈ l := by
 unfold atP
 rw [List.getElem?_eq_getElem h]
 exact List.getElem_mem h
theorem range_get {n i q : Nat} (h : (List.range n)[i]? = some q) : q = i := by
 have hi : i < n := by simpa using (List.getElem?_eq_some_iff.1 h).1
 rw [List.getElem?_range hi] at h
 cases h; rfl
set_option maxHeartbeats 2000000 in
theorem ch106 (l : List Pt) (hl : l.length < 1000) (hp : ∀ p ∈ l, Pin 10000 p) : FnV Tryz.prog 106 [ptsD l] (.bool (roundR l)) := by
 refine fnV_of mixed tysOk Tryz.func106 rfl (ft := ft106) 1 (by decide +kernel) (by rfl) fun {σ} Y st => ?_
 conv=>whnf
 refine LoopA_i (T := tys) tysOk (by exact drawsB_spec mixed tysOk (by decide +kernel)) (List.range l.length) (fun i (_ : Unit) => ⟨[(0, .d (ptsD l)), (3, .d (i64 i))], [], st⟩) (fun i r _ => roundR l = r.all (rowOk l)) () (Wk.sub ⟨(by first | rfl | (simp only [List.length_map]; rfl) | simp [PX.get]), (by first | rfl | (simp only [List.length_map]; rfl) | simp [PX.get]), trivial⟩ trivial) rfl ?_ ?_
 ·rintro i q r _ hqi hi hr hk
  have hq := range_get hqi
  subst hq
  have hil : q < l.length := by simpa using hi
  rw [List.all_cons] at hk
  conv=>whnf
  refine brk_i (fun _ => ?_) (fun h => absurd h (by simp; omega))
  conv=>whnf
  refine arith_in (wrap_i64 (by (try dsimp only); omega)) ?_
  conv=>whnf
  have hk0 : ((q : Int) + 1).tmod (((l.map Pt.cells).length : Nat) : Int) = (((q + 1) % l.length : Nat) : Int) := by
   rw [List.length_map, Int.tmod_eq_emod_of_nonneg (by omega)]
   first | exact (Int.natCast_mod _ _).symm | exact (Int.natCast_emod _ _).symm | norm_cast
  rw [hk0]
  have hkl : (q + 1) % l.length < l.length := Nat.mod_lt _ (by omega)
  generalize hkk : (q + 1) % l.length = k at hkl
  refine brk_i (fun _ => ?_) (fun h => absurd h (by simp; rintro rfl; simp at hil))
  conv=>whnf
  refine LoopA_i (T := tys) tysOk (by exact drawsB_spec mixed tysOk (by decide +kernel)) (List.range l.length) (fun n (_ : Unit) => ⟨[(0, .d (ptsD l)), (3, .d (i64 q)), (4, .d (i64 k)), (5, .d (i64 n))], [], st⟩) (fun n r _ => rowOk l q = r.all (cornerOk l q)) () (Wk.sub ⟨(by first | rfl | (simp only [List.length_map]; rfl) | simp [PX.get]), (by first | rfl | (simp only [List.length_map]; rfl) | simp [PX.get]), (by first | rfl | (simp only [List.length_map]; rfl) | simp [PX.get]), (by first | rfl | (simp only [List.length_map]; rfl) | simp [PX.get]), trivial⟩ trivial) rfl ?_ ?_
  ·rintro n n' r2 _ hni hn hr2 hk2
   have hq2 := range_get hni
   subst hq2
   have hnl : n' < l.length := by simpa using hn
   rw [List.all_cons] at hk2
   have hpk := hp _ (atP_mem hkl)
   have hpq := hp _ (atP_mem hil)
   have hpn := hp _ (atP_mem hnl)
   conv=>whnf
   refine brk_i (fun _ => ?_) (fun h => absurd h (by simp; omega))
   conv=>whnf
   have hcor : cornerOk l q n' = (decide (n' = q) || decide (n' = k) || decide (0 < leftF ((atP l k).sub (atP l q)) ((atP l n').sub (atP l q)))) := by unfold cornerOk; rw [hkk]
   refine brk_i (fun h1 => ?_) (fun h1 => ?_)
   ·have h1 : n' ≠ q := by simp at h1; omega
    conv=>whnf
    refine brk_i (fun h2 => ?_) (fun h2 => ?_)
    ·have h2 : n' ≠ k := by simp at h2; omega
     rw [decide_eq_false h1, decide_eq_false h2, Bool.false_or, Bool.false_or] at hcor
     conv=>whnf
     refine elemK_nat (atP_get hkl) ?_
     conv=>whnf
     refine elemK_nat (atP_get hil) ?_
     conv=>whnf
     refine DrawCall_v (ds := [(atP l k).d, (atP l q).d]) (ch84 (atP l k) (atP l q) (hpk.mono (by omega)) (hpq.mono (by omega))) rfl rfl ?_
     conv=>whnf
     refine elemK_nat (atP_get hnl) ?_
     conv=>whnf
     refine elemK_nat (atP_get hil) ?_
     conv=>whnf
     refine DrawCall_v (ds := [(atP l n').d, (atP l q).d]) (ch84 (atP l n') (atP l q) (hpn.mono (by omega)) (hpq.mono (by omega))) rfl rfl ?_
     conv=>whnf
     refine DrawCall_v (ds := [((atP l k).sub (atP l q)).d, ((atP l n').sub (atP l q)).d]) (ch95 _ _ ((hpk.sub hpq).mono (by omega)) ((hpn.sub hpq).mono (by omega))) rfl rfl ?_
     conv=>whnf
     refine brk_i (fun h3 => ?_) (fun h3 => ?_)
     ·have h3 : leftF ((atP l k).sub (atP l q)) ((atP l n').sub (atP l q)) ≤ 0 := of_decide_eq_true h3
      rw [decide_eq_false (by omega)] at hcor
      rw [hcor, Bool.false_and] at hk2
      rw [hk2, Bool.false_and] at hk
      rw [hk]
      conv=>whnf
      exact RetA_view 0 rfl ⟨⟨rfl, rfl⟩, rfl⟩
     ·have h3 : ¬ leftF ((atP l k).sub (atP l q)) ((atP l n').sub (atP l q)) ≤ 0 := of_decide_eq_false h3
      rw [decide_eq_true (by omega)] at hcor
      rw [hcor, Bool.true_and] at hk2
      conv=>whnf
      refine arith_in (wrap_i64 (by (try dsimp only); omega)) ?_
      conv=>whnf
      exact ⟨(), hk2, Wk.sub ⟨rfl, rfl, rfl, congrArg (fun z => some (V.d (i64 z))) (by omega), trivial⟩ trivial⟩
    ·have h2 : n' = k := by simp at h2; omega
     rw [decide_eq_true h2, Bool.or_true, Bool.true_or] at hcor
     rw [hcor, Bool.true_and] at hk2
     conv=>whnf
     refine arith_in (wrap_i64 (by (try dsimp only); omega)) ?_
     conv=>whnf
     exact ⟨(), hk2, Wk.sub ⟨rfl, rfl, rfl, congrArg (fun z => some (V.d (i64 z))) (by omega), trivial⟩ trivial⟩
   ·have h1 : n' = q := by simp at h1; omega
    rw [decide_eq_true h1, Bool.true_or, Bool.true_or] at hcor
    rw [hcor, Bool.true_and] at hk2
    conv=>whnf
    refine arith_in (wrap_i64 (by (try dsimp only); omega)) ?_
    conv=>whnf
    exact ⟨(), hk2, Wk.sub ⟨rfl, rfl, rfl, congrArg (fun z => some (V.d (i64 z))) (by omega), trivial⟩ trivial⟩
  ·rintro _ hk2
   conv=>whnf
   refine brk_i (fun h => absurd h (by simp)) (fun _ => ?_)
   rw [hk2] at hk
   conv=>whnf
   refine arith_in (wrap_i64 (by (try dsimp only); omega)) ?_
   conv=>whnf
   exact ⟨(), hk, Wk.sub ⟨rfl, congrArg (fun z => some (V.d (i64 z))) (by omega), trivial⟩ trivial⟩
 ·rintro _ hk
  conv=>whnf
  refine brk_i (fun h => absurd h (by simp)) (fun _ => ?_)
  conv=>whnf
  rw [hk]
  exact RetA_view 0 rfl ⟨⟨rfl, rfl⟩, rfl⟩
end Go.PX
namespace Go.PX
open Go.Proofs
def sandR (s : Sand) : Int :=
 if inB s.corners.length 3 8 then (if (s.corners.all fun p => withinB 10000 p) then (if boxE 500 s.moves = 0 then (if roundR s.corners then 0 else 9) else boxE 500 s.moves) else 7) else 3
set_option maxHeartbeats 2000000 in
theorem ch68 (s : Sand) : FnV Tryz.prog 68 [s.d] (i64 (sandR s)) := by
 refine fnV_of mixed tysOk Tryz.func68 rfl (ft := ft68) 1 (by decide +kernel) (by rfl) fun {σ} Y st => ?_
 conv=>whnf
 refine CallA_view (fn118 s.corners.length 3 8) rfl 1 (by simp; rfl) ?_
 cases h1 : inB (s.corners.length : Int) 3 8 with
 | false =>
  have he : sandR s = 3 := by unfold sandR; rw [h1]; rfl
  rw [he]
  conv=>whnf
  exact RetA_view 0 rfl ⟨⟨rfl, rfl⟩, rfl⟩
 | true =>
  have h1b := h1
  rw [inB_iff] at h1
  have he : sandR s = if (s.corners.all fun p => withinB 10000 p) then (if boxE 500 s.moves = 0 then (if roundR s.corners then 0 else 9) else boxE 500 s.moves) else 7 := by unfold sandR; rw [h1b, if_pos rfl]
  conv=>whnf
  refine LoopA_i (T := tys) tysOk (by exact drawsB_spec mixed tysOk (by decide +kernel)) s.corners (fun i (_ : Unit) => ⟨[(1, .ptr 1 0), (3, .d (i64 i))], [(1, .box (.dd s.cells))], st⟩) (fun i r _ => (s.corners.all fun p => withinB 10000 p) = r.all fun p => withinB 10000 p) () (Wk.sub ⟨(by first | rfl | (simp only [List.length_map]; rfl) | simp [PX.get]), (by first | rfl | (simp only [List.length_map]; rfl) | simp [PX.get]), trivial⟩ ⟨(by first | rfl | (simp only [List.length_map]; rfl) | simp [PX.get]), trivial⟩) rfl ?_ ?_
  ·rintro i p r _ hpi hi hr hk
   rw [List.all_cons] at hk
   conv=>whnf
   refine brk_i (fun _ => ?_) (fun h => absurd hi (by simpa using h))
   conv=>whnf
   refine elemK_nat hpi ?_
   conv=>whnf
   refine CallA_view (ds := [p.d, i64 10000]) (ch55 p 10000 (by omega)) rfl 1 rfl ?_
   cases hw : withinB 10000 p with
   | false =>
    rw [hw, Bool.false_and] at hk
    rw [hk, if_neg (by simp)] at he
    rw [he]
    conv=>whnf
    exact RetA_view 0 rfl ⟨⟨rfl, rfl⟩, rfl⟩
   | true =>
    rw [hw, Bool.true_and] at hk
    conv=>whnf
    refine arith_in (wrap_i64 (by (try dsimp only); omega)) ?_
    conv=>whnf
    exact ⟨(), hk, (Wk.sub ⟨(by first | rfl | (simp only [List.length_map]; rfl) | simp [PX.get]), (by first | rfl | (simp only [List.length_map]; rfl) | simp [PX.get]), trivial⟩ ⟨(by first | rfl | (simp only [List.length_map]; rfl) | simp [PX.get]), trivial⟩)⟩
  ·rintro _ hk
   have hk : (s.corners.all fun p => withinB 10000 p) = true := hk
   rw [hk, if_pos rfl] at he
   have hp : ∀ p ∈ s.corners, Pin 10000 p := by
    intro p hp
    exact within_iff.1 (List.all_eq_true.1 hk p hp)
   conv=>whnf
   refine brk_i (fun h => absurd h (by simp)) (fun _ => ?_)
   conv=>whnf
   refine CallA_view (ds := [s.moves.d, i64 (-500), i64 500]) (ch56 s.moves 500 (by omega)) rfl 1 rfl ?_
   conv=>whnf
   refine brk_i (fun h3 => ?_) (fun h3 => ?_)
   ·have h3 : boxE 500 s.moves = 0 := by simpa using h3
    rw [if_pos h3] at he
    rw [h3]
    conv=>whnf
    refine CallA_view (ds := [ptsD s.corners]) (ch106 s.corners (by omega) hp) rfl 1 rfl ?_
    cases hr : roundR s.corners with
    | true =>
     rw [hr, if_pos rfl] at he
     rw [he]
     conv=>whnf
     exact RetA_view 0 rfl ⟨⟨rfl, rfl⟩, rfl⟩
    | false =>
     rw [hr, if_neg (by simp)] at he
     rw [he]
     conv=>whnf
     exact RetA_view 0 rfl ⟨⟨rfl, rfl⟩, rfl⟩
   ·have h3 : ¬ boxE 500 s.moves = 0 := by simpa using h3
    rw [if_neg h3] at he
    rw [he]
    conv=>whnf
    exact RetA_view 0 rfl ⟨⟨rfl, rfl⟩, rfl⟩
end Go.PX
namespace Go.PX
open Go.Proofs
def markER (ns : List ByteArray) (m : Mark) : Int :=
 if freshF m.name ns = 0 then (if farM m then 7 else paintE m.paints) else freshF m.name ns
def marksR : List ByteArray → Int → List Mark → (Int × Int) ⊕ List ByteArray
 | ns, _, [] => .inr ns
 | ns, i, m :: r => if markER ns m = 0 then marksR (ns ++ [m.name]) (i + 1) r else .inl (i, markER ns m)
def sandER (ns : List ByteArray) (s : Sand) : Int := if freshF s.name ns = 0 then sandR s else freshF s.name ns
def sandsR : List ByteArray → Int → List Sand → Int × Int × Int
 | _, _, [] => (0, 0, 0)
 | ns, i, s :: r => if sandER ns s = 0 then sandsR (ns ++ [s.name]) (i + 1) r else (2, i, sandER ns s)
def checkR (c : Cht) : Int × Int × Int :=
 if c.marks.length > 8 then (1, 0, 3) else match marksR [] 0 c.marks with
 | .inl (i, e) => (1, i, e)
 | .inr ns => if c.sands.length > 4 then (2, 0, 3) else sandsR ns 0 c.sands
def strsC (l : List ByteArray) : List (List D) := l.map fun s => [.str s]
set_option maxHeartbeats 4000000 in
theorem ch21 (c : Cht) : FnV Tryz.prog 21 [c.d] (.tup [i64 (checkR c).1, i64 (checkR c).2.1, i64 (checkR c).2.2]) := by
 refine fnV_of mixed tysOk Tryz.func21 rfl (ft := ft21) 1 (by decide +kernel) (by rfl) fun {σ} Y st => ?_
 conv=>whnf
 refine brk_i (fun h0 => ?_) (fun h0 => ?_)
 ·have h0 : c.marks.length > 8 := by have := of_decide_eq_true h0; simp at this; omega
  have he : checkR c = (1, 0, 3) := by unfold checkR; rw [if_pos h0]
  rw [he]
  conv=>whnf
  exact RetA_view 0 rfl ⟨⟨rfl, rfl⟩, rfl⟩
 have h0 : ¬ c.marks.length > 8 := by have := of_decide_eq_false h0; simp at this; omega
 have he : checkR c = match marksR [] 0 c.marks with
  | .inl (i, e) => (1, i, e)
  | .inr ns => if c.sands.length > 4 then (2, 0, 3) else sandsR ns 0 c.sands := by unfold checkR; rw [if_neg h0]
 conv=>whnf
 refine LoopA_i (T := tys) tysOk (by exact drawsB_spec mixed tysOk (by decide +kernel)) c.marks (fun i (ns : List ByteArray) => ⟨[(1, .ptr 1 0), (5, .sl 900001 1 0 ns.length), (6, .d (i64 i))], [(1, .box (.dd c.cells)), (900001, .arr 1 (.dd (strsC ns)))], st⟩) (fun i r ns => ns.length ≤ i ∧ marksR [] 0 c.marks = marksR ns i r) [] ((Wk.born 5 900001 1 rfl rfl rfl).trans (Wk.sub ⟨(by first | rfl | (simp only [List.length_map]; rfl) | simp [PX.get]), (by first | rfl | (simp only [List.length_map]; rfl) | simp [PX.get]), (by first | rfl | (simp only [List.length_map]; rfl) | simp [PX.get]), trivial⟩ ⟨(by first | rfl | (simp only [List.length_map]; rfl) | simp [PX.get]), (by first | rfl | (simp only [List.length_map]; rfl) | simp [PX.get]), trivial⟩)) ⟨by simp, rfl⟩ ?_ ?_
 ·rintro i m r ns hmi hi hr ⟨hns, hk⟩
  rw [marksR] at hk
  conv=>whnf
  refine brk_i (fun _ => ?_) (fun h => absurd hi (by simpa using h))
  conv=>whnf
  refine elemK_nat hmi ?_
  conv=>whnf
  refine CallA_view (fn91 m.name ns (by omega)) rfl 1 (viewL_cons rfl (viewL_cons (viewV_sl rfl (by simp [strsC])) rfl)) ?_
  conv=>whnf
  refine ownK_whole rfl ?_
  conv=>whnf
  refine ownK_whole (by simp [Els.len, strsC]) ?_
  conv=>whnf
  refine chk_i (decide_eq_true (by show ((strsC ns).length + 1) * 16 ≤ _; simp only [strsC, List.length_map]; omega)) ?_
  conv=>whnf
  by_cases hf : freshF m.name ns = 0
  case neg =>
   have hm : markER ns m = freshF m.name ns := by unfold markER; rw [if_neg hf]
   rw [hm, if_neg hf] at hk
   have he2 : checkR c = (1, (i : Int), freshF m.name ns) := by rw [he, hk]
   rw [he2, decide_eq_false hf]
   conv=>whnf
   refine brk_i (fun h => absurd h (by simp [hf])) (fun _ => ?_)
   conv=>whnf
   refine brk_i (fun _ => ?_) (fun h => absurd h (by simp [hf]))
   conv=>whnf
   exact RetA_view 0 rfl ⟨⟨rfl, rfl⟩, rfl⟩
  rw [decide_eq_true hf]
  conv=>whnf
  refine CallA_view (ds := [m.at'.d, i64 30000]) (ch55 m.at' 30000 (by omega)) rfl 1 rfl ?_
  cases hw : withinB 30000 m.at' with
  | false =>
   have hm : markER ns m = 7 := by unfold markER farM; rw [if_pos hf, hw]; rfl
   rw [hm, if_neg (by simp)] at hk
   have he2 : checkR c = (1, (i : Int), 7) := by rw [he, hk]
   rw [he2]
   conv=>whnf
   exact RetA_view 0 rfl ⟨⟨rfl, rfl⟩, rfl⟩
  | true =>
   have hm : markER ns m = paintE m.paints := by unfold markER farM; rw [if_pos hf, hw]; rfl
   rw [hm] at hk
   conv=>whnf
   refine brk_i (fun _ => ?_) (fun h => absurd h (by simp [hf]))
   conv=>whnf
   refine CallA_v (ch67 m.paints) rfl rfl ?_
   conv=>whnf
   refine brk_i (fun hp => ?_) (fun hp => ?_)
   ·have hp : ¬ paintE m.paints = 0 := by simpa using hp
    rw [if_neg hp] at hk
    have he2 : checkR c = (1, (i : Int), paintE m.paints) := by rw [he, hk]
    rw [he2]
    conv=>whnf
    exact RetA_view 0 rfl ⟨⟨rfl, rfl⟩, rfl⟩
   ·have hp : paintE m.paints = 0 := by simpa using hp
    rw [if_pos hp] at hk
    conv=>whnf
    refine arith_in (wrap_i64 (by (try dsimp only); omega)) ?_
    conv=>whnf
    exact ⟨ns ++ [m.name], ⟨by simp; omega, hk⟩, (Wk.move 35 900001 rfl rfl).trans (Wk.sub ⟨rfl, congrArg (fun z : Nat => some (V.sl 900001 1 0 z)) (by simp [Els.len, strsC]), congrArg (fun z => some (V.d (i64 z))) (by omega), trivial⟩ ⟨rfl, congrArg (fun z => some (Obj.arr 1 (.dd z))) (by simp [strsC]), trivial⟩)⟩
 ·rintro ns ⟨hns, hk⟩
  have he2 : checkR c = if c.sands.length > 4 then (2, 0, 3) else sandsR ns 0 c.sands := by rw [he, hk, marksR]
  conv=>whnf
  refine brk_i (fun h => absurd h (by simp)) (fun _ => ?_)
  conv=>whnf
  refine brk_i (fun h1 => ?_) (fun h1 => ?_)
  ·have h1 : c.sands.length > 4 := by have := of_decide_eq_true h1; simp at this; omega
   rw [if_pos h1] at he2
   rw [he2]
   conv=>whnf
   exact RetA_view 0 rfl ⟨⟨rfl, rfl⟩, rfl⟩
  have h1 : ¬ c.sands.length > 4 := by have := of_decide_eq_false h1; simp at this; omega
  rw [if_neg h1] at he2
  conv=>whnf
  refine LoopA_i (T := tys) tysOk (by exact drawsB_spec mixed tysOk (by decide +kernel)) c.sands (fun i (ns : List ByteArray) => ⟨[(1, .ptr 1 0), (5, .sl 900001 1 0 ns.length), (9, .d (i64 i))], [(1, .box (.dd c.cells)), (900001, .arr 1 (.dd (strsC ns)))], st⟩) (fun i r ns => ns.length ≤ 8 + i ∧ checkR c = sandsR ns i r) ns (Wk.sub ⟨(by first | rfl | (simp only [List.length_map]; rfl) | simp [PX.get]), (by first | rfl | (simp only [List.length_map]; rfl) | simp [PX.get]), (by first | rfl | (simp only [List.length_map]; rfl) | simp [PX.get]), trivial⟩ ⟨(by first | rfl | (simp only [List.length_map]; rfl) | simp [PX.get]), (by first | rfl | (simp only [List.length_map]; rfl) | simp [PX.get]), trivial⟩) ⟨by omega, he2⟩ ?_ ?_
  ·rintro i m r ns hmi hi hr ⟨hns, hk⟩
   rw [sandsR] at hk
   conv=>whnf
   refine brk_i (fun _ => ?_) (fun h => absurd hi (by simpa using h))
   conv=>whnf
   refine elemK_nat hmi ?_
   conv=>whnf
   refine CallA_view (fn91 m.name ns (by omega)) rfl 1 (viewL_cons rfl (viewL_cons (viewV_sl rfl (by simp [strsC])) rfl)) ?_
   conv=>whnf
   refine elemK_nat hmi ?_
   conv=>whnf
   refine ownK_whole rfl ?_
   conv=>whnf
   refine ownK_whole (by simp [Els.len, strsC]) ?_
   conv=>whnf
   refine chk_i (decide_eq_true (by show ((strsC ns).length + 1) * 16 ≤ _; simp only [strsC, List.length_map]; omega)) ?_
   conv=>whnf
   by_cases hf : freshF m.name ns = 0
   case neg =>
    have hm : sandER ns m = freshF m.name ns := by unfold sandER; rw [if_neg hf]
    rw [hm, if_neg hf] at hk
    rw [hk, decide_eq_false hf]
    conv=>whnf
    refine brk_i (fun _ => ?_) (fun h => absurd h (by simp [hf]))
    conv=>whnf
    exact RetA_view 0 rfl ⟨⟨rfl, rfl⟩, rfl⟩
   have hm : sandER ns m = sandR m := by unfold sandER; rw [if_pos hf]
   rw [hm] at hk
   rw [decide_eq_true hf]
   conv=>whnf
   refine elemK_nat hmi ?_
   conv=>whnf
   refine CallA_view (ds := [m.d]) (ch68 m) rfl 1 rfl ?_
   conv=>whnf
   refine brk_i (fun hp => ?_) (fun hp => ?_)
   ·have hp : ¬ sandR m = 0 := by simpa using hp
    rw [if_neg hp] at hk
    rw [hk]
    conv=>whnf
    exact RetA_view 0 rfl ⟨⟨rfl, rfl⟩, rfl⟩
   ·have hp : sandR m = 0 := by simpa using hp
    rw [if_pos hp] at hk
    conv=>whnf
    refine arith_in (wrap_i64 (by (try dsimp only); omega)) ?_
    conv=>whnf
    exact ⟨ns ++ [m.name], ⟨by simp; omega, hk⟩, (Wk.move 80 900001 rfl rfl).trans (Wk.sub ⟨rfl, congrArg (fun z : Nat => some (V.sl 900001 1 0 z)) (by simp [Els.len, strsC]), congrArg (fun z => some (V.d (i64 z))) (by omega), trivial⟩ ⟨rfl, congrArg (fun z => some (Obj.arr 1 (.dd z))) (by simp [strsC]), trivial⟩)⟩
  ·rintro ns ⟨hns, hk⟩
   rw [sandsR] at hk
   rw [hk]
   conv=>whnf
   refine brk_i (fun h => absurd h (by simp)) (fun _ => ?_)
   conv=>whnf
   exact RetA_view 0 rfl ⟨⟨rfl, rfl⟩, rfl⟩
end Go.PX
namespace Go.PX
open Go.Proofs
theorem rightL_count (x : Pt × Pt) : ∀ (l : List Pt) (n : Int), rightL x l n = n + (l.countP fun p => decide (leftF x.2 (p.sub x.1) ≤ 0) : Nat)
 | [], n => by simp [rightL]
 | p :: r, n => by
  rw [rightL, rightL_count x r, List.countP_cons]
  by_cases h : leftF x.2 (p.sub x.1) ≤ 0
  ·simp [h]; omega
  ·simp [h]
theorem map_atP (l : List Pt) : (List.range l.length).map (atP l) = l := by
 apply List.ext_getElem
 ·simp
 ·intro i h1 h2
  simp [atP, h2]
theorem count_two {l : List Nat} (hn : l.Nodup) {i k : Nat} (hi : i ∈ l) (hk : k ∈ l) (hik : i ≠ k) (g : Nat → Bool) (gi : g i = true) (gk : g k = true) : l.countP g = 2 ↔ ∀ n ∈ l, n ≠ i → n ≠ k → g n = false := by
 have hk1 : k ∈ l.erase i := (List.mem_erase_of_ne (Ne.symm hik)).2 hk
 have e1 : l.countP g = (l.erase i).countP g + 1 := by
  rw [(List.perm_cons_erase hi).countP_eq g, List.countP_cons_of_pos gi]
 have e2 : (l.erase i).countP g = ((l.erase i).erase k).countP g + 1 := by
  rw [(List.perm_cons_erase hk1).countP_eq g, List.countP_cons_of_pos gk]
 have e3 : l.countP g = 2 ↔ ((l.erase i).erase k).countP g = 0 := by omega
 rw [e3, List.countP_eq_zero]
 have hn1 : (l.erase i).Nodup := hn.erase i
 constructor
 ·intro h n hn' h1 h2
  have := h n (hn1.mem_erase_iff.2 ⟨h2, hn.mem_erase_iff.2 ⟨h1, hn'⟩⟩)
  simpa using this
 ·intro h n hn'
  obtain ⟨h2, h3⟩ := hn1.mem_erase_iff.1 hn'
  obtain ⟨h1, h4⟩ := hn.mem_erase_iff.1 h3
  simp [h n h4 h1 h2]
theorem side_row {s : Sand} (h3 : 3 ≤ s.corners.length) {i k : Nat} (hi : i < s.corners.length) (hk : k < s.corners.length) (hik : i ≠ k) (hki : (i + 1) % s.corners.length = k) :
  sideOk s (atP s.corners i, (atP s.corners k).sub (atP s.corners i)) = rowOk s.corners i := by
 have hz : ∀ b : Pt, leftF b ⟨0, 0⟩ = 0 := fun b => by simp [leftF]
 have hb : ∀ b : Pt, leftF b b = 0 := fun b => by simp [leftF, Int.mul_comm]
 have hs : ∀ b : Pt, b.sub b = ⟨0, 0⟩ := fun b => by simp [Pt.sub]
 generalize hl : s.corners = l at *
 generalize hbb : (atP l k).sub (atP l i) = b
 let g : Nat → Bool := fun n => decide (leftF b ((atP l n).sub (atP l i)) ≤ 0)
 have gi : g i = true := by show decide _ = true; rw [hs, hz]; rfl
 have gk : g k = true := by show decide _ = true; rw [hbb, hb]; rfl
 have hcnt : rightL (atP l i, b) l 0 = 2 ↔ ∀ n < l.length, n ≠ i → n ≠ k → g n = false := by
  have h1 := rightL_count (atP l i, b) l 0
  have h2 : (l.countP fun p => decide (leftF b (p.sub (atP l i)) ≤ 0)) = (List.range l.length).countP g := by
   have h5 := List.countP_map (p := fun p => decide (leftF b (p.sub (atP l i)) ≤ 0)) (f := atP l) (l := List.range l.length)
   rw [map_atP] at h5
   exact h5
  have h3 := count_two (List.nodup_range (n := l.length)) (List.mem_range.2 hi) (List.mem_range.2 hk) hik g gi gk
  rw [h1, h2]
  constructor
  ·intro h n hn
   exact h3.1 (by omega) n (List.mem_range.2 hn)
  ·intro h
   have := h3.2 fun n hn => h n (List.mem_range.1 hn)
   omega
 obtain ⟨t, ht, hti, htk⟩ : ∃ t < l.length, t ≠ i ∧ t ≠ k := by
  by_cases h0 : 0 ≠ i ∧ 0 ≠ k
  ·exact ⟨0, by omega, h0⟩
  by_cases h1 : 1 ≠ i ∧ 1 ≠ k
  ·exact ⟨1, by omega, h1⟩
  ·exact ⟨2, by omega, by omega, by omega⟩
 have hrow : rowOk l i = true ↔ ∀ n < l.length, n ≠ i → n ≠ k → 0 < leftF b ((atP l n).sub (atP l i)) := by
  unfold rowOk
  rw [List.all_eq_true]
  constructor
  ·intro h n hn h1 h2
   have := h n (List.mem_range.2 hn)
   unfold cornerOk at this
   rw [hki, hbb] at this
   simpa [h1, h2] using this
  ·intro h n hn
   have hn := List.mem_range.1 hn
   unfold cornerOk
   rw [hki, hbb]
   by_cases h1 : n = i
   ·simp [h1]
   by_cases h2 : n = k
   ·simp [h2]
   ·simp [h n hn h1 h2]
 rw [Bool.eq_iff_iff, hrow]
 unfold sideOk
 simp only [hl, Bool.and_eq_true, decide_eq_true_eq, Bool.not_eq_true', Bool.and_eq_false_imp, decide_eq_false_iff_not]
 rw [hcnt]
 constructor
 ·rintro ⟨h1, _⟩ n hn hni hnk
  have := h1 n hn hni hnk
  have : ¬ leftF b ((atP l n).sub (atP l i)) ≤ 0 := by simpa [g] using this
  omega
 ·intro h
  refine ⟨fun n hn h1 h2 => ?_, fun hx hy => ?_⟩
  ·have := h n hn h1 h2
   show decide _ = false
   exact decide_eq_false (by omega)
  ·have := h t ht hti htk
   unfold leftF at this
   rw [hx, hy] at this
   simp at this
theorem sidesL_map : ∀ (l : List Pt) (a : Pt), sidesL a l = (List.range l.length).map fun j => ((if j = 0 then a else atP l (j - 1)), (atP l j).sub (if j = 0 then a else atP l (j - 1)))
 | [], _ => rfl
 | p :: r, a => by
  rw [sidesL, sidesL_map r p, List.length_cons, List.range_succ_eq_map, List.map_cons, List.map_map]
  congr 1
  apply List.map_congr_left
  intro j hj
  have h1 : (if j = 0 then p else atP r (j - 1)) = atP (p :: r) j := by
   cases j with
   | zero => rfl
   | succ j => simp [atP]
  have h2 : atP (p :: r) (j + 1) = atP r j := by simp [atP]
  show ((if j = 0 then p else atP r (j - 1)), (atP r j).sub (if j = 0 then p else atP r (j - 1))) = _
  simp only [Function.comp, Nat.succ_ne_zero, if_false, Nat.succ_sub_one, h1]
  rw [show Nat.succ j = j + 1 from rfl, h2]
theorem sides_round {s : Sand} (h3 : 3 ≤ s.corners.length) : (sidesF s).all (sideOk s) = roundR s.corners := by
 have hlast : lastP s.corners = atP s.corners (s.corners.length - 1) := rfl
 unfold sidesF roundR
 rw [sidesL_map, hlast, List.all_map]
 have hside : ∀ j < s.corners.length, ((sideOk s) ∘ fun j => ((if j = 0 then atP s.corners (s.corners.length - 1) else atP s.corners (j - 1)), (atP s.corners j).sub (if j = 0 then atP s.corners (s.corners.length - 1) else atP s.corners (j - 1)))) j = rowOk s.corners (if j = 0 then s.corners.length - 1 else j - 1) := by
  intro j hj
  show sideOk s _ = _
  by_cases h0 : j = 0
  ·subst h0
   simp only [if_true]
   exact side_row h3 (by omega) hj (by omega) (by rw [Nat.sub_add_cancel (by omega), Nat.mod_self])
  ·simp only [if_neg h0]
   exact side_row h3 (by omega) hj (by omega) (by rw [Nat.sub_add_cancel (by omega), Nat.mod_eq_of_lt hj])
 rw [Bool.eq_iff_iff, List.all_eq_true, List.all_eq_true]
 constructor
 ·intro h i hi
  have hi := List.mem_range.1 hi
  have hk : (i + 1) % s.corners.length < s.corners.length := Nat.mod_lt _ (by omega)
  have := h ((i + 1) % s.corners.length) (List.mem_range.2 hk)
  rw [hside _ hk] at this
  have he : (if (i + 1) % s.corners.length = 0 then s.corners.length - 1 else (i + 1) % s.corners.length - 1) = i := by
   by_cases hl : i + 1 < s.corners.length
   ·rw [Nat.mod_eq_of_lt hl, if_neg (by omega)]; omega
   ·have : i + 1 = s.corners.length := by omega
    rw [this, Nat.mod_self, if_pos rfl]; omega
  rw [he] at this
  exact this
 ·intro h j hj
  have hj := List.mem_range.1 hj
  rw [hside j hj]
  refine h _ (List.mem_range.2 ?_)
  split <;> omega
theorem sand_eq (s : Sand) : sandE s = sandR s := by
 unfold sandE sandR
 cases h1 : inB (s.corners.length : Int) 3 8 with
 | false => rfl
 | true =>
  rw [inB_iff] at h1
  have e : (s.corners.any fun p => !withinB 10000 p) = !(s.corners.all fun p => withinB 10000 p) := by
   rw [List.any_eq_not_all_not]; simp
  rw [e, sides_round (by omega)]
  cases s.corners.all fun p => withinB 10000 p <;> simp
def Same (m : Nms) (ns : List ByteArray) : Prop := ∀ n, 0 ≤ (getM m n).getD 0 ∧ (0 < (getM m n).getD 0 ↔ n ∈ ns)
theorem Same.inc {m : Nms} {ns : List ByteArray} (h : Same m ns) (n : ByteArray) : Same (incS m n) (ns ++ [n]) := by
 intro u
 unfold incS
 rw [getM_put]
 split
 ·rename_i hu
  subst hu
  have := (h u).1
  simp; omega
 ·rename_i hu
  have := h u
  refine ⟨this.1, ?_⟩
  rw [this.2]
  simp [hu]
theorem fresh_eq {m : Nms} {ns : List ByteArray} (h : Same m ns) (n : ByteArray) : freshE m n = freshF n ns := by
 have hn := h n
 unfold freshE freshF
 have hany : (ns.any fun y => decide (y = n)) = true ↔ n ∈ ns := by simp
 by_cases hm : n ∈ ns
 ·have := hn.2.2 hm
  rw [if_pos (show (getM m n).getD 0 + 1 > 1 by omega), if_pos (hany.2 hm)]
 ·have : ¬ 0 < (getM m n).getD 0 := fun h => hm (hn.2.1 h)
  rw [if_neg (show ¬ (getM m n).getD 0 + 1 > 1 by omega), if_neg (fun h => hm (hany.1 h))]
theorem marks_eq : ∀ (l : List Mark) (m : Nms) (ns : List ByteArray) (i : Int), Same m ns → (∃ e, marksL m i l = .inl e ∧ marksR ns i l = .inl e) ∨ ∃ m' ns', marksL m i l = .inr m' ∧ marksR ns i l = .inr ns' ∧ Same m' ns'
 | [], m, ns, i, h => .inr ⟨m, ns, rfl, rfl, h⟩
 | x :: r, m, ns, i, h => by
  have he : markE m x = markER ns x := by unfold markE markER; rw [fresh_eq h]
  rw [marksL, marksR, he]
  by_cases h0 : markER ns x = 0
  ·rw [if_pos h0, if_pos h0]
   exact marks_eq r _ _ _ (h.inc x.name)
  ·rw [if_neg h0, if_neg h0]
   exact .inl ⟨_, rfl, rfl⟩
theorem sands_eq : ∀ (l : List Sand) (m : Nms) (ns : List ByteArray) (i : Int), Same m ns → sandsL m i l = sandsR ns i l
 | [], _, _, _, _ => rfl
 | x :: r, m, ns, i, h => by
  have he : sandE' m x = sandER ns x := by unfold sandE' sandER; rw [fresh_eq h, sand_eq]
  rw [sandsL, sandsR, he]
  by_cases h0 : sandER ns x = 0
  ·rw [if_pos h0, if_pos h0]
   exact sands_eq r _ _ _ (h.inc x.name)
  ·rw [if_neg h0, if_neg h0]
theorem check_eq (c : Cht) : checkX c = checkR c := by
 unfold checkX checkR
 have h0 : Same [] [] := fun n => by simp [getM]
 rcases marks_eq c.marks [] [] 0 h0 with ⟨e, h1, h2⟩ | ⟨m', ns', h1, h2, h3⟩
 ·rw [h1, h2]
 ·rw [h1, h2]
  simp only
  rw [sands_eq c.sands m' ns' 0 h3]
end Go.PX
namespace Go.PX
open Go.Proofs
end Go.PX
namespace Go.PX
open Go.Proofs
theorem ch21x (c : Cht) : FnV Tryz.prog 21 [c.d] (.tup [i64 (checkX c).1, i64 (checkX c).2.1, i64 (checkX c).2.2]) := FnV.cast (ch21 c) (by rw [check_eq])
end Go.PX
namespace Go.PX
open Go.Proofs
end Go.PX
namespace Go.PX
open Go.Proofs
end Go.PX
namespace Go.PX
open Go.Proofs
end Go.PX
namespace Go.PX
open Go.Proofs
def movesL (b : Box) : List Pt := (spanL b.x).flatMap fun x => (spanL b.y).map fun y => ⟨x, y⟩
end Go.PX
namespace Go.PX
open Go.Proofs
end Go.PX
namespace Go.PX
open Go.Proofs
end Go.PX
namespace Go.PX
open Go.Proofs Go.RowKit Go.ChangeShapes
end Go.PX
namespace Go.PX
open Go.Proofs
theorem Round.nonneg {n : Nat} {c : Nat → Pt} (h : Round n c) {i k : Nat} (hi : i < n) (hk : k < n) : 0 ≤ leftF (sideF n c i) ((c k).sub (c i)) := by
 by_cases h1 : k = i
 ·subst h1
  have : (c k).sub (c k) = ⟨0, 0⟩ := by simp [Pt.sub]
  rw [this]; simp [leftF]
 by_cases h2 : k = (i + 1) % n
 ·subst h2
  show 0 ≤ leftF (sideF n c i) (sideF n c i)
  simp [leftF, Int.mul_comm]
 ·have := h.left i k hi hk h1 h2
  unfold sideF; omega
theorem sq_pos_of_left {e t : Pt} (h : 0 < leftF e t) : 0 < sqF e := by
 have h0 := sqF_nonneg e
 rcases Int.lt_or_eq_of_le h0 with h1 | h1
 ·exact h1
 ·have hl := lagrange e t
  rw [← h1, Int.zero_mul] at hl
  have h2 := sq_nonneg (dotF e t)
  have h3 := Int.mul_pos h h
  omega
theorem third {n : Nat} (h : 3 ≤ n) (i k : Nat) : ∃ t < n, t ≠ i ∧ t ≠ k := by
 by_cases h0 : 0 ≠ i ∧ 0 ≠ k
 ·exact ⟨0, by omega, h0⟩
 by_cases h1 : 1 ≠ i ∧ 1 ≠ k
 ·exact ⟨1, by omega, h1⟩
 ·exact ⟨2, by omega, by omega, by omega⟩
theorem Round.side_pos {n : Nat} {c : Nat → Pt} (h : Round n c) {i : Nat} (hi : i < n) : 0 < sqF (sideF n c i) := by
 obtain ⟨t, ht, h1, h2⟩ := third h.three i ((i + 1) % n)
 exact sq_pos_of_left (h.left i t hi ht h1 h2)
theorem along_id (f e w : Pt) : sqF e * leftF f w = dotF e w * leftF f e + leftF e w * dotF f e := by
 unfold sqF leftF dotF; grind
theorem nxt_ne {n k : Nat} (h : 3 ≤ n) (hk : k < n) : (k + 1) % n < n ∧ (k + 1) % n ≠ k ∧ (k + n - 1) % n < n ∧ ((k + n - 1) % n + 1) % n = k ∧ (k + n - 1) % n ≠ k ∧ (k + 1) % n ≠ (k + n - 1) % n ∧ ((k + 1) % n + 1) % n ≠ k := by
 have h1 : (k + 1) % n = if k + 1 = n then 0 else k + 1 := by
  split
  ·rename_i h; rw [h, Nat.mod_self]
  ·exact Nat.mod_eq_of_lt (by omega)
 have h2 : (k + n - 1) % n = if k = 0 then n - 1 else k - 1 := by
  split
  ·rename_i h; subst h; rw [Nat.zero_add]; exact Nat.mod_eq_of_lt (by omega)
  ·rw [show k + n - 1 = (k - 1) + n by omega, Nat.add_mod_right]; exact Nat.mod_eq_of_lt (by omega)
 have h3 : ∀ j, j < n → (j + 1) % n = if j + 1 = n then 0 else j + 1 := by
  intro j hj
  split
  ·rename_i h; rw [h, Nat.mod_self]
  ·exact Nat.mod_eq_of_lt (by omega)
 refine ⟨Nat.mod_lt _ (by omega), ?_, Nat.mod_lt _ (by omega), ?_, ?_, ?_, ?_⟩
 ·rw [h1]; split <;> omega
 ·rw [h3 _ (Nat.mod_lt _ (by omega)), h2]; split <;> split <;> omega
 ·rw [h2]; split <;> omega
 ·rw [h1, h2]; split <;> split <;> omega
 ·rw [h3 _ (Nat.mod_lt _ (by omega)), h1]; split <;> split <;> omega
theorem left_sum (f a b c : Pt) : leftF f (a.sub c) = leftF f (a.sub b) + leftF f (b.sub c) := by
 unfold leftF Pt.sub; grind
theorem left_self (f : Pt) : leftF f f = 0 := by unfold leftF; grind
theorem wayIn {n : Nat} {c : Nat → Pt} (h : Round n c) {q N : Pt} {d r : Int} (hd : 0 < d) (hN : ∀ j, j < n → 0 ≤ farD n c d N j) (hq : ∃ k, k < n ∧ farF n c q k < 0) (hr : sqF ⟨N.x - d * q.x, N.y - d * q.y⟩ < r * r * (d * d)) :
  ∃ k, k < n ∧ farF n c q k < 0 ∧ Mid (sideF n c k) (q.sub (c k)) r := by
 obtain ⟨k, hk, hA, hmax⟩ := greatest (a := farF n c q) (b := farD n c d N) (l := List.range n) (by obtain ⟨k, hk, h⟩ := hq; exact ⟨k, List.mem_range.2 hk, h⟩) (fun k hk => hN k (List.mem_range.1 hk))
 have hk := List.mem_range.1 hk
 refine ⟨k, hk, hA, ?_⟩
 have hB := hN k hk
 have hS := h.side_pos hk
 -- all half planes hold the point
 have hin : ∀ j, j < n → 0 ≤ farD n c d N k * farF n c q j - farF n c q k * farD n c d N j := by
  intro j hj
  have hbj := hN j hj
  by_cases haj : farF n c q j < 0
  ·have := hmax j (List.mem_range.2 hj) haj
   rw [Int.mul_comm (farD n c d N k)]; omega
  ·have h1 := Int.mul_nonneg hB (show 0 ≤ farF n c q j by omega)
   have h2 := Int.mul_nonneg (show 0 ≤ -farF n c q k by omega) hbj
   rw [Int.neg_mul] at h2; omega
 generalize hAe : farF n c q k = A at *
 generalize hBe : farD n c d N k = B at *
 have hdA : 0 < -(d * A) := by
  have := Int.mul_pos hd (show 0 < -A by omega)
  rw [Int.mul_neg] at this; exact this
 obtain ⟨m1, m2, p1, p2, p3, p4, m3⟩ := nxt_ne h.three hk
 let M := B - d * A
 have hM : 0 < M := by show 0 < B - d * A; omega
 let W : Pt := ⟨(B * q.x - A * N.x) - M * (c k).x, (B * q.y - A * N.y) - M * (c k).y⟩
 have hW : ∀ j, leftF (sideF n c j) W = (B * farF n c q j - A * farD n c d N j) + M * leftF (sideF n c j) ((c j).sub (c k)) := by
  intro j
  show leftF (sideF n c j) ⟨(B * q.x - A * N.x) - (B - d * A) * (c k).x, (B * q.y - A * N.y) - (B - d * A) * (c k).y⟩ = _ + (B - d * A) * _
  unfold farF farD
  generalize sideF n c j = f
  unfold leftF Pt.sub; grind
 have hWk : leftF (sideF n c k) W = 0 := by
  rw [hW k, hAe, hBe]
  have : (c k).sub (c k) = ⟨0, 0⟩ := by simp [Pt.sub]
  rw [this]; unfold leftF; grind
 have hWp : 0 ≤ leftF (sideF n c ((k + n - 1) % n)) W := by
  rw [hW]
  have h1 := hin _ p1
  have h2 : (c ((k + n - 1) % n)).sub (c k) = ⟨-(sideF n c ((k + n - 1) % n)).x, -(sideF n c ((k + n - 1) % n)).y⟩ := by
   unfold sideF; rw [p2]; unfold Pt.sub; simp; constructor <;> omega
  rw [h2]
  have h3 : ∀ f : Pt, leftF f ⟨-f.x, -f.y⟩ = 0 := by intro f; unfold leftF; grind
  rw [h3]; omega
 have hWm : 0 ≤ leftF (sideF n c ((k + 1) % n)) W - M * leftF (sideF n c ((k + 1) % n)) (sideF n c k) := by
  rw [hW]
  have h1 := hin _ m1
  show 0 ≤ _ + M * leftF _ (sideF n c k) - _
  omega
 have i1 := along_id (sideF n c ((k + n - 1) % n)) (sideF n c k) W
 have i2 := along_id (sideF n c ((k + 1) % n)) (sideF n c k) W
 rw [hWk, Int.zero_mul, Int.add_zero] at i1 i2
 have q1 : 0 < leftF (sideF n c ((k + n - 1) % n)) (sideF n c k) := by
  have := h.left _ _ p1 m1 p4 (by rw [p2]; exact m2)
  rw [left_sum _ _ (c k)] at this
  have e : leftF ((c (((k + n - 1) % n + 1) % n)).sub (c ((k + n - 1) % n))) ((c k).sub (c ((k + n - 1) % n))) = 0 := by
   rw [p2]; exact left_self _
  rw [e, Int.add_zero] at this
  exact this
 have q2 : leftF (sideF n c ((k + 1) % n)) (sideF n c k) < 0 := by
  have := h.left _ _ m1 hk (Ne.symm m2) (Ne.symm m3)
  have e : ∀ f a b : Pt, leftF f (a.sub b) = -leftF f (b.sub a) := by intro f a b; unfold leftF Pt.sub; grind
  rw [e] at this
  show leftF (sideF n c ((k + 1) % n)) ((c ((k + 1) % n)).sub (c k)) < 0
  unfold sideF
  omega
 refine ⟨dotF (sideF n c k) W, M * sqF (sideF n c k), ?_, ?_, Int.mul_pos hM hS, ?_⟩
 ·have h1 : 0 ≤ dotF (sideF n c k) W * leftF (sideF n c ((k + n - 1) % n)) (sideF n c k) := by
   rw [← i1]; exact Int.mul_nonneg (by omega) hWp
  rcases Int.lt_or_le (dotF (sideF n c k) W) 0 with h2 | h2
  ·have := Int.mul_neg_of_neg_of_pos h2 q1; omega
  ·exact h2
 ·have h1 := Int.mul_nonneg (show 0 ≤ sqF (sideF n c k) by omega) hWm
  rw [Int.mul_sub, i2] at h1
  generalize leftF (sideF n c ((k + 1) % n)) (sideF n c k) = g at *
  generalize sqF (sideF n c k) = S at *
  generalize dotF (sideF n c k) W = u at *
  have h2 : 0 ≤ (u - M * S) * g := by
   have : (u - M * S) * g = u * g - S * (M * g) := by grind
   omega
  rcases Int.lt_or_le (M * S) u with h3 | h3
  ·have := Int.mul_neg_of_pos_of_neg (show 0 < u - M * S by omega) q2; omega
  ·exact h3
 ·have eW : ∀ t : Pt, (M * sqF (sideF n c k)) * (M * sqF (sideF n c k)) * sqF t - 2 * (dotF (sideF n c k) W * (M * sqF (sideF n c k))) * dotF (sideF n c k) t + dotF (sideF n c k) W * dotF (sideF n c k) W * sqF (sideF n c k)
    = sqF (sideF n c k) * sqF (sideF n c k) * sqF ⟨M * t.x - W.x, M * t.y - W.y⟩ := by
   intro t
   have l1 := lagrange (sideF n c k) W
   rw [hWk, Int.zero_mul, Int.zero_add] at l1
   have l2 : sqF (sideF n c k) * dotF W t = dotF (sideF n c k) W * dotF (sideF n c k) t := by
    have : sqF (sideF n c k) * dotF W t = dotF (sideF n c k) W * dotF (sideF n c k) t + leftF (sideF n c k) W * leftF (sideF n c k) t := by
     unfold sqF dotF leftF; grind
    rw [this, hWk]; omega
   have e0 : sqF ⟨M * t.x - W.x, M * t.y - W.y⟩ = M * M * sqF t - 2 * (M * dotF W t) + sqF W := by
    unfold sqF dotF; grind
   rw [e0]
   generalize dotF (sideF n c k) W = u at *
   generalize sqF (sideF n c k) = S at *
   generalize dotF (sideF n c k) t = v at *
   generalize dotF W t = w at *
   generalize sqF W = z at *
   generalize sqF t = y at *
   clear hW hWk hWp hWm i1 i2 q1 q2 hin hmax
   have : S * S * (M * M * y - 2 * (M * w) + z) = M * S * (M * S) * y - 2 * (M * S) * (S * w) + S * (S * z) := by grind
   rw [this, l2, ← l1]; grind
  rw [eW]
  have e1 : sqF ⟨M * (q.sub (c k)).x - W.x, M * (q.sub (c k)).y - W.y⟩ = A * A * sqF ⟨N.x - d * q.x, N.y - d * q.y⟩ := by
   show sqF ⟨(B - d * A) * (q.x - (c k).x) - ((B * q.x - A * N.x) - (B - d * A) * (c k).x), (B - d * A) * (q.y - (c k).y) - ((B * q.y - A * N.y) - (B - d * A) * (c k).y)⟩ = _
   unfold sqF; grind
  rw [e1]
  have hAA : 0 < A * A := by have := Int.mul_pos (show 0 < -A by omega) (show 0 < -A by omega); rw [Int.neg_mul_neg] at this; exact this
  have hMM : d * d * (A * A) ≤ M * M := by
   have h1 : M * M - d * d * (A * A) = B * (B - 2 * (d * A)) := by show (B - d * A) * (B - d * A) - _ = _; grind
   have h2 := Int.mul_nonneg hB (show 0 ≤ B - 2 * (d * A) by omega)
   omega
  have hSS := Int.mul_pos hS hS
  generalize sqF (sideF n c k) = S at *
  generalize sqF ⟨N.x - d * q.x, N.y - d * q.y⟩ = z at *
  have s1 : A * A * z < A * A * (r * r * (d * d)) := Int.mul_lt_mul_of_pos_left hr hAA
  have s2 : r * r * (d * d * (A * A)) ≤ r * r * (M * M) := Int.mul_le_mul_of_nonneg_left hMM (sq_nonneg r)
  have s3 : A * A * z < r * r * (M * M) := by
   have : A * A * (r * r * (d * d)) = r * r * (d * d * (A * A)) := by grind
   omega
  have s4 := Int.mul_lt_mul_of_pos_left s3 hSS
  have : S * S * (r * r * (M * M)) = r * r * (M * S * (M * S)) := by grind
  rw [← this]; exact s4
theorem wayIn_side {n : Nat} {c : Nat → Pt} (h : Round n c) {q : Pt} {r : Int} {i : Nat} (hi : i < n) (hm : Mid (sideF n c i) (q.sub (c i)) r) (hq : ∃ k, k < n ∧ farF n c q k < 0) :
  ∃ k, k < n ∧ farF n c q k < 0 ∧ Mid (sideF n c k) (q.sub (c k)) r := by
 obtain ⟨u, v, h0, huv, hv, hr⟩ := hm
 refine wayIn (N := ⟨v * (c i).x + u * (sideF n c i).x, v * (c i).y + u * (sideF n c i).y⟩) h hv ?_ hq ?_
 ·intro j hj
  have h1 := h.nonneg hj hi
  have h2 := h.nonneg hj (show (i + 1) % n < n from Nat.mod_lt _ (by omega))
  have e : farD n c v ⟨v * (c i).x + u * (sideF n c i).x, v * (c i).y + u * (sideF n c i).y⟩ j = (v - u) * leftF (sideF n c j) ((c i).sub (c j)) + u * leftF (sideF n c j) ((c ((i + 1) % n)).sub (c j)) := by
   unfold farD
   generalize sideF n c j = f
   unfold sideF leftF Pt.sub; grind
  rw [e]
  have k1 := Int.mul_nonneg (show 0 ≤ v - u by omega) h1
  have k2 := Int.mul_nonneg h0 h2
  omega
 ·have e : sqF ⟨v * (c i).x + u * (sideF n c i).x - v * q.x, v * (c i).y + u * (sideF n c i).y - v * q.y⟩ = v * v * sqF (q.sub (c i)) - 2 * (u * v) * dotF (sideF n c i) (q.sub (c i)) + u * u * sqF (sideF n c i) := by
   generalize sideF n c i = f
   unfold sqF dotF Pt.sub; grind
  show sqF ⟨v * (c i).x + u * (sideF n c i).x - v * q.x, v * (c i).y + u * (sideF n c i).y - v * q.y⟩ < _
  rw [e]; exact hr
end Go.PX
