import Derived.Test.YtgpmlbbkfmkmkaaGreatDoorPxM
import Derived.Test.YtgpmlbbkfmkmkaaGreatDoorPxL
import Derived.Test.YtgpmlbbkfmkmkaaGreatDoorPxJ
set_option linter.all false
set_option maxRecDepth 10000
namespace Go.PX
open Go.Proofs
theorem pa68n (l : PLog) (hR : LogR l) : FnV Tryz.prog 68 [l.d, i64 0, .vs []] (lookD l (lookF l 0 [])) := pa68 l hR 0 (by omega) [] (by simp)
theorem CallA_nil2 {P : Program} {σ : Type} {Y : Hd σ} {st : St σ} {d : Option Nat} {f : FuncId} {a b : V} {r : List V} {K : St σ → Prop} (hc : CallA P Y st d f (a :: b :: .d (.vs []) :: r) K) : CallA P Y st d f (a :: b :: .d .nils :: r) K := by
 refine CallA_rep (fun yv L F w l h => ?_) hc
 obtain ⟨x, l', rfl, h1, y, l'', rfl, h2, z, l3, rfl, h3, h4⟩ := h
 exact ⟨x, _, rfl, h1, y, _, rfl, h2, z, _, rfl, RepD.relax .nils z h3, h4⟩
theorem pa75 (l : PLog) (x : LkS) (hR : LookR x) : FnV Tryz.prog 75 [lookD l x] (i64 (if fitM x (farM x .right) = true then 0 else 9)) := by
 refine fnV_of mixed tysOk Tryz.func75 rfl (ft := ft75) 1 (by decide +kernel) (by rfl) fun {σ} Y st => ?_
 conv=>whnf
 refine CallA_v (pa70) rfl rfl ?_
 conv=>whnf
 refine CallA_v (pa69 l x hR .right) rfl rfl ?_
 cases h : fitM x (farM x .right) with
 | true =>
  simp only [if_true]
  conv=>whnf
  exact RetA_view 0 rfl ⟨⟨rfl, rfl⟩, rfl⟩
 | false =>
  simp only [Bool.false_eq_true, if_false]
  conv=>whnf
  exact RetA_view 0 rfl ⟨⟨rfl, rfl⟩, rfl⟩
theorem bk_get {l : PLog} {i k : Nat} {b : PBook} {y : PEnt} (h : At l i k b y) : (0 : Int) ≤ (i : Int) ∧ (l.books.map PBook.cells)[((i : Nat) : Int).toNat]? = some b.cells :=
 ⟨by omega, by rw [Int.toNat_natCast, List.getElem?_map, h.book]; rfl⟩
theorem en_get {l : PLog} {i k : Nat} {b : PBook} {y : PEnt} (h : At l i k b y) : (0 : Int) ≤ (k : Int) ∧ (b.ents.map PEnt.cells)[((k : Nat) : Int).toNat]? = some y.cells :=
 ⟨by omega, by rw [Int.toNat_natCast, List.getElem?_map, h.ent]; rfl⟩
theorem pa76 (l : PLog) (x : LkS) {i k : Nat} {b : PBook} {y : PEnt} (h : At l i k b y) : FnV Tryz.prog 76 [lookD l x, (PAt.mk i k).d] y.d := by
 refine fnV_of mixed tysOk Tryz.func76 rfl (ft := ft76) 2 (by decide +kernel) (by rfl) fun {σ} Y st => ?_
 conv=>whnf
 refine elemK_i b.cells (bk_get h) ?_
 conv=>whnf
 refine elemK_i y.cells (en_get h) ?_
 conv=>whnf
 exact RetA_view 0 rfl ⟨⟨rfl, rfl⟩, rfl⟩
theorem pr_get {l : PLog} {i k : Nat} {b : PBook} {y : PEnt} (h : At l i k b y) : (0 : Int) ≤ (i : Int) ∧ ((lookF l 0 []).pers.map fun r => [D.vs (r.map Per.cells)])[((i : Nat) : Int).toNat]? = some [D.vs ((persOf i b).map Per.cells)] :=
 ⟨by omega, by rw [Int.toNat_natCast, List.getElem?_map, (look_done l 0 []).pers.2 i b h.book (at_lt h)]; rfl⟩
theorem po_get {l : PLog} {i k : Nat} {b : PBook} {y : PEnt} (h : At l i k b y) : (0 : Int) ≤ (k : Int) ∧ ((persOf i b).map Per.cells)[((k : Nat) : Int).toNat]? = some (Per.cells ⟨i, perOf b k⟩) :=
 ⟨by omega, by rw [Int.toNat_natCast, List.getElem?_map, persOf_get (List.getElem?_eq_some_iff.1 h.ent).1]; rfl⟩
theorem apartS_at {l : PLog} {i k j m : Nat} {b c : PBook} {y z : PEnt} (h : At l i k b y) (h' : At l j m c z) : apartS l ⟨i, k⟩ ⟨j, m⟩ = ⟨(z.shown - y.shown) - (aheadF (lookF l 0 []) ⟨j, perOf c m⟩ ⟨i, perOf b k⟩).hi, (z.shown - y.shown) - (aheadF (lookF l 0 []) ⟨j, perOf c m⟩ ⟨i, perOf b k⟩).lo⟩ := by
 unfold apartS
 rw [perX_of h, perX_of h', entAt_of h, entAt_of h']
theorem pa81k (l : PLog) {i k j m : Nat} {b c : PBook} {y z : PEnt} (h : At l i k b y) (h' : At l j m c z) (A B : Int) (hA : -4000000000 ≤ A ∧ A ≤ 4000000000) (hB : -4000000000 ≤ B ∧ B ≤ 4000000000) (hy : 0 ≤ y.shown ∧ y.shown ≤ 20000) (hz : 0 ≤ z.shown ∧ z.shown ≤ 20000)
  (h72 : FnV Tryz.prog 72 [lookD l (lookF l 0 []), Per.d ⟨j, perOf c m⟩, Per.d ⟨i, perOf b k⟩] (.agg [i64 A, i64 B])) : FnV Tryz.prog 81 [lookD l (lookF l 0 []), (PAt.mk i k).d, (PAt.mk j m).d] (.agg [i64 ((z.shown - y.shown) - B), i64 ((z.shown - y.shown) - A)]) := by
 refine fnV_of mixed tysOk Tryz.func81 rfl (ft := ft81) 3 (by decide +kernel) (by rfl) fun {σ} Y st => ?_
 conv=>whnf
 refine elemK_i _ (pr_get h') ?_
 conv=>whnf
 refine elemK_i _ (po_get h') ?_
 conv=>whnf
 refine elemK_i _ (pr_get h) ?_
 conv=>whnf
 refine elemK_i _ (po_get h) ?_
 conv=>whnf
 refine DrawCall_v (ds := [lookD l (lookF l 0 []), Per.d ⟨j, perOf c m⟩, Per.d ⟨i, perOf b k⟩]) h72 rfl rfl ?_
 conv=>whnf
 refine DrawCall_v (pa76 l _ h') rfl rfl ?_
 conv=>whnf
 refine DrawCall_v (pa76 l _ h) rfl rfl ?_
 conv=>whnf
 refine arith_in (wrap_i64 (by (try dsimp only); omega)) ?_
 conv=>whnf
 refine arith_in (wrap_i64 (by (try dsimp only); omega)) ?_
 conv=>whnf
 refine arith_in (wrap_i64 (by (try dsimp only); omega)) ?_
 conv=>whnf
 exact RetA_view 0 rfl ⟨⟨rfl, rfl⟩, rfl⟩
theorem pa81 (l : PLog) (hR : LogR l) (hf : fitP l 0 [] = true) {i k j m : Nat} {b c : PBook} {y z : PEnt} (h : At l i k b y) (h' : At l j m c z) : FnV Tryz.prog 81 [lookD l (lookF l 0 []), (PAt.mk i k).d, (PAt.mk j m).d] (apartS l ⟨i, k⟩ ⟨j, m⟩).d := by
 rw [apartS_at h h']
 have hL := look_R hR (w := 0) (by omega) []
 have hn := perX_node (isAt_iff.2 ⟨i, k, b, y, rfl, h⟩)
 have hn' := perX_node (isAt_iff.2 ⟨j, m, c, z, rfl, h'⟩)
 rw [perX_of h] at hn
 rw [perX_of h'] at hn'
 have hb := at_bnd hL ⟨j, perOf c m⟩ ⟨i, perOf b k⟩
 have hb' := at_bnd hL ⟨i, perOf b k⟩ ⟨j, perOf c m⟩
 have hy := ((hR.book b (List.mem_of_getElem? h.book)).ent y (List.mem_of_getElem? h.ent)).1
 have hz := ((hR.book c (List.mem_of_getElem? h'.book)).ent z (List.mem_of_getElem? h'.ent)).1
 exact fun {σ} => FnV.cast (fun {σ} => pa81k l h h' (aheadF (lookF l 0 []) ⟨j, perOf c m⟩ ⟨i, perOf b k⟩).lo (aheadF (lookF l 0 []) ⟨j, perOf c m⟩ ⟨i, perOf b k⟩).hi ⟨by show -4000000000 ≤ -_; omega, by show -_ ≤ 4000000000; omega⟩ hb' hy hz (fun {σ} => pa72 l (lookF l 0 []) hL ⟨j, perOf c m⟩ ⟨i, perOf b k⟩ (fit_far hf hn') (fit_far hf hn))) rfl
def entrD (l : PLog) (xs : List PAt) : D := if entrP l xs = 0 then lookD l (lookF l 0 []) else .nilp
def atsD (l : List PAt) : D := .vs (l.map PAt.cells)
theorem checkP_eq (l : PLog) : checkP l = ((checkP l).1, (checkP l).2.1, checkN l) := rfl
theorem pa17k (l : PLog) (p q e : Int) (h : checkP l = (p, q, e)) : FnV Tryz.prog 17 [l.d] (.tup [i64 p, i64 q, i64 e]) := FnV.cast (fun {σ} => pa17 l) (by rw [h]; rfl)
theorem pa74 (l : PLog) (xs : List PAt) (hx : xs.length < 1000000) : FnV Tryz.prog 74 [l.d, atsD xs] (.tup [entrD l xs, i64 (entrP l xs)]) := by
 unfold entrD entrP
 refine fnV_of mixed tysOk Tryz.func74 rfl (ft := ft74) 2 (by decide +kernel) (by rfl) fun {σ} Y st => ?_
 conv=>whnf
 by_cases hc : checkN l = 0
 ·rw [if_pos hc]
  have hR := check_ok hc
  have hbl := hR.books
  refine CallA_v (pa17k l 0 0 0 (checkP_ok hc)) rfl rfl ?_
  conv=>whnf
  generalize hE : (if xs.all (isAt l) = true then (0 : Int) else 4) = E
  refine LoopA_i (T := tys) tysOk (by exact drawsB_spec mixed tysOk (by decide +kernel)) xs (fun i (_ : Unit) => ⟨[(2, .ptr 2 0), (20, .d (atsD xs)), (21, .d (i64 xs.length)), (22, .d (i64 i))], [(2, .box (.dd l.cells))], st⟩) (fun i r _ => (if r.all (isAt l) = true then (0 : Int) else 4) = E) () (Wk.sub (by repeat' first|exact trivial|refine⟨?_,?_⟩|rfl|(simp only[List.length_map];rfl)|simp[PX.get]) ⟨(by first | rfl | (simp only [List.length_map]; rfl) | simp [PX.get]), trivial⟩) hE ?_ ?_
  ·rintro i x r _ hxi hi hr he
   conv=>whnf
   refine brk_i (fun _ => ?_) (fun h => absurd hi (by simpa using h))
   conv=>whnf
   refine elemK_nat hxi ?_
   conv=>whnf
   refine arith_to ((l.books.length : Int) - 1) (by simp) (wrap_i64 (by omega)) ?_
   conv=>whnf
   refine DrawCall_view (out_1 0 ((l.books.length : Int) - 1) x.book) rfl 1 rfl ?_
   rw [List.all_cons] at he
   unfold isAt at he
   cases h1 : outB x.book 0 ((l.books.length : Int) - 1) with
   | true =>
    rw [h1] at he
    simp only [Bool.not_true, Bool.false_and, Bool.false_eq_true, if_false] at he
    conv=>whnf
    subst he
    exact RetA_view 0 rfl ⟨⟨rfl, rfl⟩, rfl⟩
   | false =>
    rw [h1] at he
    simp only [Bool.not_false, Bool.true_and] at he
    have h1 := outB_iff.1 h1
    obtain ⟨b, hb⟩ : ∃ b, l.books[x.book.toNat]? = some b := ⟨_, List.getElem?_eq_getElem (by omega)⟩
    have hba : bookAt l x.book = b := by unfold bookAt; rw [hb]; rfl
    rw [hba] at he
    have hbe := (hR.book b (List.mem_of_getElem? hb)).ents
    conv=>whnf
    refine elemK_i b.cells ⟨h1.1, by rw [List.getElem?_map, hb]; rfl⟩ ?_
    conv=>whnf
    refine arith_to ((b.ents.length : Int) - 1) (by simp) (wrap_i64 (by omega)) ?_
    conv=>whnf
    refine DrawCall_view (out_1 0 ((b.ents.length : Int) - 1) x.entry) rfl 1 rfl ?_
    cases h2 : outB x.entry 0 ((b.ents.length : Int) - 1) with
    | true =>
     rw [h2] at he
     simp only [Bool.not_true, Bool.false_and, Bool.false_eq_true, if_false] at he
     conv=>whnf
     subst he
     exact RetA_view 0 rfl ⟨⟨rfl, rfl⟩, rfl⟩
    | false =>
     rw [h2] at he
     simp only [Bool.not_false, Bool.true_and] at he
     conv=>whnf
     refine arith_in (wrap_i64 (by (try dsimp only); omega)) ?_
     conv=>whnf
     exact ⟨(), he, (Wk.sub (by repeat' first|exact trivial|refine⟨?_,?_⟩|rfl|(simp only[List.length_map];rfl)|simp[PX.get]) ⟨(by first | rfl | (simp only [List.length_map]; rfl) | simp [PX.get]), trivial⟩)⟩
  ·rintro _ he
   have he : (0 : Int) = E := he
   subst he
   conv=>whnf
   refine brk_i (fun h => absurd h (by simp)) (fun _ => ?_)
   conv=>whnf
   refine CallA_nil2 ?_
   refine CallA_v (pa68n l hR) rfl rfl ?_
   conv=>whnf
   rw [if_pos rfl]
   exact RetA_view 0 rfl ⟨⟨rfl, rfl⟩, rfl⟩
 ·rw [if_neg hc]
  refine CallA_v (pa17k l _ _ _ (checkP_eq l)) rfl rfl ?_
  conv=>whnf
  generalize checkN l = E at hc
  refine brk_i (fun _ => ?_) (fun h => absurd hc (by simpa using h))
  conv=>whnf
  rw [if_neg hc]
  exact RetA_view 0 rfl ⟨⟨rfl, rfl⟩, rfl⟩
end Go.PX
namespace Go.PX
open Go.Proofs
theorem pa75l (l : PLog) (hR : LogR l) : FnV Tryz.prog 75 [lookD l (lookF l 0 [])] (i64 (if fitP l 0 [] = true then 0 else 9)) := pa75 l (lookF l 0 []) (look_R hR (by omega) [])
theorem pa69l (l : PLog) (hR : LogR l) (w : Int) (hw : 0 ≤ w ∧ w ≤ 1048576) (conf : List Int) : ∃ m, FnV Tryz.prog 69 [lookD l (lookF l w conf), Per.right.d] (.tup [m, .bool (fitP l w conf)]) := ⟨_, fun {σ} => pa69 l (lookF l w conf) (look_R hR hw conf) .right⟩
theorem pa19 (l : PLog) : FnV Tryz.prog 19 [l.d] (.tup [.bool (fitsP l).1, i64 (fitsP l).2]) := by
 unfold fitsP
 refine fnV_of mixed tysOk Tryz.func19 rfl (ft := ft19) 1 (by decide +kernel) (by rfl) fun {σ} Y st => ?_
 conv=>whnf
 by_cases hc : checkN l = 0
 ·rw [if_pos hc]
  have hR := check_ok hc
  refine CallA_v (pa17k l 0 0 0 (checkP_ok hc)) rfl rfl ?_
  conv=>whnf
  refine CallA_nil2 ?_
  refine CallA_v (pa68n l hR) rfl rfl ?_
  conv=>whnf
  refine CallA_v (pa70) rfl rfl ?_
  conv=>whnf
  obtain ⟨m, hm⟩ := pa69l l hR 0 (by omega) []
  refine CallA_v (hm) rfl rfl ?_
  conv=>whnf
  exact RetA_view 0 rfl ⟨⟨rfl, rfl⟩, rfl⟩
 ·rw [if_neg hc]
  refine CallA_v (pa17k l _ _ _ (checkP_eq l)) rfl rfl ?_
  conv=>whnf
  generalize checkN l = E at hc
  refine brk_i (fun _ => ?_) (fun h => absurd hc (by simpa using h))
  conv=>whnf
  exact RetA_view 0 rfl ⟨⟨rfl, rfl⟩, rfl⟩
theorem at_R {l : PLog} (hR : LogR l) {i k : Nat} {b : PBook} {y : PEnt} (h : At l i k b y) : 0 ≤ y.shown ∧ y.shown ≤ 20000 := ((hR.book b (List.mem_of_getElem? h.book)).ent y (List.mem_of_getElem? h.ent)).1
theorem instS_at {l : PLog} {i k : Nat} {b : PBook} {y : PEnt} (h : At l i k b y) : instS l ⟨i, k⟩ = ⟨y.shown - (aheadF (lookF l 0 []) ⟨i, perOf b k⟩ .right).hi, y.shown - (aheadF (lookF l 0 []) ⟨i, perOf b k⟩ .right).lo⟩ := by
 unfold instS
 rw [perX_of h, entAt_of h]
theorem pa72l {l : PLog} (hR : LogR l) (hf : fitP l 0 [] = true) {p q : Per} (hp : p ∈ nodesL l) (hq : q ∈ nodesL l) : FnV Tryz.prog 72 [lookD l (lookF l 0 []), p.d, q.d] (.agg [i64 (aheadF (lookF l 0 []) p q).lo, i64 (aheadF (lookF l 0 []) p q).hi]) :=
 pa72 l (lookF l 0 []) (look_R hR (by omega) []) p q (fit_far hf hp) (fit_far hf hq)
theorem ahead_bd {l : PLog} (hR : LogR l) (p q : Per) : (-4000000000 ≤ (aheadF (lookF l 0 []) p q).lo ∧ (aheadF (lookF l 0 []) p q).lo ≤ 4000000000) ∧ (-4000000000 ≤ (aheadF (lookF l 0 []) p q).hi ∧ (aheadF (lookF l 0 []) p q).hi ≤ 4000000000) := by
 have h1 := at_bnd (look_R hR (w := 0) (by omega) []) p q
 have h2 := at_bnd (look_R hR (w := 0) (by omega) []) q p
 unfold aheadF
 simp only
 omega
theorem entr_zero {l : PLog} {xs : List PAt} (h : entrP l xs = 0) : checkN l = 0 ∧ ∀ x ∈ xs, isAt l x = true := by
 unfold entrP at h
 split at h
 ·rename_i h1
  split at h
  ·rename_i h2; exact ⟨h1, fun x hx => List.all_eq_true.1 h2 x hx⟩
  ·cases h
 ·rename_i h1; exact absurd h h1
theorem pa74ok {l : PLog} {xs : List PAt} (hx : xs.length < 1000000) (h : entrP l xs = 0) : FnV Tryz.prog 74 [l.d, atsD xs] (.tup [lookD l (lookF l 0 []), i64 0]) :=
 FnV.cast (fun {σ} => pa74 l xs hx) (by unfold entrD; rw [if_pos h, h])
theorem pa74no {l : PLog} {xs : List PAt} (hx : xs.length < 1000000) (h : entrP l xs ≠ 0) : FnV Tryz.prog 74 [l.d, atsD xs] (.tup [.nilp, i64 (entrP l xs)]) :=
 FnV.cast (fun {σ} => pa74 l xs hx) (by unfold entrD; rw [if_neg h])
theorem downE_no {l : PLog} {xs : List PAt} (h : entrP l xs ≠ 0) : downE l xs = entrP l xs ∧ downE l xs ≠ 0 := by
 unfold downE
 rw [if_neg h]
 exact ⟨rfl, h⟩
theorem pa24 (l : PLog) (x : PAt) : FnV Tryz.prog 24 [l.d, x.d] (.tup [(instF l x).1.d, i64 (instF l x).2]) := by
 by_cases hc : entrP l [x] = 0
 ·obtain ⟨hck, hall⟩ := entr_zero hc
  have hR := check_ok hck
  have hat := hall x (by simp)
  obtain ⟨i, k, b, y, rfl, hA⟩ := isAt_iff.1 hat
  have e : instF l ⟨i, k⟩ = if fitP l 0 [] = true then (instS l ⟨i, k⟩, 0) else (⟨0, 0⟩, 9) := by
   unfold instF downE
   rw [if_pos hc]
   cases fitP l 0 [] <;> rfl
  rw [e]
  refine fnV_of mixed tysOk Tryz.func24 rfl (ft := ft24) 2 (by decide +kernel) (by rfl) fun {σ} Y st => ?_
  conv=>whnf
  refine CallA_fz (ds := [l.d, atsD [⟨i, k⟩]]) (pa74ok (by simp) hc) 1 [13] rfl rfl ?_
  conv=>whnf
  refine CallA_v (pa75l l hR) rfl rfl ?_
  conv=>whnf
  cases hf : fitP l 0 [] with
  | false =>
   simp only [Bool.false_eq_true, if_false]
   conv=>whnf
   exact RetA_view 0 rfl ⟨⟨rfl, rfl⟩, rfl⟩
  | true =>
   simp only [if_true]
   rw [instS_at hA]
   have hn := perX_node hat
   rw [perX_of hA] at hn
   have h72 := fun {σ} => @pa72l l hR hf _ _ hn (right_node l) σ
   have hbd := ahead_bd hR ⟨i, perOf b k⟩ .right
   have hy := at_R hR hA
   generalize (aheadF (lookF l 0 []) ⟨i, perOf b k⟩ .right) = S at h72 hbd ⊢
   conv=>whnf
   refine elemK_i _ (pr_get hA) ?_
   conv=>whnf
   refine elemK_i _ (po_get hA) ?_
   conv=>whnf
   refine DrawCall_v (ds := []) pa70 rfl rfl ?_
   conv=>whnf
   refine DrawCall_v (ds := [lookD l (lookF l 0 []), Per.d ⟨i, perOf b k⟩, Per.right.d]) h72 rfl rfl ?_
   conv=>whnf
   refine DrawCall_v (pa76 l _ hA) rfl rfl ?_
   conv=>whnf
   refine arith_in (wrap_i64 (by (try dsimp only); omega)) ?_
   conv=>whnf
   refine arith_in (wrap_i64 (by (try dsimp only); omega)) ?_
   conv=>whnf
   exact RetA_view 0 rfl ⟨⟨rfl, rfl⟩, rfl⟩
 ·obtain ⟨e1, e2⟩ := downE_no hc
  have e : instF l x = (⟨0, 0⟩, entrP l [x]) := by
   unfold instF
   rw [if_neg e2, e1]
  rw [e]
  refine fnV_of mixed tysOk Tryz.func24 rfl (ft := ft24) 2 (by decide +kernel) (by rfl) fun {σ} Y st => ?_
  conv=>whnf
  refine CallA_fz (ds := [l.d, atsD [x]]) (pa74no (by simp) hc) 1 [13] rfl rfl ?_
  generalize entrP l [x] = E at hc ⊢
  conv=>whnf
  refine brk_i (fun h => absurd h (by simpa using hc)) (fun _ => ?_)
  conv=>whnf
  refine brk_i (fun _ => ?_) (fun h => absurd hc (by simpa using h))
  conv=>whnf
  exact RetA_view 0 rfl ⟨⟨rfl, rfl⟩, rfl⟩
theorem pa27 (l : PLog) (x z : PAt) : FnV Tryz.prog 27 [l.d, x.d, z.d] (.tup [(apartF l x z).1.d, i64 (apartF l x z).2.1, i64 (apartF l x z).2.2]) := by
 by_cases hc : entrP l [x, z] = 0
 ·obtain ⟨hck, hall⟩ := entr_zero hc
  have hR := check_ok hck
  have hat := hall x (by simp)
  have hat' := hall z (by simp)
  obtain ⟨i, k, b, y, rfl, hA⟩ := isAt_iff.1 hat
  obtain ⟨j, m, c, u, rfl, hA'⟩ := isAt_iff.1 hat'
  have e : apartF l ⟨i, k⟩ ⟨j, m⟩ = if fitP l 0 [] = true then (apartS l ⟨i, k⟩ ⟨j, m⟩, orderS (apartS l ⟨i, k⟩ ⟨j, m⟩), 0) else (⟨0, 0⟩, 0, 9) := by
   unfold apartF downE
   rw [if_pos hc]
   cases fitP l 0 [] <;> rfl
  rw [e]
  refine fnV_of mixed tysOk Tryz.func27 rfl (ft := ft27) 3 (by decide +kernel) (by rfl) fun {σ} Y st => ?_
  conv=>whnf
  refine CallA_fz (ds := [l.d, atsD [⟨i, k⟩, ⟨j, m⟩]]) (pa74ok (by simp) hc) 1 [14] rfl rfl ?_
  conv=>whnf
  refine CallA_v (pa75l l hR) rfl rfl ?_
  conv=>whnf
  cases hf : fitP l 0 [] with
  | false =>
   simp only [Bool.false_eq_true, if_false]
   conv=>whnf
   exact RetA_view 0 rfl ⟨⟨rfl, rfl⟩, rfl⟩
  | true =>
   simp only [if_true]
   have h81 := fun {σ} => @pa81 l hR hf _ _ _ _ _ _ _ _ hA hA' σ
   generalize apartS l ⟨i, k⟩ ⟨j, m⟩ = S at h81 ⊢
   conv=>whnf
   refine CallA_v h81 rfl rfl ?_
   conv=>whnf
   unfold orderS
   have hS : (S = ⟨0, 0⟩) ↔ (S.lo = 0 ∧ S.hi = 0) := by cases S; simp
   generalize hB : (decide (S.lo = 0) && (decide (S.hi = 0) && true)) = B
   cases B with
   | true =>
    rw [if_pos (hS.2 (by simpa using hB))]
    conv=>whnf
    exact RetA_view 0 rfl ⟨⟨rfl, rfl⟩, rfl⟩
   | false =>
    rw [if_neg (fun h => by have := hS.1 h; rw [this.1, this.2] at hB; cases hB)]
    conv=>whnf
    refine brk_i (fun h1 => ?_) (fun h1 => ?_)
    ·rw [if_pos (of_decide_eq_true h1)]
     conv=>whnf
     exact RetA_view 0 rfl ⟨⟨rfl, rfl⟩, rfl⟩
    ·rw [if_neg (of_decide_eq_false h1)]
     conv=>whnf
     refine brk_i (fun h2 => ?_) (fun h2 => ?_)
     ·rw [if_pos (of_decide_eq_true h2)]
      conv=>whnf
      exact RetA_view 0 rfl ⟨⟨rfl, rfl⟩, rfl⟩
     ·rw [if_neg (of_decide_eq_false h2)]
      conv=>whnf
      exact RetA_view 0 rfl ⟨⟨rfl, rfl⟩, rfl⟩
 ·obtain ⟨e1, e2⟩ := downE_no hc
  have e : apartF l x z = (⟨0, 0⟩, 0, entrP l [x, z]) := by
   unfold apartF
   rw [if_neg e2, e1]
  rw [e]
  refine fnV_of mixed tysOk Tryz.func27 rfl (ft := ft27) 3 (by decide +kernel) (by rfl) fun {σ} Y st => ?_
  conv=>whnf
  refine CallA_fz (ds := [l.d, atsD [x, z]]) (pa74no (by simp) hc) 1 [14] rfl rfl ?_
  generalize entrP l [x, z] = E at hc ⊢
  conv=>whnf
  refine brk_i (fun h => absurd h (by simpa using hc)) (fun _ => ?_)
  conv=>whnf
  refine brk_i (fun _ => ?_) (fun h => absurd hc (by simpa using h))
  conv=>whnf
  exact RetA_view 0 rfl ⟨⟨rfl, rfl⟩, rfl⟩
theorem pa21 (l : PLog) (book : Int) : FnV Tryz.prog 21 [l.d, i64 book] (.tup [spansD (offsF l book).1, i64 (offsF l book).2]) := by
 unfold offsF
 refine fnV_of mixed tysOk Tryz.func21 rfl (ft := ft21) 2 (by decide +kernel) (by rfl) fun {σ} Y st => ?_
 conv=>whnf
 by_cases hc : checkN l = 0
 ·rw [if_pos hc]
  have hR := check_ok hc
  have hbl := hR.books
  refine CallA_v (pa17k l 0 0 0 (checkP_ok hc)) rfl rfl ?_
  conv=>whnf
  refine arith_to ((l.books.length : Int) - 1) (by simp) (wrap_i64 (by omega)) ?_
  conv=>whnf
  refine CallA_view (out_1 0 ((l.books.length : Int) - 1) book) rfl 1 rfl ?_
  cases h1 : outB book 0 ((l.books.length : Int) - 1) with
  | true =>
   simp only [if_true]
   conv=>whnf
   refine RetA_nil0 ?_
   exact RetA_view 0 rfl ⟨⟨rfl, rfl⟩, rfl⟩
  | false =>
   simp only [Bool.false_eq_true, if_false]
   have h1 := outB_iff.1 h1
   obtain ⟨i, rfl⟩ : ∃ i : Nat, book = i := ⟨book.toNat, by omega⟩
   obtain ⟨b, hb⟩ : ∃ b, l.books[i]? = some b := ⟨_, List.getElem?_eq_getElem (by omega)⟩
   have hba : bookAt l i = b := by unfold bookAt; rw [Int.toNat_natCast, hb]; rfl
   conv=>whnf
   refine CallA_nil2 ?_
   refine CallA_v (pa68n l hR) rfl rfl ?_
   conv=>whnf
   refine CallA_v (pa70) rfl rfl ?_
   conv=>whnf
   obtain ⟨m, hm⟩ := pa69l l hR 0 (by omega) []
   refine CallA_v (hm) rfl rfl ?_
   conv=>whnf
   cases hf : fitP l 0 [] with
   | false =>
    simp only [Bool.false_eq_true, if_false]
    conv=>whnf
    refine RetA_nil0 ?_
    exact RetA_view 0 rfl ⟨⟨rfl, rfl⟩, rfl⟩
   | true =>
    simp only [if_true]
    unfold offsL
    rw [hba]
    conv=>whnf
    refine elemK_i b.cells ⟨by omega, by rw [Int.toNat_natCast, List.getElem?_map, hb]; rfl⟩ ?_
    conv=>whnf
    have hbe := (hR.book b (List.mem_of_getElem? hb)).ents
    have hsl := setsN_le b
    refine LoopA_i (T := tys) tysOk (by exact drawsB_spec mixed tysOk (by decide +kernel)) b.ents (fun k (n : Nat) => ⟨[(1, .d (i64 i)), (4, .d .nils), (6, .d (lookD l (lookF l 0 []))), (9, .d (i64 n)), (46, .d (entsD b.ents)), (47, .d (i64 b.ents.length)), (48, .d (i64 k))], [], st⟩) (fun k r n => n + setsN r = setsN b.ents) 0 ?_ (by simp) ?_ ?_
    ·exact (Wk.sub (by repeat' first|exact trivial|refine⟨?_,?_⟩|rfl|(simp only[List.length_map];rfl)|simp[PX.get]) trivial)
    ·rintro k y r n hyk hk hr he
     rw [setsN_cons] at he
     conv=>whnf
     refine brk_i (fun _ => ?_) (fun h => absurd hk (by simpa using h))
     conv=>whnf
     refine elemK_nat hyk ?_
     conv=>whnf
     refine brk_i (fun h2 => ?_) (fun h2 => ?_)
     ·rw [if_pos (of_decide_eq_true h2)] at he
      conv=>whnf
      refine arith_to (((n + 1 : Nat) : Int)) (by (try dsimp only); omega) (wrap_i64 (by (try dsimp only); omega)) ?_
      conv=>whnf
      refine arith_in (wrap_i64 (by (try dsimp only); omega)) ?_
      conv=>whnf
      exact ⟨n + 1, by omega, (Wk.sub (by repeat' first|exact trivial|refine⟨?_,?_⟩|rfl|(simp only[List.length_map];rfl)|simp[PX.get]) trivial)⟩
     ·rw [if_neg (of_decide_eq_false h2)] at he
      conv=>whnf
      refine arith_in (wrap_i64 (by (try dsimp only); omega)) ?_
      conv=>whnf
      exact ⟨n, by omega, (Wk.sub (by repeat' first|exact trivial|refine⟨?_,?_⟩|rfl|(simp only[List.length_map];rfl)|simp[PX.get]) trivial)⟩
    ·rintro n he
     have he : n = setsN b.ents := he
     subst he
     conv=>whnf
     refine brk_i (fun h => absurd h (by simp)) (fun _ => ?_)
     conv=>whnf
     generalize hN : setsN b.ents = N at hsl ⊢
     generalize hF : (fun (n : Nat) => aheadF (lookF l 0 []) ⟨(i : Int), (n : Int)⟩ .right) = F
     refine arith_to (((N + 1 : Nat) : Int)) (by (try dsimp only); omega) (wrap_i64 (by (try dsimp only); omega)) ?_
     conv=>whnf
     refine LoopA_p (T := tys) tysOk (by exact drawsB_spec mixed tysOk (by decide +kernel)) (α := Nat × List Span) (fun z => ⟨[(1, .d (i64 i)), (4, .sl 71 2 0 z.2.length), (6, .d (lookD l (lookF l 0 []))), (59, .d (i64 (N + 1 : Nat))), (60, .d (i64 z.1))], [(71, .arr 2 (.dd (z.2.map Span.cells)))], st⟩) (fun z => z.1 ≤ N + 1 ∧ z.2 = (List.range z.1).map F) (fun z => N + 1 - z.1) (0, []) ?_ ⟨Nat.zero_le _, rfl⟩ ?_
     ·exact (Wk.born 4 71 2 rfl rfl rfl).trans (Wk.sub (by repeat' first|exact trivial|refine⟨?_,?_⟩|rfl|(simp only[List.length_map];rfl)|simp[PX.get]) ⟨(by first | rfl | (simp only [List.length_map]; rfl) | simp [PX.get]), trivial⟩)
     rintro ⟨k, acc⟩ ⟨hk, hacc⟩
     simp only at hk hacc
     conv=>whnf
     refine brk_i (fun h3 => ?_) (fun h3 => ?_)
     ·have h3 : k < N + 1 := by have := of_decide_eq_true h3; simp only at this; omega
      have hn := per_node hb (n := k) (by omega)
      have h72 := fun {σ} => @pa72l l hR hf _ _ hn (right_node l) σ
      have hFk : F k = aheadF (lookF l 0 []) ⟨(i : Int), (k : Int)⟩ .right := by rw [← hF]
      rw [← hFk] at h72
      have hal : acc.length = k := by rw [hacc]; simp
      conv=>whnf
      refine CallA_v (pa70) rfl rfl ?_
      conv=>whnf
      refine CallA_v (ds := [lookD l (lookF l 0 []), Per.d ⟨(i : Int), (k : Int)⟩, Per.right.d]) h72 rfl rfl ?_
      conv=>whnf
      refine ownK_whole rfl ?_
      conv=>whnf
      refine ownK_whole (by simp [Els.len]) ?_
      conv=>whnf
      refine chk_i (decide_eq_true (by
       show ((acc.map Span.cells).length + 1) * 16 ≤ 140737488355328
       rw [List.length_map]; omega)) ?_
      conv=>whnf
      refine arith_in (wrap_i64 (by (try dsimp only); omega)) ?_
      conv=>whnf
      refine ⟨(k + 1, acc ++ [F k]), by simp only; omega, ⟨by simp only; omega, by simp only; rw [List.range_succ, List.map_append, hacc]; rfl⟩, Wk.sub ⟨rfl, ?_, rfl, rfl, rfl, trivial⟩ ⟨?_, trivial⟩⟩
      ·show some (V.sl 71 2 0 ((acc.map Span.cells).length + 1)) = _
       simp
      ·show some (Obj.arr 2 (.dd (acc.map Span.cells ++ [[i64 (F k).lo, i64 (F k).hi]]))) = _
       simp [Span.cells]
     ·have h3 : ¬ k < N + 1 := by have := of_decide_eq_false h3; simp only at this; omega
      have hk2 : k = N + 1 := by omega
      subst hk2
      subst hacc
      conv=>whnf
      refine RetA_view 1 (ds := [spansD ((List.range (N + 1)).map F), i64 0]) (viewL_cons (viewV_sl rfl (by simp)) rfl) ⟨⟨rfl, rfl⟩, rfl⟩
 ·rw [if_neg hc]
  refine CallA_v (pa17k l _ _ _ (checkP_eq l)) rfl rfl ?_
  conv=>whnf
  generalize checkN l = E at hc
  refine brk_i (fun _ => ?_) (fun h => absurd hc (by simpa using h))
  conv=>whnf
  refine RetA_nil0 ?_
  exact RetA_view 0 rfl ⟨⟨rfl, rfl⟩, rfl⟩
end Go.PX
namespace Go.PX
open Go.Proofs
theorem pa29 (l : PLog) (x : PAt) : FnV Tryz.prog 29 [l.d, x.d] (.tup [atsD (sameF l x).1, i64 (sameF l x).2]) := by
 unfold sameF
 by_cases hc : entrP l [x] = 0
 ·rw [if_pos hc]
  obtain ⟨hck, hall⟩ := entr_zero hc
  have hR := check_ok hck
  have hbl := hR.books
  have hat := hall x (by simp)
  obtain ⟨xi, xk, xb, xy, rfl, hA⟩ := isAt_iff.1 hat
  rw [entAt_of hA]
  refine fnV_of mixed tysOk Tryz.func29 rfl (ft := ft29) 2 (by decide +kernel) (by rfl) fun {σ} Y st => ?_
  conv=>whnf
  refine CallA_fz (ds := [l.d, atsD [⟨xi, xk⟩]]) (pa74ok (by simp) hc) 1 [20] rfl rfl ?_
  conv=>whnf
  refine CallA_v (pa76 l (lookF l 0 []) hA) rfl rfl ?_
  conv=>whnf
  refine CallA_v (pa83 xy) rfl rfl ?_
  conv=>whnf
  by_cases h1 : xy.kind = 1
  ·rw [if_pos h1]
   have ht : tellD xy = .ifc 138 (.agg [.str xy.word]) := by unfold tellD; rw [if_pos h1]
   rw [ht]
   conv=>whnf
   refine CallA_v (pa75l l hR) rfl rfl ?_
   conv=>whnf
   cases hf : fitP l 0 [] with
   | false =>
    simp only [Bool.false_eq_true, if_false]
    conv=>whnf
    refine RetA_nil0 ?_
    exact RetA_view 0 rfl ⟨⟨rfl, rfl⟩, rfl⟩
   | true =>
    simp only [if_true]
    conv=>whnf
    generalize hT : sameLP l ⟨xi, xk⟩ 0 l.books = T
    refine LoopA_i (T := tys) tysOk (by exact drawsB_spec mixed tysOk (by decide +kernel)) l.books (fun i (acc : List PAt) => ⟨[(2, .ptr 2 0), (3, .ptr 3 0), (4, .sl 100 2 0 acc.length), (6, .d (lookD l (lookF l 0 []))), (7, .ptr 7 0), (43, .d (booksD l.books)), (44, .d (i64 l.books.length)), (45, .d (i64 i))], [(2, .box (.dd l.cells)), (3, .box (.dd (PAt.mk xi xk).cells)), (7, .box (.dd [.str xy.word])), (100, .arr 2 (.dd (acc.map PAt.cells)))], st⟩) (fun i r acc => acc ++ sameLP l ⟨xi, xk⟩ i r = T ∧ acc.length ≤ 8 * i) [] ?_ ⟨hT, by simp⟩ ?_ ?_
    ·exact (Wk.born 4 100 2 rfl rfl rfl).trans (Wk.sub (by repeat' first|exact trivial|refine⟨?_,?_⟩|rfl|(simp only[List.length_map];rfl)|simp[PX.get]) (by repeat' first|exact trivial|refine⟨?_,?_⟩|rfl|(simp only[List.length_map];rfl)|simp[PX.get]))
    ·rintro i b r acc hb hi hr ⟨he, hal⟩
     rw [sameLP] at he
     have hB := hR.book b (List.mem_of_getElem? hb)
     have hbe := hB.ents
     conv=>whnf
     refine brk_i (fun _ => ?_) (fun h => absurd hi (by simpa using h))
     conv=>whnf
     refine elemK_nat hb ?_
     conv=>whnf
     refine LoopA_i (T := tys) tysOk (by exact drawsB_spec mixed tysOk (by decide +kernel)) b.ents (fun k (acc : List PAt) => ⟨[(2, .ptr 2 0), (3, .ptr 3 0), (4, .sl 100 2 0 acc.length), (6, .d (lookD l (lookF l 0 []))), (7, .ptr 7 0), (9, .d (i64 i)), (43, .d (booksD l.books)), (44, .d (i64 l.books.length)), (45, .d (i64 i)), (51, .d (entsD b.ents)), (52, .d (i64 b.ents.length)), (53, .d (i64 k))], [(2, .box (.dd l.cells)), (3, .box (.dd (PAt.mk xi xk).cells)), (7, .box (.dd [.str xy.word])), (100, .arr 2 (.dd (acc.map PAt.cells)))], st⟩) (fun k q acc => acc ++ (sameE l ⟨xi, xk⟩ i k q ++ sameLP l ⟨xi, xk⟩ (i + 1) r) = T ∧ acc.length ≤ 8 * i + k) acc ?_ ⟨he, by omega⟩ ?_ ?_
     ·exact (Wk.sub (by repeat' first|exact trivial|refine⟨?_,?_⟩|rfl|(simp only[List.length_map];rfl)|simp[PX.get]) (by repeat' first|exact trivial|refine⟨?_,?_⟩|rfl|(simp only[List.length_map];rfl)|simp[PX.get]))
     ·rintro k y q acc hy hk hq ⟨hin, hal⟩
      rw [sameE] at hin
      have hA' : At l i k b y := ⟨hb, hy⟩
      have hyk := (hB.ent y (List.mem_of_getElem? hy)).2.1
      conv=>whnf
      refine brk_i (fun _ => ?_) (fun h => absurd hk (by simpa using h))
      conv=>whnf
      refine elemK_nat hy ?_
      conv=>whnf
      refine CallA_v (pa83 y) rfl rfl ?_
      generalize hSB : sameB l ⟨xi, xk⟩ i k y = SB at hin
      unfold sameB at hSB
      simp only [entAt_of hA] at hSB
      by_cases k1 : y.kind = 1
      ·have ht2 : tellD y = .ifc 138 (.agg [.str y.word]) := by unfold tellD; rw [if_pos k1]
       rw [ht2]
       rw [decide_eq_true k1, Bool.true_and] at hSB
       conv=>whnf
       generalize hd : decide (((i : Nat) : Int) = (PAt.mk (xi : Nat) (xk : Nat)).book) = Dd at hSB ⊢
       cases Dd with
       | true =>
        simp only [Bool.not_true, Bool.false_and] at hSB
        subst hSB
        simp only [Bool.false_eq_true, if_false] at hin
        conv=>whnf
        refine arith_in (wrap_i64 (by (try dsimp only); omega)) ?_
        conv=>whnf
        exact ⟨acc, ⟨hin, by omega⟩, (Wk.sub (by repeat' first|exact trivial|refine⟨?_,?_⟩|rfl|(simp only[List.length_map];rfl)|simp[PX.get]) (by repeat' first|exact trivial|refine⟨?_,?_⟩|rfl|(simp only[List.length_map];rfl)|simp[PX.get]))⟩
       | false =>
        simp only [Bool.not_false, Bool.true_and] at hSB
        conv=>whnf
        generalize hw : decide (y.word = xy.word) = Dw at hSB ⊢
        cases Dw with
        | false =>
         simp only [Bool.false_and] at hSB
         subst hSB
         simp only [Bool.false_eq_true, if_false] at hin
         conv=>whnf
         refine arith_in (wrap_i64 (by (try dsimp only); omega)) ?_
         conv=>whnf
         exact ⟨acc, ⟨hin, by omega⟩, (Wk.sub (by repeat' first|exact trivial|refine⟨?_,?_⟩|rfl|(simp only[List.length_map];rfl)|simp[PX.get]) (by repeat' first|exact trivial|refine⟨?_,?_⟩|rfl|(simp only[List.length_map];rfl)|simp[PX.get]))⟩
        | true =>
         simp only [Bool.true_and] at hSB
         have h81 := fun {σ} => @pa81 l hR hf _ _ _ _ _ _ _ _ hA hA' σ
         generalize apartS l ⟨xi, xk⟩ ⟨i, k⟩ = S at h81 hSB
         conv=>whnf
         refine CallA_v (ds := [lookD l (lookF l 0 []), (PAt.mk xi xk).d, (PAt.mk i k).d]) h81 rfl rfl ?_
         conv=>whnf
         have hnr := hR.near
         generalize hd1 : decide (S.lo ≤ l.near) = D1 at hSB ⊢
         cases D1 with
         | false =>
          simp only [Bool.false_and] at hSB
          subst hSB
          simp only [Bool.false_eq_true, if_false] at hin
          conv=>whnf
          refine arith_in (wrap_i64 (by (try dsimp only); omega)) ?_
          conv=>whnf
          exact ⟨acc, ⟨hin, by omega⟩, (Wk.sub (by repeat' first|exact trivial|refine⟨?_,?_⟩|rfl|(simp only[List.length_map];rfl)|simp[PX.get]) (by repeat' first|exact trivial|refine⟨?_,?_⟩|rfl|(simp only[List.length_map];rfl)|simp[PX.get]))⟩
         | true =>
          simp only [Bool.true_and] at hSB
          conv=>whnf
          refine arith_to (-l.near) (by omega) (wrap_i64 (by omega)) ?_
          conv=>whnf
          generalize hd2 : decide (-l.near ≤ S.hi) = D2 at hSB ⊢
          cases D2 with
          | false =>
           subst hSB
           simp only [Bool.false_eq_true, if_false] at hin
           conv=>whnf
           refine arith_in (wrap_i64 (by (try dsimp only); omega)) ?_
           conv=>whnf
           exact ⟨acc, ⟨hin, by omega⟩, (Wk.sub (by repeat' first|exact trivial|refine⟨?_,?_⟩|rfl|(simp only[List.length_map];rfl)|simp[PX.get]) (by repeat' first|exact trivial|refine⟨?_,?_⟩|rfl|(simp only[List.length_map];rfl)|simp[PX.get]))⟩
          | true =>
           subst hSB
           simp only [if_true] at hin
           conv=>whnf
           refine ownK_whole rfl ?_
           conv=>whnf
           refine ownK_whole (by simp [Els.len]) ?_
           conv=>whnf
           refine chk_i (decide_eq_true (by
            show ((acc.map PAt.cells).length + 1) * 16 ≤ 140737488355328
            rw [List.length_map]; omega)) ?_
           conv=>whnf
           refine arith_in (wrap_i64 (by (try dsimp only); omega)) ?_
           conv=>whnf
           refine ⟨acc ++ [⟨i, k⟩], ⟨by rw [List.append_assoc]; exact hin, by simp; omega⟩, Wk.sub ⟨rfl, rfl, ?_, rfl, rfl, rfl, rfl, rfl, rfl, rfl, rfl, rfl, trivial⟩ ⟨rfl, rfl, rfl, ?_, trivial⟩⟩
           ·show some (V.sl 100 2 0 ((acc.map PAt.cells).length + 1)) = _
            simp
           ·show some (Obj.arr 2 (.dd (acc.map PAt.cells ++ [[i64 i, i64 k]]))) = _
            simp [PAt.cells]
      ·rw [decide_eq_false k1, Bool.false_and, Bool.and_false] at hSB
       subst hSB
       simp only [Bool.false_eq_true, if_false] at hin
       by_cases k2 : y.kind = 2
       ·have ht2 : tellD y = .ifc 175 (.agg []) := by unfold tellD; rw [if_neg k1, if_pos k2]
        rw [ht2]
        conv=>whnf
        generalize hd : decide (((i : Nat) : Int) = (PAt.mk (xi : Nat) (xk : Nat)).book) = Dd
        cases Dd with
        | true =>
         conv=>whnf
         refine arith_in (wrap_i64 (by (try dsimp only); omega)) ?_
         conv=>whnf
         exact ⟨acc, ⟨hin, by omega⟩, (Wk.sub (by repeat' first|exact trivial|refine⟨?_,?_⟩|rfl|(simp only[List.length_map];rfl)|simp[PX.get]) (by repeat' first|exact trivial|refine⟨?_,?_⟩|rfl|(simp only[List.length_map];rfl)|simp[PX.get]))⟩
        | false =>
         conv=>whnf
         refine arith_in (wrap_i64 (by (try dsimp only); omega)) ?_
         conv=>whnf
         exact ⟨acc, ⟨hin, by omega⟩, (Wk.sub (by repeat' first|exact trivial|refine⟨?_,?_⟩|rfl|(simp only[List.length_map];rfl)|simp[PX.get]) (by repeat' first|exact trivial|refine⟨?_,?_⟩|rfl|(simp only[List.length_map];rfl)|simp[PX.get]))⟩
       ·have ht2 : tellD y = .ifc 156 (.agg [.str y.word, i64 y.number]) := by unfold tellD; rw [if_neg k1, if_neg k2, if_pos (by omega)]
        rw [ht2]
        conv=>whnf
        generalize hd : decide (((i : Nat) : Int) = (PAt.mk (xi : Nat) (xk : Nat)).book) = Dd
        cases Dd with
        | true =>
         conv=>whnf
         refine arith_in (wrap_i64 (by (try dsimp only); omega)) ?_
         conv=>whnf
         exact ⟨acc, ⟨hin, by omega⟩, (Wk.sub (by repeat' first|exact trivial|refine⟨?_,?_⟩|rfl|(simp only[List.length_map];rfl)|simp[PX.get]) (by repeat' first|exact trivial|refine⟨?_,?_⟩|rfl|(simp only[List.length_map];rfl)|simp[PX.get]))⟩
        | false =>
         conv=>whnf
         refine arith_in (wrap_i64 (by (try dsimp only); omega)) ?_
         conv=>whnf
         exact ⟨acc, ⟨hin, by omega⟩, (Wk.sub (by repeat' first|exact trivial|refine⟨?_,?_⟩|rfl|(simp only[List.length_map];rfl)|simp[PX.get]) (by repeat' first|exact trivial|refine⟨?_,?_⟩|rfl|(simp only[List.length_map];rfl)|simp[PX.get]))⟩
     ·rintro acc ⟨hin, hal⟩
      rw [sameE, List.nil_append] at hin
      conv=>whnf
      refine brk_i (fun h => absurd h (by simp)) (fun _ => ?_)
      conv=>whnf
      refine arith_in (wrap_i64 (by (try dsimp only); omega)) ?_
      conv=>whnf
      exact ⟨acc, ⟨hin, by omega⟩, (Wk.sub (by repeat' first|exact trivial|refine⟨?_,?_⟩|rfl|(simp only[List.length_map];rfl)|simp[PX.get]) (by repeat' first|exact trivial|refine⟨?_,?_⟩|rfl|(simp only[List.length_map];rfl)|simp[PX.get]))⟩
    ·rintro acc ⟨he, hal⟩
     rw [sameLP, List.append_nil] at he
     subst he
     conv=>whnf
     refine brk_i (fun h => absurd h (by simp)) (fun _ => ?_)
     conv=>whnf
     refine RetA_view 1 (ds := [atsD acc, i64 0]) (viewL_cons (viewV_sl rfl (by simp)) rfl) ⟨⟨rfl, rfl⟩, rfl⟩
  ·rw [if_neg h1]
   have hk := (hR.book xb (List.mem_of_getElem? hA.book)).ent xy (List.mem_of_getElem? hA.ent)
   by_cases h2 : xy.kind = 2
   ·have ht : tellD xy = .ifc 175 (.agg []) := by unfold tellD; rw [if_neg h1, if_pos h2]
    rw [ht]
    conv=>whnf
    refine RetA_nil0 ?_
    exact RetA_view 0 rfl ⟨⟨rfl, rfl⟩, rfl⟩
   ·have ht : tellD xy = .ifc 156 (.agg [.str xy.word, i64 xy.number]) := by unfold tellD; rw [if_neg h1, if_neg h2, if_pos (by omega)]
    rw [ht]
    conv=>whnf
    refine RetA_nil0 ?_
    exact RetA_view 0 rfl ⟨⟨rfl, rfl⟩, rfl⟩
 ·rw [if_neg hc]
  refine fnV_of mixed tysOk Tryz.func29 rfl (ft := ft29) 2 (by decide +kernel) (by rfl) fun {σ} Y st => ?_
  conv=>whnf
  refine CallA_fz (ds := [l.d, atsD [x]]) (pa74no (by simp) hc) 1 [20] rfl rfl ?_
  generalize entrP l [x] = E at hc ⊢
  conv=>whnf
  refine brk_i (fun _ => ?_) (fun h => absurd hc (by simpa using h))
  conv=>whnf
  refine RetA_nil0 ?_
  exact RetA_view 0 rfl ⟨⟨rfl, rfl⟩, rfl⟩
end Go.PX
namespace Go.PX
open Go.Proofs
def nearW : ByteArray := ⟨#[110, 101, 97, 114]⟩
def bookW : ByteArray := ⟨#[98, 111, 111, 107]⟩
def passW : ByteArray := ⟨#[112, 97, 115, 115]⟩
def setW : ByteArray := ⟨#[115, 101, 116]⟩
def reportW : ByteArray := ⟨#[114, 101, 112, 111, 114, 116]⟩
def bookWs (b : PBook) : List Wd := [.s bookW, .s b.name, .n b.off.lo, .n b.off.hi, .n b.set.lo, .n b.set.hi]
def entWs (x : PEnt) : List Wd :=
 if x.kind = 1 then [.s passW, .n x.shown, .s x.word] else if x.kind = 2 then [.s setW, .n x.shown] else [.s reportW, .n x.shown, .s x.word, .n x.number]
def entsT : List PEnt → ByteArray
 | [] => .empty
 | y :: r => rowT (entWs y) ++ entsT r
def bookT (b : PBook) : ByteArray := rowT (bookWs b) ++ entsT b.ents
def booksT : List PBook → ByteArray
 | [] => .empty
 | b :: r => bookT b ++ booksT r
def logT (l : PLog) : ByteArray := rowT [.s nearW, .n l.near] ++ booksT l.books
theorem pa187 (w : ByteArray) : FnU Tryz.prog 187 [.d (.agg [.str w])] [] fun v h' => v = .sl 2000000 1 0 3 ∧ h' = [(2000000, .arr 1 (.dd [[.ifc 9 (.str passW)], [.nili], [.ifc 9 (.str w)]]))] := by
 intro σ Y st
 refine fnC_of mixed tysOk Tryz.func187 rfl (ft := ft187) (args := [.d (.agg [.str w])]) (show fnB ft187 Tryz.f187 1 = true from by decide +kernel) ?_
 conv=>whnf
 exact RetA_hand [7] [.sl 2000000 1 0 3] [(2000000, .arr 1 (.dd [[.ifc 9 (.str passW)], [.nili], [.ifc 9 (.str w)]]))] rfl ⟨rfl, trivial⟩ rfl ⟨⟨rfl, rfl⟩, rfl⟩
theorem pa189 : FnU Tryz.prog 189 [.d (.agg [])] [] fun v h' => v = .sl 2000000 1 0 2 ∧ h' = [(2000000, .arr 1 (.dd [[.ifc 9 (.str setW)], [.nili]]))] := by
 intro σ Y st
 refine fnC_of mixed tysOk Tryz.func189 rfl (ft := ft189) (args := [.d (.agg [])]) (show fnB ft189 Tryz.f189 1 = true from by decide +kernel) ?_
 conv=>whnf
 exact RetA_hand [4] [.sl 2000000 1 0 2] [(2000000, .arr 1 (.dd [[.ifc 9 (.str setW)], [.nili]]))] rfl ⟨rfl, trivial⟩ rfl ⟨⟨rfl, rfl⟩, rfl⟩
theorem pa188 (w : ByteArray) (n : Int) : FnU Tryz.prog 188 [.d (.agg [.str w, i64 n])] [] fun v h' => v = .sl 2000000 1 0 4 ∧ h' = [(2000000, .arr 1 (.dd [[.ifc 9 (.str reportW)], [.nili], [.ifc 9 (.str w)], [.ifc 3 (i64 n)]]))] := by
 intro σ Y st
 refine fnC_of mixed tysOk Tryz.func188 rfl (ft := ft188) (args := [.d (.agg [.str w, i64 n])]) (show fnB ft188 Tryz.f188 1 = true from by decide +kernel) ?_
 conv=>whnf
 exact RetA_hand [10] [.sl 2000000 1 0 4] [(2000000, .arr 1 (.dd [[.ifc 9 (.str reportW)], [.nili], [.ifc 9 (.str w)], [.ifc 3 (i64 n)]]))] rfl ⟨rfl, trivial⟩ rfl ⟨⟨rfl, rfl⟩, rfl⟩
structure NmL (l : PLog) : Prop where
 name : ∀ b ∈ l.books, b.name.size ≤ 1000
 word : ∀ b ∈ l.books, ∀ x ∈ b.ents, x.word.size ≤ 1000
theorem row_size {l : List Wd} (h : ∀ w ∈ l, WdOk w) (hl : l.length ≤ 10) : (rowT l).size ≤ 11011 := by
 rw [rowT, ba_size]
 have h1 : nlB.size = 1 := rfl
 cases l with
 | nil => show (0 : Nat) + 1 ≤ _; omega
 | cons w r =>
  have h2 := wd_size (h w (List.mem_cons_self ..))
  have h3 := tail_size fun x hx => h x (List.mem_cons_of_mem w hx)
  rw [wordsW, ba_size]
  rw [List.length_cons] at hl
  omega
theorem bookWs_ok {b : PBook} (h : BookR b) (hn : b.name.size ≤ 1000) : ∀ w ∈ bookWs b, WdOk w := by
 intro w hw
 have ho := h.off
 have hs := h.set
 simp only [bookWs, List.mem_cons, List.not_mem_nil, or_false] at hw
 rcases hw with rfl | rfl | rfl | rfl | rfl | rfl
 ·show bookW.size ≤ 1000; decide
 ·exact hn
 ·unfold WdOk; omega
 ·unfold WdOk; omega
 ·unfold WdOk; omega
 ·unfold WdOk; omega
theorem entWs_ok {x : PEnt} (h : (0 ≤ x.shown ∧ x.shown ≤ 20000) ∧ (1 ≤ x.kind ∧ x.kind ≤ 3) ∧ (0 ≤ x.number ∧ x.number ≤ 99)) (hn : x.word.size ≤ 1000) : ∀ w ∈ entWs x, WdOk w := by
 intro w hw
 unfold entWs at hw
 split at hw
 ·simp only [List.mem_cons, List.not_mem_nil, or_false] at hw
  rcases hw with rfl | rfl | rfl
  ·show passW.size ≤ 1000; decide
  ·unfold WdOk; omega
  ·exact hn
 ·split at hw
  ·simp only [List.mem_cons, List.not_mem_nil, or_false] at hw
   rcases hw with rfl | rfl
   ·show setW.size ≤ 1000; decide
   ·unfold WdOk; omega
  ·simp only [List.mem_cons, List.not_mem_nil, or_false] at hw
   rcases hw with rfl | rfl | rfl | rfl
   ·show reportW.size ≤ 1000; decide
   ·unfold WdOk; omega
   ·exact hn
   ·unfold WdOk; omega
theorem entWs_len (y : PEnt) : (entWs y).length ≤ 10 := by
 unfold entWs
 split
 ·simp
 ·split <;> simp
theorem entsT_size : ∀ {r : List PEnt}, (∀ x ∈ r, ((0 ≤ x.shown ∧ x.shown ≤ 20000) ∧ (1 ≤ x.kind ∧ x.kind ≤ 3) ∧ (0 ≤ x.number ∧ x.number ≤ 99)) ∧ x.word.size ≤ 1000) → (entsT r).size ≤ 11011 * r.length
 | [], _ => Nat.zero_le _
 | y :: r, h => by
  have h1 := entsT_size (r := r) fun x hx => h x (List.mem_cons_of_mem _ hx)
  obtain ⟨h2, h3⟩ := h y (List.mem_cons_self ..)
  have h4 := row_size (entWs_ok h2 h3) (entWs_len y)
  rw [entsT, ba_size, List.length_cons]
  omega
theorem booksT_size : ∀ {r : List PBook}, (∀ b ∈ r, BookR b ∧ b.name.size ≤ 1000 ∧ ∀ x ∈ b.ents, x.word.size ≤ 1000) → (booksT r).size ≤ 100000 * r.length
 | [], _ => Nat.zero_le _
 | b :: r, h => by
  have h1 := booksT_size (r := r) fun x hx => h x (List.mem_cons_of_mem _ hx)
  obtain ⟨h2, h3, h4⟩ := h b (List.mem_cons_self ..)
  have h5 := row_size (bookWs_ok h2 h3) (by simp [bookWs])
  have h6 := entsT_size (r := b.ents) fun x hx => ⟨h2.ent x hx, h4 x hx⟩
  have h7 := h2.ents
  rw [booksT, bookT, ba_size, ba_size, List.length_cons]
  omega
theorem logT_size {l : PLog} (hR : LogR l) (hN : NmL l) : (logT l).size ≤ 400000 := by
 have h1 := booksT_size (r := l.books) fun b hb => ⟨hR.book b hb, hN.name b hb, hN.word b hb⟩
 have h2 := hR.near
 have h3 := hR.books
 have h4 := row_size (l := [.s nearW, .n l.near]) (by
  intro w hw
  simp only [List.mem_cons, List.not_mem_nil, or_false] at hw
  rcases hw with rfl | rfl
  ·show nearW.size ≤ 1000; decide
  ·unfold WdOk; omega) (by simp)
 rw [logT, ba_size]
 omega
set_option maxHeartbeats 4000000 in
theorem pa91 (l : PLog) (hR : LogR l) (hN : NmL l) : FnV Tryz.prog 91 [l.d] (.str (logT l)) := by
 refine fnV_of mixed tysOk Tryz.func91 rfl (ft := ft91) 1 (by decide +kernel) (by rfl) fun {σ} Y st => ?_
 conv=>whnf
 have hnr := hR.near
 refine CallA_frzP 1 [16] (args' := [.d (wdsD [.s nearW, .n l.near]), .ptr 3 0]) (by
  show [_, _] = _
  rfl) rfl ?_
 refine CallA_fn (pa117_new nearW (by decide) [.n l.near] (by simp) (by
  intro w hw
  simp only [List.mem_cons, List.not_mem_nil, or_false] at hw
  rcases hw with rfl | rfl
  ·show nearW.size ≤ 1000; decide
  ·unfold WdOk; omega)) [3] rfl ⟨_, _, rfl, rfl, rfl⟩ rfl ?_
 conv=>whnf
 have hTS := logT_size hR hN
 have hbl := hR.books
 generalize hT : logT l = T at hTS
 have hT0 : rowT [.s nearW, .n l.near] ++ booksT l.books = T := hT
 have hr0 : 0 < (rowT [.s nearW, .n l.near]).size := by rw [rowT, ba_size]; have : nlB.size = 1 := rfl; omega
 refine LoopA_i (T := tys) tysOk (by exact drawsB_spec mixed tysOk (by decide +kernel)) l.books (fun i (acc : ByteArray) => ⟨[(3, .ptr 3 0), (4, .clo 117 [.ptr 3 0]), (19, .d (booksD l.books)), (20, .d (i64 l.books.length)), (21, .d (i64 i))], bldU 3 900000 acc, st⟩) (fun i r acc => acc ++ booksT r = T ∧ 0 < acc.size) (rowT [.s nearW, .n l.near]) ?_ ⟨hT0, hr0⟩ ?_ ?_
 ·exact (Wk.move 101088 900000 rfl rfl).trans (Wk.sub (by repeat' first|exact trivial|refine⟨?_,?_⟩|rfl|(simp only[List.length_map];rfl)|simp[PX.get]) (by repeat' first|exact trivial|refine⟨?_,?_⟩|rfl|(simp only[List.length_map];rfl)|simp[PX.get]))
 ·rintro i b r acc hb hi hr ⟨hacc, ha⟩
  have hB := hR.book b (List.mem_of_getElem? hb)
  have hbe := hB.ents
  have hbn := hN.name b (List.mem_of_getElem? hb)
  have hwn := hN.word b (List.mem_of_getElem? hb)
  have hasz : acc.size ≤ T.size := by rw [← hacc, ba_size]; omega
  rw [booksT, bookT, ba_assoc] at hacc
  conv=>whnf
  refine brk_i (fun _ => ?_) (fun h => absurd hi (by simpa using h))
  conv=>whnf
  refine elemK_nat hb ?_
  conv=>whnf
  refine CallA_frzP 1 [46] (args' := [.d (wdsD (bookWs b)), .ptr 3 0]) (by
   show [_, _] = _
   rfl) rfl ?_
  refine CallA_fn (pa117 acc ha (bookWs b) (by simp [bookWs]) (bookWs_ok hB hbn) (by omega) (by simp [bookWs])) [3, 900000] rfl ⟨_, _, rfl, rfl, _, _, rfl, rfl, rfl⟩ rfl ?_
  conv=>whnf
  refine LoopA_i (T := tys) tysOk (by exact drawsB_spec mixed tysOk (by decide +kernel)) b.ents (fun k (acc : ByteArray) => ⟨[(3, .ptr 3 0), (4, .clo 117 [.ptr 3 0]), (19, .d (booksD l.books)), (20, .d (i64 l.books.length)), (21, .d (i64 i)), (49, .d (entsD b.ents)), (50, .d (i64 b.ents.length)), (51, .d (i64 k))], bldU 3 900000 acc, st⟩) (fun k q acc => acc ++ (entsT q ++ booksT r) = T ∧ 0 < acc.size) (acc ++ rowT (bookWs b)) ?_ ⟨by rw [ba_assoc]; exact hacc, by rw [ba_size]; omega⟩ ?_ ?_
  ·exact (Wk.move 103008 900000 rfl rfl).trans (Wk.sub (by repeat' first|exact trivial|refine⟨?_,?_⟩|rfl|(simp only[List.length_map];rfl)|simp[PX.get]) (by repeat' first|exact trivial|refine⟨?_,?_⟩|rfl|(simp only[List.length_map];rfl)|simp[PX.get]))
  ·rintro k y q acc hy hk hq ⟨hacc, ha⟩
   have hyR := hB.ent y (List.mem_of_getElem? hy)
   have hyw := hwn y (List.mem_of_getElem? hy)
   have hwok := entWs_ok hyR hyw
   have hasz : acc.size ≤ T.size := by rw [← hacc, ba_size]; omega
   rw [entsT, ba_assoc] at hacc
   conv=>whnf
   refine brk_i (fun _ => ?_) (fun h => absurd hk (by simpa using h))
   conv=>whnf
   refine elemK_nat hy ?_
   conv=>whnf
   refine CallA_v (pa83 y) rfl rfl ?_
   by_cases h1 : y.kind = 1
   ·have ht : tellD y = .ifc 138 (.agg [.str y.word]) := by unfold tellD; rw [if_pos h1]
    have he : entWs y = [.s passW, .n y.shown, .s y.word] := by unfold entWs; rw [if_pos h1]
    rw [ht]
    rw [he] at hacc hwok
    conv=>whnf
    refine InvA_b 187 (by decide +kernel) ?_
    refine CallA_fn (pa187 y.word) [] rfl rfl rfl ?_
    conv=>whnf
    refine CallA_frzP 1 [103648] (args' := [.d (wdsD [.s passW, .n y.shown, .s y.word]), .ptr 3 0]) (by
     show [_, _] = _
     rfl) rfl ?_
    refine CallA_fn (pa117 acc ha [.s passW, .n y.shown, .s y.word] (by simp) hwok (by omega) (by simp)) [3, 900000] rfl ⟨_, _, rfl, rfl, _, _, rfl, rfl, rfl⟩ rfl ?_
    conv=>whnf
    refine arith_in (wrap_i64 (by (try dsimp only); omega)) ?_
    conv=>whnf
    exact ⟨acc ++ rowT [.s passW, .n y.shown, .s y.word], ⟨by rw [ba_assoc]; exact hacc, by rw [ba_size]; omega⟩, (Wk.move 104160 900000 rfl rfl).trans (Wk.sub (by repeat' first|exact trivial|refine⟨?_,?_⟩|rfl|(simp only[List.length_map];rfl)|simp[PX.get]) (by repeat' first|exact trivial|refine⟨?_,?_⟩|rfl|(simp only[List.length_map];rfl)|simp[PX.get]))⟩
   ·by_cases h2 : y.kind = 2
    ·have ht : tellD y = .ifc 175 (.agg []) := by unfold tellD; rw [if_neg h1, if_pos h2]
     have he : entWs y = [.s setW, .n y.shown] := by unfold entWs; rw [if_neg h1, if_pos h2]
     rw [ht]
     rw [he] at hacc hwok
     conv=>whnf
     refine InvA_b 189 (by decide +kernel) ?_
     refine CallA_fn (pa189) [] rfl rfl rfl ?_
     conv=>whnf
     refine CallA_frzP 1 [103648] (args' := [.d (wdsD [.s setW, .n y.shown]), .ptr 3 0]) (by
      show [_, _] = _
      rfl) rfl ?_
     refine CallA_fn (pa117 acc ha [.s setW, .n y.shown] (by simp) hwok (by omega) (by simp)) [3, 900000] rfl ⟨_, _, rfl, rfl, _, _, rfl, rfl, rfl⟩ rfl ?_
     conv=>whnf
     refine arith_in (wrap_i64 (by (try dsimp only); omega)) ?_
     conv=>whnf
     exact ⟨acc ++ rowT [.s setW, .n y.shown], ⟨by rw [ba_assoc]; exact hacc, by rw [ba_size]; omega⟩, (Wk.move 104160 900000 rfl rfl).trans (Wk.sub (by repeat' first|exact trivial|refine⟨?_,?_⟩|rfl|(simp only[List.length_map];rfl)|simp[PX.get]) (by repeat' first|exact trivial|refine⟨?_,?_⟩|rfl|(simp only[List.length_map];rfl)|simp[PX.get]))⟩
    ·have ht : tellD y = .ifc 156 (.agg [.str y.word, i64 y.number]) := by unfold tellD; rw [if_neg h1, if_neg h2, if_pos (by omega)]
     have he : entWs y = [.s reportW, .n y.shown, .s y.word, .n y.number] := by unfold entWs; rw [if_neg h1, if_neg h2]
     rw [ht]
     rw [he] at hacc hwok
     conv=>whnf
     refine InvA_b 188 (by decide +kernel) ?_
     refine CallA_fn (pa188 y.word y.number) [] rfl rfl rfl ?_
     conv=>whnf
     refine CallA_frzP 1 [103648] (args' := [.d (wdsD [.s reportW, .n y.shown, .s y.word, .n y.number]), .ptr 3 0]) (by
      show [_, _] = _
      rfl) rfl ?_
     refine CallA_fn (pa117 acc ha [.s reportW, .n y.shown, .s y.word, .n y.number] (by simp) hwok (by omega) (by simp)) [3, 900000] rfl ⟨_, _, rfl, rfl, _, _, rfl, rfl, rfl⟩ rfl ?_
     conv=>whnf
     refine arith_in (wrap_i64 (by (try dsimp only); omega)) ?_
     conv=>whnf
     exact ⟨acc ++ rowT [.s reportW, .n y.shown, .s y.word, .n y.number], ⟨by rw [ba_assoc]; exact hacc, by rw [ba_size]; omega⟩, (Wk.move 104160 900000 rfl rfl).trans (Wk.sub (by repeat' first|exact trivial|refine⟨?_,?_⟩|rfl|(simp only[List.length_map];rfl)|simp[PX.get]) (by repeat' first|exact trivial|refine⟨?_,?_⟩|rfl|(simp only[List.length_map];rfl)|simp[PX.get]))⟩
  ·rintro acc ⟨hacc, ha⟩
   rw [entsT] at hacc
   conv=>whnf
   refine brk_i (fun h => absurd h (by simp)) (fun _ => ?_)
   conv=>whnf
   refine arith_in (wrap_i64 (by (try dsimp only); omega)) ?_
   conv=>whnf
   exact ⟨acc, ⟨by rw [← hacc]; simp, ha⟩, (Wk.sub (by repeat' first|exact trivial|refine⟨?_,?_⟩|rfl|(simp only[List.length_map];rfl)|simp[PX.get]) (by repeat' first|exact trivial|refine⟨?_,?_⟩|rfl|(simp only[List.length_map];rfl)|simp[PX.get]))⟩
 ·rintro acc ⟨hacc, ha⟩
  rw [booksT, ba_nil] at hacc
  subst hacc
  conv=>whnf
  refine brk_i (fun h => absurd h (by simp)) (fun _ => ?_)
  conv=>whnf
  refine CallA_fn (pa121 acc ha (by omega)) [3, 900000] rfl ⟨_, _, rfl, rfl, _, _, rfl, rfl, rfl⟩ rfl ?_
  conv=>whnf
  exact RetA_view 0 rfl ⟨⟨rfl, rfl⟩, rfl⟩
theorem nameF_small {s : ByteArray} (h : nameF s = true) : s.size ≤ 1000 := by
 unfold nameF at h
 rw [Bool.and_eq_true, inB_iff] at h
 omega
theorem check_nm {l : PLog} (h : checkN l = 0) : NmL l := by
 obtain ⟨_, _, h3⟩ := check_iff.1 h
 refine ⟨fun b hb => ?_, fun b hb x hx => ?_⟩
 ·obtain ⟨k, hk⟩ := List.getElem?_of_mem hb
  exact nameF_small (headE_iff.1 (h3 k b hk).1).name
 ·have hE := (check_book h hb).2.2.2 x hx
  by_cases h1 : x.kind = 1
  ·exact nameF_small (hE.pass h1).1
  ·by_cases h2 : x.kind = 2
   ·rw [(hE.set h2).1]; decide
   ·exact nameF_small (hE.rep (by have := hE.kind; omega)).1
def writeF (l : PLog) : ByteArray × Int := if checkN l = 0 then (logT l, 0) else (.empty, checkN l)
theorem pa39 (l : PLog) : FnV Tryz.prog 39 [l.d] (.tup [.str (writeF l).1, i64 (writeF l).2]) := by
 unfold writeF
 refine fnV_of mixed tysOk Tryz.func39 rfl (ft := ft39) 1 (by decide +kernel) (by rfl) fun {σ} Y st => ?_
 conv=>whnf
 by_cases hc : checkN l = 0
 ·rw [if_pos hc]
  have hR := check_ok hc
  refine CallA_v (pa17k l 0 0 0 (checkP_ok hc)) rfl rfl ?_
  conv=>whnf
  refine CallA_v (pa91 l hR (check_nm hc)) rfl rfl ?_
  conv=>whnf
  exact RetA_view 0 rfl ⟨⟨rfl, rfl⟩, rfl⟩
 ·rw [if_neg hc]
  refine CallA_v (pa17k l _ _ _ (checkP_eq l)) rfl rfl ?_
  conv=>whnf
  generalize checkN l = E at hc
  refine brk_i (fun _ => ?_) (fun h => absurd hc (by simpa using h))
  conv=>whnf
  exact RetA_view 0 rfl ⟨⟨rfl, rfl⟩, rfl⟩
end Go.PX
namespace Go.PX
open Go.Proofs
open Go.RowKit
theorem num_i {σ : Type} {Y : Hd σ} {e : Env} {h : Heap} {s : σ} {d : Option Nat} {x : ByteArray} {K : St σ → Prop} (hx : x.size ≤ 1000000000)
  (ht : ∀ n, atoiX x = some n → applyK (callWs [] d (.d (i64 n)) []) e h fun e h => K ⟨e, h, s⟩) (hf : atoiX x = none → applyK (callWs [] d (.d (.tup [])) []) e h fun e h => Y.p pan6 (cutO d e) h s) (hd : callB [] d (.d (.tup [])) [] = true) (hd2 : ∀ n, callB [] d (.d (i64 n)) [] = true) : CallA Tryz.prog Y ⟨e, h, s⟩ d 97 [.d (.str x)] K := by
 refine CallA_x (pa97 x hx Y s) [] rfl rfl rfl rfl ?_ ?_
 ·rintro v h1 s' ⟨⟨n, hn, rfl, rfl⟩, rfl⟩
  exact ⟨hd2 n, ht n hn⟩
 ·rintro pv h1 s' ⟨⟨hn, rfl, rfl⟩, rfl⟩
  exact ⟨hd, hf hn⟩
def addB (e : PEnt) : List PBook → List PBook
 | [] => []
 | [b] => [{ b with ents := b.ents ++ [e] }]
 | b :: c :: r => b :: addB e (c :: r)
theorem addB_last (e : PEnt) : ∀ (init : List PBook) (last : PBook), addB e (init ++ [last]) = init ++ [{ last with ents := last.ents ++ [e] }]
 | [], last => rfl
 | [a], last => rfl
 | a :: b :: r, last => by
  show a :: addB e (b :: r ++ [last]) = _
  rw [addB_last e (b :: r) last]; rfl
def four (a b c d : ByteArray) : Option (Int × Int × Int × Int) := match atoiX a with
 | none => none
 | some a => match atoiX b with
  | none => none
  | some b => match atoiX c with
   | none => none
   | some c => match atoiX d with
    | none => none
    | some d => some (a, b, c, d)
def bookF (r : List ByteArray) : Option PBook := match r with
 | [n, a, b, c, d] => (four a b c d).map fun x => ⟨n, ⟨x.1, x.2.1⟩, ⟨x.2.2.1, x.2.2.2⟩, []⟩
 | _ => none
theorem bookF_none {r : List ByteArray} (h : ¬ r.length = 5) : bookF r = none := by
 unfold bookF
 split
 ·exact absurd rfl h
 ·rfl
def entF (h : ByteArray) (r : List ByteArray) : Option PEnt := match r with
 | [] => none
 | s :: q => match atoiX s with
  | none => none
  | some t =>
   if h = passW then (match q with
    | [x] => some ⟨t, 1, x, 0⟩
    | _ => none)
   else if h = setW then (match q with
    | [] => some ⟨t, 2, .empty, 0⟩
    | _ => none)
   else if h = reportW then (match q with
    | [x, n] => (atoiX n).map fun k => ⟨t, 3, x, k⟩
    | _ => none)
   else none
def takeP (l : PLog) (w : List ByteArray) : Option PLog := match w with
 | [] => none
 | h :: r =>
  if h = bookW then (bookF r).map fun b => { l with books := l.books ++ [b] }
  else if l.books = [] then none else (entF h r).map fun e => { l with books := addB e l.books }
theorem takeP_cons (l : PLog) (h : ByteArray) (r : List ByteArray) : takeP l (h :: r) = if h = bookW then (bookF r).map fun b => { l with books := l.books ++ [b] }
  else if l.books = [] then none else (entF h r).map fun e => { l with books := addB e l.books } := rfl
def hdC (b : PBook) : List D := [.str b.name, i64 b.off.lo, i64 b.off.hi, i64 b.set.lo, i64 b.set.hi]
def newC (b : PBook) : List D := hdC b ++ [.nils]
def lg0 (near : Int) : Heap := [(1000000, .box (.vv [.d (i64 near), .sl 1000001 6 0 0])), (1000001, .arr 6 (.dd []))]
def lg1 (b i j : Nat) (near : Int) (init : List PBook) (last : PBook) : Heap :=
 [(b, .box (.vv [.d (i64 near), .sl i 6 0 (init.length + 1)])), (i, .arr 6 (.vv (injL (init.map PBook.cells) ++ [inj (hdC last) ++ [.sl j 4 0 last.ents.length]]))), (j, .arr 4 (.dd (last.ents.map PEnt.cells)))]
def lgB (near : Int) (bs : List PBook) (new : PBook) : Heap :=
 [(1000000, .box (.vv [.d (i64 near), .sl 2000000 6 0 (bs.length + 1)])), (2000000, .arr 6 (.dd (bs.map PBook.cells ++ [newC new])))]
theorem ren_last (R : Nat → Nat) (A : List (List D)) (last : PBook) (j n : Nat) : renO R (.arr 6 (.vv (injL A ++ [inj (hdC last) ++ [.sl j 4 0 n]]))) = .arr 6 (.vv (injL A ++ [inj (hdC last) ++ [.sl (R j) 4 0 n]])) := by
 show Obj.arr 6 (.vv (mapIdLL (renF R) _)) = _
 rw [mapIdLL_injL]; rfl
theorem viewLL_two {g : Nat → Option DO} {v u : List V} {d c : List D} (h : viewL g v = some d) (h2 : viewL g u = some c) : viewLL g [v, u] = some [d, c] := by
 rw [viewLL, h, viewLL_one h2]
theorem take0 (near : Int) (w : List ByteArray) (hw : w ≠ []) (hs : ∀ x ∈ w, x.size ≤ 1000000) (hl : w.length ≤ 1000000) :
  FnXU Tryz.prog 98 [.ptr 1000000 0, .d (wordsD w)] (lg0 near) (fun v h' => ∃ h r b, w = h :: r ∧ h = bookW ∧ bookF r = some b ∧ v = .d (.tup []) ∧ h' = lgB near [] b) (fun pv h' => takeP ⟨near, []⟩ w = none ∧ pv = pan6 ∧ h' = lg0 near) := by
 intro σ Y st
 refine fnX_of mixed tysOk Tryz.func98 rfl (ft := ft98) (args := [.ptr 1000000 0, .d (wordsD w)]) (show fnB ft98 Tryz.f98 2 = true from by decide +kernel) ?_
 match w, hw with
 | h :: r, _ =>
 conv=>whnf
 refine brk_i (fun h1 => ?_) (fun h1 => ?_)
 ·have h1 : h = bookW := of_decide_eq_true h1
  conv=>whnf
  refine must_i rfl (fun h2 => ?_) (fun h2 => ?_)
  ·have h2 : r.length = 5 := by
    have := of_decide_eq_true h2
    simp at this; omega
   match r, h2 with
   | [n, a, b, c, d], _ =>
   conv=>whnf
   refine LoopA_p (T := tys) tysOk (by exact drawsB_spec mixed tysOk (by decide +kernel)) (α := Nat × (Int × Int × Int × Int)) (fun z => ⟨[(0, .ptr 1000000 0), (1, .d (wordsD [h, n, a, b, c, d])), (4, .ptr 4 0), (29, .sl 29 1 0 4), (30, .d (i64 4)), (31, .d (i64 z.1))], (29, .arr 1 (.vv [[.ptr 4 1], [.ptr 4 2], [.ptr 4 3], [.ptr 4 4]])) :: (4, .box (.dd [.str n, i64 z.2.1, i64 z.2.2.1, i64 z.2.2.2.1, i64 z.2.2.2.2, .nils])) :: lg0 near, st⟩) (fun z => z.1 ≤ 4 ∧ (1 ≤ z.1 → atoiX a = some z.2.1) ∧ (2 ≤ z.1 → atoiX b = some z.2.2.1) ∧ (3 ≤ z.1 → atoiX c = some z.2.2.2.1) ∧ (4 ≤ z.1 → atoiX d = some z.2.2.2.2)) (fun z => 4 - z.1) (0, (0, 0, 0, 0)) (Wk.sub (by repeat' first|exact trivial|refine⟨?_,?_⟩|rfl|(simp only[List.length_map];rfl)|simp[PX.get]) (by repeat' first|exact trivial|refine⟨?_,?_⟩|rfl|(simp only[List.length_map];rfl)|simp[PX.get])) ⟨by simp, by simp, by simp, by simp, by simp⟩ ?_
   rintro ⟨i, x0, x1, x2, x3⟩ ⟨hi, ha, hb, hc, hd⟩
   simp only at hi ha hb hc hd
   obtain rfl | rfl | rfl | rfl | rfl : i = 0 ∨ i = 1 ∨ i = 2 ∨ i = 3 ∨ i = 4 := by omega
   ·have hsz : ByteArray.size a ≤ 1000000000 := by have := hs a (by simp); omega
    conv=>whnf
    refine arith_to (2) (by simp) (wrap_i64 (by omega)) ?_
    conv=>whnf
    refine num_i hsz (fun k hk => ?_) (fun hk => ?_) rfl (by intro k; rfl)
    ·conv=>whnf
     exact ⟨(1, (k, x1, x2, x3)), by simp only; omega, ⟨by simp only; omega, by simp_all⟩, (Wk.sub (by repeat' first|exact trivial|refine⟨?_,?_⟩|rfl|(simp only[List.length_map];rfl)|simp[PX.get]) (by repeat' first|exact trivial|refine⟨?_,?_⟩|rfl|(simp only[List.length_map];rfl)|simp[PX.get]))⟩
    ·conv=>whnf
     refine RetA_hand [] [] (lg0 near) rfl ⟨rfl, rfl, trivial⟩ rfl ⟨⟨?_, rfl, rfl⟩, rfl⟩
     rw [takeP_cons, if_pos h1]; unfold bookF four
     simp_all
   ·have hsz : ByteArray.size b ≤ 1000000000 := by have := hs b (by simp); omega
    conv=>whnf
    refine arith_to (3) (by simp) (wrap_i64 (by omega)) ?_
    conv=>whnf
    refine num_i hsz (fun k hk => ?_) (fun hk => ?_) rfl (by intro k; rfl)
    ·conv=>whnf
     exact ⟨(2, (x0, k, x2, x3)), by simp only; omega, ⟨by simp only; omega, by simp_all⟩, (Wk.sub (by repeat' first|exact trivial|refine⟨?_,?_⟩|rfl|(simp only[List.length_map];rfl)|simp[PX.get]) (by repeat' first|exact trivial|refine⟨?_,?_⟩|rfl|(simp only[List.length_map];rfl)|simp[PX.get]))⟩
    ·conv=>whnf
     refine RetA_hand [] [] (lg0 near) rfl ⟨rfl, rfl, trivial⟩ rfl ⟨⟨?_, rfl, rfl⟩, rfl⟩
     rw [takeP_cons, if_pos h1]; unfold bookF four
     simp_all
   ·have hsz : ByteArray.size c ≤ 1000000000 := by have := hs c (by simp); omega
    conv=>whnf
    refine arith_to (4) (by simp) (wrap_i64 (by omega)) ?_
    conv=>whnf
    refine num_i hsz (fun k hk => ?_) (fun hk => ?_) rfl (by intro k; rfl)
    ·conv=>whnf
     exact ⟨(3, (x0, x1, k, x3)), by simp only; omega, ⟨by simp only; omega, by simp_all⟩, (Wk.sub (by repeat' first|exact trivial|refine⟨?_,?_⟩|rfl|(simp only[List.length_map];rfl)|simp[PX.get]) (by repeat' first|exact trivial|refine⟨?_,?_⟩|rfl|(simp only[List.length_map];rfl)|simp[PX.get]))⟩
    ·conv=>whnf
     refine RetA_hand [] [] (lg0 near) rfl ⟨rfl, rfl, trivial⟩ rfl ⟨⟨?_, rfl, rfl⟩, rfl⟩
     rw [takeP_cons, if_pos h1]; unfold bookF four
     simp_all
   ·have hsz : ByteArray.size d ≤ 1000000000 := by have := hs d (by simp); omega
    conv=>whnf
    refine arith_to (5) (by simp) (wrap_i64 (by omega)) ?_
    conv=>whnf
    refine num_i hsz (fun k hk => ?_) (fun hk => ?_) rfl (by intro k; rfl)
    ·conv=>whnf
     exact ⟨(4, (x0, x1, x2, k)), by simp only; omega, ⟨by simp only; omega, by simp_all⟩, (Wk.sub (by repeat' first|exact trivial|refine⟨?_,?_⟩|rfl|(simp only[List.length_map];rfl)|simp[PX.get]) (by repeat' first|exact trivial|refine⟨?_,?_⟩|rfl|(simp only[List.length_map];rfl)|simp[PX.get]))⟩
    ·conv=>whnf
     refine RetA_hand [] [] (lg0 near) rfl ⟨rfl, rfl, trivial⟩ rfl ⟨⟨?_, rfl, rfl⟩, rfl⟩
     rw [takeP_cons, if_pos h1]; unfold bookF four
     simp_all
   have ha := ha (by omega)
   have hb := hb (by omega)
   have hc := hc (by omega)
   have hd := hd (by omega)
   conv=>whnf
   refine ownK_whole rfl ?_
   conv=>whnf
   refine ownK_whole rfl ?_
   conv=>whnf
   have hbF : bookF [n, a, b, c, d] = some ⟨n, ⟨x0, x1⟩, ⟨x2, x3⟩, []⟩ := by simp [bookF, four, ha, hb, hc, hd]
   exact RetA_hand [52] [] (lgB near [] ⟨n, ⟨x0, x1⟩, ⟨x2, x3⟩, []⟩) rfl ⟨rfl, rfl, trivial⟩ rfl ⟨⟨_, _, _, rfl, h1, hbF, rfl, rfl⟩, rfl⟩
  ·have h2 : ¬ r.length = 5 := by
    have := of_decide_eq_false h2
    simp at this; omega
   conv=>whnf
   refine RetA_hand [] [] (lg0 near) rfl ⟨rfl, rfl, trivial⟩ rfl ⟨⟨?_, rfl, rfl⟩, rfl⟩
   rw [takeP_cons, if_pos h1, bookF_none h2]; rfl
 ·have h1 : ¬ h = bookW := of_decide_eq_false h1
  have hT : takeP ⟨near, []⟩ (h :: r) = none := by rw [takeP_cons, if_neg h1, if_pos rfl]
  conv=>whnf
  refine brk_i (fun h3 => ?_) (fun h3 => ?_)
  ·conv=>whnf
   refine must_i rfl (fun h4 => ?_) (fun h4 => ?_)
   ·cases h4
   ·conv=>whnf
    exact RetA_hand [] [] (lg0 near) rfl ⟨rfl, rfl, trivial⟩ rfl ⟨⟨hT, rfl, rfl⟩, rfl⟩
  ·conv=>whnf
   refine must_i rfl (fun h4 => ?_) (fun h4 => ?_)
   ·cases h4
   ·conv=>whnf
    exact RetA_hand [] [] (lg0 near) rfl ⟨rfl, rfl, trivial⟩ rfl ⟨⟨hT, rfl, rfl⟩, rfl⟩
theorem set_last (init : List PBook) (X : List V) (Y : Cells) : (Els.vv (injL (init.map PBook.cells) ++ [X])).set (0 + (↑init.length : Int).toNat) Y = Els.vv (injL (init.map PBook.cells) ++ [Y.toV]) := by
 show Els.vv (List.set _ _ Y.toV) = _
 rw [Nat.zero_add, Int.toNat_natCast]
 simp [injL_eq, List.set_append]
theorem FnX.mono {σ : Type} {P : Program} {Y : Hd σ} {f : FuncId} {args : List V} {h : Heap} {s : σ} {Q Q' : V → Heap → σ → Prop} {X X' : Value → Heap → σ → Prop} (hf : FnX P Y f args h s Q X) (hq : ∀ v h' s', Q v h' s' → Q' v h' s') (hx : ∀ pv h' s', X pv h' s' → X' pv h' s') : FnX P Y f args h s Q' X' := by
 refine ⟨hf.enter, fun cx hY L F vals w hh hr => (hf.run cx hY L F vals w hh hr).mono ?_⟩
 rintro e w' (⟨x, he, v, h', s', L', F', h1, h2⟩ | ⟨pv, h', s', L', F', he, h1, h2⟩)
 ·exact .inl ⟨x, he, v, h', s', L', F', hq _ _ _ h1, h2⟩
 ·exact .inr ⟨pv, h', s', L', F', he, hx _ _ _ h1, h2⟩
theorem pa97k (s : ByteArray) (n : Int) (hs : s.size ≤ 1000000000) (h : atoiX s = some n) : FnV Tryz.prog 97 [.str s] (i64 n) := by
 refine FnU.ofX (Q := fun v h' => v = .d (i64 n) ∧ h' = []) (X := fun _ _ => False) ?_ (fun _ _ h => h)
 intro σ Y st
 refine (pa97 s hs Y st).mono (fun v h' s' hh => ?_) (fun pv h' s' hh => ?_)
 ·obtain ⟨⟨m, hm, hv, hh⟩, hs⟩ := hh
  rw [h] at hm
  cases hm
  exact ⟨⟨hv, hh⟩, hs⟩
 ·obtain ⟨⟨hm, _⟩, _⟩ := hh
  rw [h] at hm
  cases hm
set_option maxHeartbeats 4000000 in
theorem take1 (near : Int) (init : List PBook) (last : PBook) (w : List ByteArray) (hw : w ≠ []) (hs : ∀ x ∈ w, x.size ≤ 1000000) (hl : w.length ≤ 1000000) (hin : init.length ≤ 100000) (hen : last.ents.length ≤ 100000)
  (hbad : ∀ s x n, w = [reportW, s, x, n] → atoiX s ≠ none → atoiX n ≠ none) :
  FnXU Tryz.prog 98 [.ptr 1000000 0, .d (wordsD w)] (lg1 1000000 1000001 1000002 near init last)
   (fun v h' => v = .d (.tup []) ∧ ∃ h r, w = h :: r ∧ ((h = bookW ∧ ∃ b, bookF r = some b ∧ h' = lgB near (init ++ [last]) b) ∨ (¬ h = bookW ∧ ∃ e, entF h r = some e ∧ h' = lg1 1000000 1000001 2000000 near init { last with ents := last.ents ++ [e] })))
   (fun pv h' => takeP ⟨near, init ++ [last]⟩ w = none ∧ pv = pan6 ∧ h' = lg1 1000000 1000001 1000002 near init last) := by
 intro σ Y st
 refine fnX_of mixed tysOk Tryz.func98 rfl (ft := ft98) (args := [.ptr 1000000 0, .d (wordsD w)]) (show fnB ft98 Tryz.f98 2 = true from by decide +kernel) ?_
 match w, hw with
 | h :: r, _ =>
 conv=>whnf
 refine brk_i (fun h1 => ?_) (fun h1 => ?_)
 ·have h1 : h = bookW := of_decide_eq_true h1
  conv=>whnf
  refine must_i rfl (fun h2 => ?_) (fun h2 => ?_)
  ·have h2 : r.length = 5 := by
    have := of_decide_eq_true h2
    simp at this; omega
   match r, h2 with
   | [n, a, b, c, d], _ =>
   conv=>whnf
   refine LoopA_p (T := tys) tysOk (by exact drawsB_spec mixed tysOk (by decide +kernel)) (α := Nat × (Int × Int × Int × Int)) (fun z => ⟨[(0, .ptr 1000000 0), (1, .d (wordsD [h, n, a, b, c, d])), (4, .ptr 4 0), (29, .sl 29 1 0 4), (30, .d (i64 4)), (31, .d (i64 z.1))], (29, .arr 1 (.vv [[.ptr 4 1], [.ptr 4 2], [.ptr 4 3], [.ptr 4 4]])) :: (4, .box (.dd [.str n, i64 z.2.1, i64 z.2.2.1, i64 z.2.2.2.1, i64 z.2.2.2.2, .nils])) :: lg1 1000000 1000001 1000002 near init last, st⟩) (fun z => z.1 ≤ 4 ∧ (1 ≤ z.1 → atoiX a = some z.2.1) ∧ (2 ≤ z.1 → atoiX b = some z.2.2.1) ∧ (3 ≤ z.1 → atoiX c = some z.2.2.2.1) ∧ (4 ≤ z.1 → atoiX d = some z.2.2.2.2)) (fun z => 4 - z.1) (0, (0, 0, 0, 0)) (Wk.sub ⟨(by first | rfl | (simp only [List.length_map]; rfl)), (by first | rfl | (simp only [List.length_map]; rfl)), (by first | rfl | (simp only [List.length_map]; rfl)), (by first | rfl | (simp only [List.length_map]; rfl)), (by first | rfl | (simp only [List.length_map]; rfl)), (by first | rfl | (simp only [List.length_map]; rfl)), trivial⟩ ⟨(by first | rfl | (simp only [List.length_map]; rfl)), (by first | rfl | (simp only [List.length_map]; rfl)), (by first | rfl | (simp only [List.length_map]; rfl)), (by first | rfl | (show some (Obj.arr 6 (.vv (mapIdLL _ (mapIdLL _ (injL _ ++ _))))) = _; rw [mapIdLL_injL, mapIdLL_injL]; rfl)), (by first | rfl | (simp only [List.length_map]; rfl)), trivial⟩) ⟨by simp, by simp, by simp, by simp, by simp⟩ ?_
   rintro ⟨i, x0, x1, x2, x3⟩ ⟨hi, ha, hb, hc, hd⟩
   simp only at hi ha hb hc hd
   obtain rfl | rfl | rfl | rfl | rfl : i = 0 ∨ i = 1 ∨ i = 2 ∨ i = 3 ∨ i = 4 := by omega
   ·have hsz : ByteArray.size a ≤ 1000000000 := by have := hs a (by simp); omega
    conv=>whnf
    refine arith_to (2) (by simp) (wrap_i64 (by omega)) ?_
    conv=>whnf
    refine num_i hsz (fun k hk => ?_) (fun hk => ?_) rfl (by intro k; rfl)
    ·conv=>whnf
     exact ⟨(1, (k, x1, x2, x3)), by simp only; omega, ⟨by simp only; omega, by simp_all⟩, (Wk.sub ⟨(by first | rfl | (simp only [List.length_map]; rfl)), (by first | rfl | (simp only [List.length_map]; rfl)), (by first | rfl | (simp only [List.length_map]; rfl)), (by first | rfl | (simp only [List.length_map]; rfl)), (by first | rfl | (simp only [List.length_map]; rfl)), (by first | rfl | (simp only [List.length_map]; rfl)), trivial⟩ ⟨(by first | rfl | (simp only [List.length_map]; rfl)), (by first | rfl | (simp only [List.length_map]; rfl)), (by first | rfl | (simp only [List.length_map]; rfl)), (by first | rfl | (show some (Obj.arr 6 (.vv (mapIdLL _ (mapIdLL _ (injL _ ++ _))))) = _; rw [mapIdLL_injL, mapIdLL_injL]; rfl)), (by first | rfl | (simp only [List.length_map]; rfl)), trivial⟩)⟩
    ·conv=>whnf
     refine RetA_hand [] [] (lg1 1000000 1000001 1000002 near init last) rfl ⟨rfl, (congrArg some (ren_last (handR []) (init.map PBook.cells) last 1000002 last.ents.length)).symm, rfl, trivial⟩ rfl ⟨⟨?_, rfl, rfl⟩, rfl⟩
     rw [takeP_cons, if_pos h1]; unfold bookF four
     simp_all
   ·have hsz : ByteArray.size b ≤ 1000000000 := by have := hs b (by simp); omega
    conv=>whnf
    refine arith_to (3) (by simp) (wrap_i64 (by omega)) ?_
    conv=>whnf
    refine num_i hsz (fun k hk => ?_) (fun hk => ?_) rfl (by intro k; rfl)
    ·conv=>whnf
     exact ⟨(2, (x0, k, x2, x3)), by simp only; omega, ⟨by simp only; omega, by simp_all⟩, (Wk.sub ⟨(by first | rfl | (simp only [List.length_map]; rfl)), (by first | rfl | (simp only [List.length_map]; rfl)), (by first | rfl | (simp only [List.length_map]; rfl)), (by first | rfl | (simp only [List.length_map]; rfl)), (by first | rfl | (simp only [List.length_map]; rfl)), (by first | rfl | (simp only [List.length_map]; rfl)), trivial⟩ ⟨(by first | rfl | (simp only [List.length_map]; rfl)), (by first | rfl | (simp only [List.length_map]; rfl)), (by first | rfl | (simp only [List.length_map]; rfl)), (by first | rfl | (show some (Obj.arr 6 (.vv (mapIdLL _ (mapIdLL _ (injL _ ++ _))))) = _; rw [mapIdLL_injL, mapIdLL_injL]; rfl)), (by first | rfl | (simp only [List.length_map]; rfl)), trivial⟩)⟩
    ·conv=>whnf
     refine RetA_hand [] [] (lg1 1000000 1000001 1000002 near init last) rfl ⟨rfl, (congrArg some (ren_last (handR []) (init.map PBook.cells) last 1000002 last.ents.length)).symm, rfl, trivial⟩ rfl ⟨⟨?_, rfl, rfl⟩, rfl⟩
     rw [takeP_cons, if_pos h1]; unfold bookF four
     simp_all
   ·have hsz : ByteArray.size c ≤ 1000000000 := by have := hs c (by simp); omega
    conv=>whnf
    refine arith_to (4) (by simp) (wrap_i64 (by omega)) ?_
    conv=>whnf
    refine num_i hsz (fun k hk => ?_) (fun hk => ?_) rfl (by intro k; rfl)
    ·conv=>whnf
     exact ⟨(3, (x0, x1, k, x3)), by simp only; omega, ⟨by simp only; omega, by simp_all⟩, (Wk.sub ⟨(by first | rfl | (simp only [List.length_map]; rfl)), (by first | rfl | (simp only [List.length_map]; rfl)), (by first | rfl | (simp only [List.length_map]; rfl)), (by first | rfl | (simp only [List.length_map]; rfl)), (by first | rfl | (simp only [List.length_map]; rfl)), (by first | rfl | (simp only [List.length_map]; rfl)), trivial⟩ ⟨(by first | rfl | (simp only [List.length_map]; rfl)), (by first | rfl | (simp only [List.length_map]; rfl)), (by first | rfl | (simp only [List.length_map]; rfl)), (by first | rfl | (show some (Obj.arr 6 (.vv (mapIdLL _ (mapIdLL _ (injL _ ++ _))))) = _; rw [mapIdLL_injL, mapIdLL_injL]; rfl)), (by first | rfl | (simp only [List.length_map]; rfl)), trivial⟩)⟩
    ·conv=>whnf
     refine RetA_hand [] [] (lg1 1000000 1000001 1000002 near init last) rfl ⟨rfl, (congrArg some (ren_last (handR []) (init.map PBook.cells) last 1000002 last.ents.length)).symm, rfl, trivial⟩ rfl ⟨⟨?_, rfl, rfl⟩, rfl⟩
     rw [takeP_cons, if_pos h1]; unfold bookF four
     simp_all
   ·have hsz : ByteArray.size d ≤ 1000000000 := by have := hs d (by simp); omega
    conv=>whnf
    refine arith_to (5) (by simp) (wrap_i64 (by omega)) ?_
    conv=>whnf
    refine num_i hsz (fun k hk => ?_) (fun hk => ?_) rfl (by intro k; rfl)
    ·conv=>whnf
     exact ⟨(4, (x0, x1, x2, k)), by simp only; omega, ⟨by simp only; omega, by simp_all⟩, (Wk.sub ⟨(by first | rfl | (simp only [List.length_map]; rfl)), (by first | rfl | (simp only [List.length_map]; rfl)), (by first | rfl | (simp only [List.length_map]; rfl)), (by first | rfl | (simp only [List.length_map]; rfl)), (by first | rfl | (simp only [List.length_map]; rfl)), (by first | rfl | (simp only [List.length_map]; rfl)), trivial⟩ ⟨(by first | rfl | (simp only [List.length_map]; rfl)), (by first | rfl | (simp only [List.length_map]; rfl)), (by first | rfl | (simp only [List.length_map]; rfl)), (by first | rfl | (show some (Obj.arr 6 (.vv (mapIdLL _ (mapIdLL _ (injL _ ++ _))))) = _; rw [mapIdLL_injL, mapIdLL_injL]; rfl)), (by first | rfl | (simp only [List.length_map]; rfl)), trivial⟩)⟩
    ·conv=>whnf
     refine RetA_hand [] [] (lg1 1000000 1000001 1000002 near init last) rfl ⟨rfl, (congrArg some (ren_last (handR []) (init.map PBook.cells) last 1000002 last.ents.length)).symm, rfl, trivial⟩ rfl ⟨⟨?_, rfl, rfl⟩, rfl⟩
     rw [takeP_cons, if_pos h1]; unfold bookF four
     simp_all
   have ha := ha (by omega)
   have hb := hb (by omega)
   have hc := hc (by omega)
   have hd := hd (by omega)
   conv=>whnf
   refine ownK_whole rfl ?_
   conv=>whnf
   rw [show mapIdLL (killF 52) (mapIdLL (killF 51) (injL (init.map PBook.cells) ++ [inj (hdC last) ++ [V.sl 1000002 4 0 last.ents.length]])) = injL (init.map PBook.cells) ++ [inj (hdC last) ++ [V.sl 1000002 4 0 last.ents.length]] from by rw [mapIdLL_injL, mapIdLL_injL]; rfl]
   refine ownK_whole (by simp [Els.len, injL_eq]) ?_
   refine chk_i (by
    show (true && !nameBL 52 (List.flatten (injL (init.map PBook.cells) ++ [_] ++ _))) = true
    rw [List.append_assoc, nameBL_injL]; rfl) ?_
   refine chk_i (decide_eq_true (by
    show ((injL (init.map PBook.cells) ++ [_]).length + 1) * 72 ≤ 140737488355328
    simp [injL_eq]; omega)) ?_
   conv=>whnf
   refine forceN_to [1000002, 52] (by
    show namesOfL (List.flatten (injL (init.map PBook.cells) ++ [inj (hdC last) ++ [V.sl 1000002 4 0 last.ents.length]] ++ injL [[D.str n, i64 x0, i64 x1, i64 x2, i64 x3, .nils]])) ++ ([52] ++ []) = _
    rw [List.append_assoc, namesOfL_injL]; rfl) ?_
   conv=>whnf
   have hbF : bookF [n, a, b, c, d] = some ⟨n, ⟨x0, x1⟩, ⟨x2, x3⟩, []⟩ := by simp [bookF, four, ha, hb, hc, hd]
   generalize hnew : (⟨n, ⟨x0, x1⟩, ⟨x2, x3⟩, []⟩ : PBook) = new at hbF
   have hnc : [D.str n, i64 x0, i64 x1, i64 x2, i64 x3, .nils] = newC new := by rw [← hnew]; rfl
   refine RetA_wk (l' := []) (h' := [(1000000, .box (.vv [.d (i64 near), .sl 52 6 0 (init.length + 2)])), (52, .arr 6 (.dd (init.map PBook.cells ++ [last.cells, newC new])))]) ((Wk.frzArr 1 [1000002] 52 (sz := 6) (vs := injL (init.map PBook.cells) ++ ([inj (hdC last) ++ [V.sl 1000002 4 0 last.ents.length]] ++ injL [[D.str n, i64 x0, i64 x1, i64 x2, i64 x3, .nils]])) (ds := init.map PBook.cells ++ [last.cells, newC new]) ?_ (viewLL_app (viewLL_two (viewL_app (a := hdC last) (viewL_cons (viewV_sl' (es' := last.ents.map PEnt.cells) rfl rfl (by simp)) rfl)) (by rw [← hnc]; rfl)) _)).trans (Wk.sub trivial ⟨?_, rfl, trivial⟩)) rfl rfl ?_
   ·exact congrArg (fun z => some (Obj.arr 6 (.vv z))) (List.append_assoc _ _ _)
   ·show some (Obj.box (.vv [.d (i64 near), .sl 52 6 0 ((injL (init.map PBook.cells) ++ [inj (hdC last) ++ [V.sl 1000002 4 0 last.ents.length]]).length + 1)])) = _
    simp [injL_eq]
   ·refine RetA_hand [52] [] (lgB near (init ++ [last]) new) rfl ⟨?_, ?_, trivial⟩ rfl ⟨⟨rfl, _, _, rfl, .inl ⟨h1, new, hbF, rfl⟩⟩, rfl⟩
    ·show some (Obj.box (.vv [.d (i64 near), .sl 52 6 0 (init.length + 2)])) = some (Obj.box (.vv [.d (i64 near), .sl 52 6 0 ((init ++ [last]).length + 1)]))
     simp
    ·show some (Obj.arr 6 (.dd (init.map PBook.cells ++ [last.cells, newC new]))) = some (Obj.arr 6 (.dd ((init ++ [last]).map PBook.cells ++ [newC new])))
     simp
  ·have h2 : ¬ r.length = 5 := by
    have := of_decide_eq_false h2
    simp at this; omega
   conv=>whnf
   refine RetA_hand [] [] (lg1 1000000 1000001 1000002 near init last) rfl ⟨rfl, (congrArg some (ren_last (handR []) (init.map PBook.cells) last 1000002 last.ents.length)).symm, rfl, trivial⟩ rfl ⟨⟨?_, rfl, rfl⟩, rfl⟩
   rw [takeP_cons, if_pos h1, bookF_none h2]; rfl
 ·have h1 : ¬ h = bookW := of_decide_eq_false h1
  have hT : takeP ⟨near, init ++ [last]⟩ (h :: r) = (entF h r).map fun e => (⟨near, addB e (init ++ [last])⟩ : PLog) := by rw [takeP_cons, if_neg h1, if_neg (by simp)]
  cases r with
  | nil =>
   conv=>whnf
   refine must_i rfl (fun h4 => by cases h4) (fun _ => ?_)
   conv=>whnf
   exact RetA_hand [] [] (lg1 1000000 1000001 1000002 near init last) rfl ⟨rfl, (congrArg some (ren_last (handR []) (init.map PBook.cells) last 1000002 last.ents.length)).symm, rfl, trivial⟩ rfl ⟨⟨hT, rfl, rfl⟩, rfl⟩
  | cons s q =>
   have hss : s.size ≤ 1000000000 := by have := hs s (by simp); omega
   conv=>whnf
   refine brk_i (fun _ => ?_) (fun h2 => absurd h2 (by simp; omega))
   conv=>whnf
   refine must_i rfl (fun _ => ?_) (fun h2 => absurd h2 (by first | (simp; done) | (simp; omega)))
   conv=>whnf
   refine num_i hss (fun t ht => ?_) (fun ht => ?_) rfl (by intro k; rfl)
   case refine_2 =>
    conv=>whnf
    refine RetA_hand [] [] (lg1 1000000 1000001 1000002 near init last) rfl ⟨rfl, (by first | exact (congrArg some (ren_last (handR []) (init.map PBook.cells) last 1000002 last.ents.length)).symm | (show some (Obj.arr 6 (.vv (mapIdLL _ (injL _ ++ _)))) = _; rw [mapIdLL_injL]; exact (congrArg some (ren_last (handR []) (init.map PBook.cells) last 1000002 last.ents.length)).symm)), rfl, trivial⟩ rfl ⟨⟨?_, rfl, rfl⟩, rfl⟩
    rw [hT]
    unfold entF; simp only [ht]; rfl
   conv=>whnf
   refine brk_i (fun h3 => ?_) (fun h3 => ?_)
   ·have h3 : h = passW := of_decide_eq_true h3
    conv=>whnf
    refine CallA.wkK ?_
    refine must_i rfl (fun hq => ?_) (fun hq => ?_)
    case refine_2 =>
     have hq : ¬ q.length = 1 := by
      have := of_decide_eq_false hq
      simp at this; omega
     conv=>whnf
     refine RetA_hand [] [] (lg1 1000000 1000001 1000002 near init last) rfl ⟨rfl, (by first | exact (congrArg some (ren_last (handR []) (init.map PBook.cells) last 1000002 last.ents.length)).symm | (show some (Obj.arr 6 (.vv (mapIdLL _ (injL _ ++ _)))) = _; rw [mapIdLL_injL]; exact (congrArg some (ren_last (handR []) (init.map PBook.cells) last 1000002 last.ents.length)).symm)), rfl, trivial⟩ rfl ⟨⟨?_, rfl, rfl⟩, rfl⟩
     rw [hT]
     unfold entF; simp only [ht, if_pos h3]; (match q, hq with | [], _ => rfl | [x], h => exact absurd rfl h | x :: y :: r, _ => rfl)
    refine ⟨⟨[(0, .ptr 1000000 0), (1, .d (wordsD (h :: s :: q))), (7, .ptr 7 0)], (7, .box (.dd [i64 t, i64 0, .str ⟨#[]⟩, i64 0])) :: lg1 1000000 1000001 1000002 near init last, st⟩, Wk.sub ⟨rfl, rfl, rfl, trivial⟩ ⟨rfl, rfl, (by show some (Obj.arr 6 (.vv (mapIdLL _ (injL _ ++ _)))) = _; rw [mapIdLL_injL]; rfl), rfl, trivial⟩, ?_⟩
    have hq : q.length = 1 := by
     have := of_decide_eq_true hq
     simp at this; omega
    match q, hq with
    | [x], _ =>
    conv=>whnf
    refine arith_to ((init.length : Nat) : Int) (by simp) (wrap_i64 (by omega)) ?_
    conv=>whnf
    refine brk_i (fun _ => ?_) (fun h => absurd h (by simp; omega))
    conv=>whnf
    rw [show mapIdLL (killF 128) (mapIdLL (killF 127) (injL (init.map PBook.cells) ++ [inj (hdC last) ++ [V.sl 1000002 4 0 last.ents.length]])) = injL (init.map PBook.cells) ++ [inj (hdC last) ++ [V.sl 1000002 4 0 last.ents.length]] from by rw [mapIdLL_injL, mapIdLL_injL]; rfl]
    refine cellK_i (inj (hdC last) ++ [V.sl 1000002 4 0 last.ents.length]) (by rw [Nat.zero_add, Int.toNat_natCast]; simp [injL_eq]) ?_
    conv=>whnf
    refine ownK_whole rfl ?_
    conv=>whnf
    refine ownK_whole (by simp [Els.len]) ?_
    conv=>whnf
    refine chk_i (decide_eq_true (by
     show ((last.ents.map PEnt.cells).length + 1) * 40 ≤ 140737488355328
     rw [List.length_map]; omega)) ?_
    conv=>whnf
    refine cellK_i (inj (hdC last) ++ [V.sl 1000002 4 0 last.ents.length]) (by rw [Nat.zero_add, Int.toNat_natCast]; simp [injL_eq]) ?_
    conv=>whnf
    rw [set_last]
    refine forceN_to [128] (by
     show namesOfL (List.flatten (injL (init.map PBook.cells) ++ [inj (hdC last) ++ [V.sl 128 4 0 _]])) ++ [] = _
     rw [namesOfL_injL]; rfl) ?_
    conv=>whnf
    have hE : entF h (s :: [x]) = some (⟨t, 1, x, 0⟩ : PEnt) := (by unfold entF; simp only [ht, if_pos h3])
    generalize hee : (⟨t, 1, x, 0⟩ : PEnt) = ee at hE
    have hlen : (last.ents ++ [ee]).length = (last.ents.map PEnt.cells).length + 1 := by simp
    refine RetA_hand [128] [] (lg1 1000000 1000001 2000000 near init { last with ents := last.ents ++ [ee] }) rfl ⟨rfl, ?_, ?_, trivial⟩ rfl ⟨⟨rfl, _, _, rfl, .inr ⟨h1, ee, hE, rfl⟩⟩, rfl⟩
    ·show some (Obj.arr 6 (.vv (injL (init.map PBook.cells) ++ [inj (hdC last) ++ [V.sl 128 4 0 ((last.ents.map PEnt.cells).length + 1)]]))) = some (renO (handR [128]) (.arr 6 (.vv (injL (init.map PBook.cells) ++ [inj (hdC last) ++ [.sl 2000000 4 0 (last.ents ++ [ee]).length]]))))
     rw [ren_last, hlen]; rfl
    ·show _ = some (Obj.arr 4 (.dd ((last.ents ++ [ee]).map PEnt.cells)))
     rw [← hee, List.map_append]; rfl
   ·have h3 : ¬ h = passW := of_decide_eq_false h3
    conv=>whnf
    refine brk_i (fun h4 => ?_) (fun h4 => ?_)
    ·have h4 : h = setW := of_decide_eq_true h4
     conv=>whnf
     refine CallA.wkK ?_
     refine must_i rfl (fun hq => ?_) (fun hq => ?_)
     case refine_2 =>
      have hq : ¬ q.length = 0 := by
       have := of_decide_eq_false hq
       simp at this; omega
      conv=>whnf
      refine RetA_hand [] [] (lg1 1000000 1000001 1000002 near init last) rfl ⟨rfl, (by first | exact (congrArg some (ren_last (handR []) (init.map PBook.cells) last 1000002 last.ents.length)).symm | (show some (Obj.arr 6 (.vv (mapIdLL _ (injL _ ++ _)))) = _; rw [mapIdLL_injL]; exact (congrArg some (ren_last (handR []) (init.map PBook.cells) last 1000002 last.ents.length)).symm)), rfl, trivial⟩ rfl ⟨⟨?_, rfl, rfl⟩, rfl⟩
      rw [hT]
      unfold entF; simp only [ht, if_neg h3, if_pos h4]; (match q, hq with | [], h => exact absurd rfl h | x :: r, _ => rfl)
     refine ⟨⟨[(0, .ptr 1000000 0), (1, .d (wordsD (h :: s :: q))), (7, .ptr 7 0)], (7, .box (.dd [i64 t, i64 0, .str ⟨#[]⟩, i64 0])) :: lg1 1000000 1000001 1000002 near init last, st⟩, Wk.sub ⟨rfl, rfl, rfl, trivial⟩ ⟨rfl, rfl, (by show some (Obj.arr 6 (.vv (mapIdLL _ (injL _ ++ _)))) = _; rw [mapIdLL_injL]; rfl), rfl, trivial⟩, ?_⟩
     have hq : q.length = 0 := by
      have := of_decide_eq_true hq
      simp at this; omega
     match q, hq with
     | [], _ =>
     conv=>whnf
     refine arith_to ((init.length : Nat) : Int) (by simp) (wrap_i64 (by omega)) ?_
     conv=>whnf
     refine brk_i (fun _ => ?_) (fun h => absurd h (by simp; omega))
     conv=>whnf
     rw [show mapIdLL (killF 128) (mapIdLL (killF 127) (injL (init.map PBook.cells) ++ [inj (hdC last) ++ [V.sl 1000002 4 0 last.ents.length]])) = injL (init.map PBook.cells) ++ [inj (hdC last) ++ [V.sl 1000002 4 0 last.ents.length]] from by rw [mapIdLL_injL, mapIdLL_injL]; rfl]
     refine cellK_i (inj (hdC last) ++ [V.sl 1000002 4 0 last.ents.length]) (by rw [Nat.zero_add, Int.toNat_natCast]; simp [injL_eq]) ?_
     conv=>whnf
     refine ownK_whole rfl ?_
     conv=>whnf
     refine ownK_whole (by simp [Els.len]) ?_
     conv=>whnf
     refine chk_i (decide_eq_true (by
      show ((last.ents.map PEnt.cells).length + 1) * 40 ≤ 140737488355328
      rw [List.length_map]; omega)) ?_
     conv=>whnf
     refine cellK_i (inj (hdC last) ++ [V.sl 1000002 4 0 last.ents.length]) (by rw [Nat.zero_add, Int.toNat_natCast]; simp [injL_eq]) ?_
     conv=>whnf
     rw [set_last]
     refine forceN_to [128] (by
      show namesOfL (List.flatten (injL (init.map PBook.cells) ++ [inj (hdC last) ++ [V.sl 128 4 0 _]])) ++ [] = _
      rw [namesOfL_injL]; rfl) ?_
     conv=>whnf
     have hE : entF h (s :: []) = some (⟨t, 2, .empty, 0⟩ : PEnt) := (by unfold entF; simp only [ht, if_neg h3, if_pos h4])
     generalize hee : (⟨t, 2, .empty, 0⟩ : PEnt) = ee at hE
     have hlen : (last.ents ++ [ee]).length = (last.ents.map PEnt.cells).length + 1 := by simp
     refine RetA_hand [128] [] (lg1 1000000 1000001 2000000 near init { last with ents := last.ents ++ [ee] }) rfl ⟨rfl, ?_, ?_, trivial⟩ rfl ⟨⟨rfl, _, _, rfl, .inr ⟨h1, ee, hE, rfl⟩⟩, rfl⟩
     ·show some (Obj.arr 6 (.vv (injL (init.map PBook.cells) ++ [inj (hdC last) ++ [V.sl 128 4 0 ((last.ents.map PEnt.cells).length + 1)]]))) = some (renO (handR [128]) (.arr 6 (.vv (injL (init.map PBook.cells) ++ [inj (hdC last) ++ [.sl 2000000 4 0 (last.ents ++ [ee]).length]]))))
      rw [ren_last, hlen]; rfl
     ·show _ = some (Obj.arr 4 (.dd ((last.ents ++ [ee]).map PEnt.cells)))
      rw [← hee, List.map_append]; rfl
    ·have h4 : ¬ h = setW := of_decide_eq_false h4
     conv=>whnf
     refine brk_i (fun h5 => ?_) (fun h5 => ?_)
     ·have h5 : h = reportW := of_decide_eq_true h5
      conv=>whnf
      refine CallA.wkK ?_
      refine must_i rfl (fun hq => ?_) (fun hq => ?_)
      case refine_2 =>
       have hq : ¬ q.length = 2 := by
        have := of_decide_eq_false hq
        simp at this; omega
       conv=>whnf
       refine RetA_hand [] [] (lg1 1000000 1000001 1000002 near init last) rfl ⟨rfl, (by first | exact (congrArg some (ren_last (handR []) (init.map PBook.cells) last 1000002 last.ents.length)).symm | (show some (Obj.arr 6 (.vv (mapIdLL _ (injL _ ++ _)))) = _; rw [mapIdLL_injL]; exact (congrArg some (ren_last (handR []) (init.map PBook.cells) last 1000002 last.ents.length)).symm)), rfl, trivial⟩ rfl ⟨⟨?_, rfl, rfl⟩, rfl⟩
       rw [hT]
       unfold entF; simp only [ht, if_neg h3, if_neg h4, if_pos h5]; (match q, hq with | [], _ => rfl | [x], _ => rfl | [x, y], h => exact absurd rfl h | x :: y :: z :: r, _ => rfl)
      refine ⟨⟨[(0, .ptr 1000000 0), (1, .d (wordsD (h :: s :: q))), (7, .ptr 7 0)], (7, .box (.dd [i64 t, i64 0, .str ⟨#[]⟩, i64 0])) :: lg1 1000000 1000001 1000002 near init last, st⟩, Wk.sub ⟨rfl, rfl, rfl, trivial⟩ ⟨rfl, rfl, (by show some (Obj.arr 6 (.vv (mapIdLL _ (injL _ ++ _)))) = _; rw [mapIdLL_injL]; rfl), rfl, trivial⟩, ?_⟩
      have hq : q.length = 2 := by
       have := of_decide_eq_true hq
       simp at this; omega
      match q, hq with
      | [x, n], _ =>
      obtain ⟨k, hk⟩ : ∃ k, atoiX n = some k := by
       cases hk : atoiX n with
       | some k => exact ⟨k, rfl⟩
       | none => exact absurd hk (hbad s x n (by rw [h5]) (by rw [ht]; simp))
      conv=>whnf
      refine DrawCall_v (pa97k n k (by have := hs n (by simp); omega) hk) rfl rfl ?_
      conv=>whnf
      refine arith_to ((init.length : Nat) : Int) (by simp) (wrap_i64 (by omega)) ?_
      conv=>whnf
      refine brk_i (fun _ => ?_) (fun h => absurd h (by simp; omega))
      conv=>whnf
      rw [show mapIdLL (killF 128) (mapIdLL (killF 127) (injL (init.map PBook.cells) ++ [inj (hdC last) ++ [V.sl 1000002 4 0 last.ents.length]])) = injL (init.map PBook.cells) ++ [inj (hdC last) ++ [V.sl 1000002 4 0 last.ents.length]] from by rw [mapIdLL_injL, mapIdLL_injL]; rfl]
      refine cellK_i (inj (hdC last) ++ [V.sl 1000002 4 0 last.ents.length]) (by rw [Nat.zero_add, Int.toNat_natCast]; simp [injL_eq]) ?_
      conv=>whnf
      refine ownK_whole rfl ?_
      conv=>whnf
      refine ownK_whole (by simp [Els.len]) ?_
      conv=>whnf
      refine chk_i (decide_eq_true (by
       show ((last.ents.map PEnt.cells).length + 1) * 40 ≤ 140737488355328
       rw [List.length_map]; omega)) ?_
      conv=>whnf
      refine cellK_i (inj (hdC last) ++ [V.sl 1000002 4 0 last.ents.length]) (by rw [Nat.zero_add, Int.toNat_natCast]; simp [injL_eq]) ?_
      conv=>whnf
      rw [set_last]
      refine forceN_to [128] (by
       show namesOfL (List.flatten (injL (init.map PBook.cells) ++ [inj (hdC last) ++ [V.sl 128 4 0 _]])) ++ [] = _
       rw [namesOfL_injL]; rfl) ?_
      conv=>whnf
      have hE : entF h (s :: [x, n]) = some (⟨t, 3, x, k⟩ : PEnt) := (by unfold entF; simp only [ht, if_neg h3, if_neg h4, if_pos h5, hk]; rfl)
      generalize hee : (⟨t, 3, x, k⟩ : PEnt) = ee at hE
      have hlen : (last.ents ++ [ee]).length = (last.ents.map PEnt.cells).length + 1 := by simp
      refine RetA_hand [128] [] (lg1 1000000 1000001 2000000 near init { last with ents := last.ents ++ [ee] }) rfl ⟨rfl, ?_, ?_, trivial⟩ rfl ⟨⟨rfl, _, _, rfl, .inr ⟨h1, ee, hE, rfl⟩⟩, rfl⟩
      ·show some (Obj.arr 6 (.vv (injL (init.map PBook.cells) ++ [inj (hdC last) ++ [V.sl 128 4 0 ((last.ents.map PEnt.cells).length + 1)]]))) = some (renO (handR [128]) (.arr 6 (.vv (injL (init.map PBook.cells) ++ [inj (hdC last) ++ [.sl 2000000 4 0 (last.ents ++ [ee]).length]]))))
       rw [ren_last, hlen]; rfl
      ·show _ = some (Obj.arr 4 (.dd ((last.ents ++ [ee]).map PEnt.cells)))
       rw [← hee, List.map_append]; rfl
     ·have h5 : ¬ h = reportW := of_decide_eq_false h5
      conv=>whnf
      refine must_i rfl (fun h6 => by cases h6) (fun _ => ?_)
      conv=>whnf
      refine RetA_hand [] [] (lg1 1000000 1000001 1000002 near init last) rfl ⟨rfl, (by first | exact (congrArg some (ren_last (handR []) (init.map PBook.cells) last 1000002 last.ents.length)).symm | (show some (Obj.arr 6 (.vv (mapIdLL _ (injL _ ++ _)))) = _; rw [mapIdLL_injL]; exact (congrArg some (ren_last (handR []) (init.map PBook.cells) last 1000002 last.ents.length)).symm)), rfl, trivial⟩ rfl ⟨⟨?_, rfl, rfl⟩, rfl⟩
      rw [hT]
      unfold entF; simp only [ht, if_neg h3, if_neg h4, if_neg h5]; rfl
end Go.PX
