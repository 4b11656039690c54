import Derived.Test.YtgpmlbbkfmkmkaaGreatDoorPxQ
import Derived.Test.YtgpmlbbkfmkmkaaGreatDoorPxL
set_option linter.all false
set_option maxRecDepth 10000
namespace Go.PX
open Go.Proofs
open Go.RowKit
theorem pa67 (x : PEnt) : FnV Tryz.prog 67 [x.d] (i64 (entE x)) := by
 obtain ⟨sh, kd, wd, nm⟩ := x
 refine fnV_of mixed tysOk Tryz.func67 rfl (ft := ft67) 1 (by decide +kernel) (by rfl) fun {σ} Y st => ?_
 conv=>whnf
 refine CallA_v (ds := [i64 sh, i64 0, i64 20000]) (fn55 sh 0 20000) rfl rfl ?_
 unfold entE outB
 cases h0 : inB sh 0 20000 with
 | false =>
  conv=>whnf
  exact RetA_view 0 rfl ⟨⟨rfl, rfl⟩, rfl⟩
 | true =>
 conv=>whnf
 refine CallA_v (ds := [i64 kd, i64 1, i64 3]) (fn55 kd 1 3) rfl rfl ?_
 cases h1 : inB kd 1 3 with
 | false =>
  have hk : ¬ (kd = 1) ∧ ¬ (kd = 2) ∧ ¬ (kd = 3) := by
   refine ⟨?_, ?_, ?_⟩ <;> rintro rfl <;> simp [inB] at h1
  conv=>whnf
  simp only [Bool.not_true, Bool.false_eq_true, if_false, if_neg hk.1, if_neg hk.2.1, if_neg hk.2.2]
  exact RetA_view 0 rfl ⟨⟨rfl, rfl⟩, rfl⟩
 | true =>
 have hk : kd = 1 ∨ kd = 2 ∨ kd = 3 := by
  unfold inB at h1
  simp at h1; omega
 simp only [Bool.not_true, Bool.false_eq_true, if_false]
 conv=>whnf
 rcases hk with rfl | rfl | rfl
 ·refine brk_i (fun hA => ?_) (fun hA => ?_)
  ·conv=>whnf
   refine CallA_v (ds := [.str wd]) (fn112 wd) rfl rfl ?_
   cases hn : nameF wd with
   | false =>
    conv=>whnf
    exact RetA_view 0 rfl ⟨⟨rfl, rfl⟩, rfl⟩
   | true =>
    conv=>whnf
    refine brk_i (fun hB => ?_) (fun hB => ?_)
    ·have hB : ¬ nm = 0 := by simpa using hB
     conv=>whnf
     rw [decide_eq_false hB]
     exact RetA_view 0 rfl ⟨⟨rfl, rfl⟩, rfl⟩
    ·have hB : nm = 0 := by simpa using hB
     conv=>whnf
     rw [decide_eq_true hB]
     exact RetA_view 0 rfl ⟨⟨rfl, rfl⟩, rfl⟩
  ·conv=>whnf
   refine CallA_v (ds := [.str wd]) (fn112 wd) rfl rfl ?_
   cases hn : nameF wd with
   | false =>
    conv=>whnf
    exact RetA_view 0 rfl ⟨⟨rfl, rfl⟩, rfl⟩
   | true =>
    conv=>whnf
    refine brk_i (fun hB => ?_) (fun hB => ?_)
    ·have hB : ¬ nm = 0 := by simpa using hB
     conv=>whnf
     rw [decide_eq_false hB]
     exact RetA_view 0 rfl ⟨⟨rfl, rfl⟩, rfl⟩
    ·have hB : nm = 0 := by simpa using hB
     conv=>whnf
     rw [decide_eq_true hB]
     exact RetA_view 0 rfl ⟨⟨rfl, rfl⟩, rfl⟩
 ·have hw1 : decide (wd = .empty) = decide (wd = (⟨#[]⟩ : ByteArray)) := rfl
  simp only [if_neg (show ¬ (2 : Int) = 1 by decide), if_pos, hw1]
  refine brk_i (fun hA => ?_) (fun hA => ?_)
  ·rw [hA]
   conv=>whnf
   refine brk_i (fun hB => ?_) (fun hB => ?_)
   ·have hB : ¬ nm = 0 := by simpa using hB
    conv=>whnf
    rw [decide_eq_false hB]
    exact RetA_view 0 rfl ⟨⟨rfl, rfl⟩, rfl⟩
   ·have hB : nm = 0 := by simpa using hB
    conv=>whnf
    rw [decide_eq_true hB]
    exact RetA_view 0 rfl ⟨⟨rfl, rfl⟩, rfl⟩
  ·rw [hA]
   conv=>whnf
   exact RetA_view 0 rfl ⟨⟨rfl, rfl⟩, rfl⟩
 ·simp only [if_neg (show ¬ (3 : Int) = 1 by decide), if_neg (show ¬ (3 : Int) = 2 by decide), if_pos, Bool.not_not]
  refine brk_i (fun hA => ?_) (fun hA => ?_)
  ·conv=>whnf
   refine CallA_v (ds := [.str wd]) (fn112 wd) rfl rfl ?_
   cases hn : nameF wd with
   | false =>
    conv=>whnf
    exact RetA_view 0 rfl ⟨⟨rfl, rfl⟩, rfl⟩
   | true =>
    conv=>whnf
    refine CallA_v (ds := [i64 nm, i64 1, i64 99]) (fn55 nm 1 99) rfl rfl ?_
    cases h4 : inB nm 1 99 with
    | false =>
     conv=>whnf
     exact RetA_view 0 rfl ⟨⟨rfl, rfl⟩, rfl⟩
    | true =>
     conv=>whnf
     exact RetA_view 0 rfl ⟨⟨rfl, rfl⟩, rfl⟩
  ·conv=>whnf
   refine CallA_v (ds := [.str wd]) (fn112 wd) rfl rfl ?_
   cases hn : nameF wd with
   | false =>
    conv=>whnf
    exact RetA_view 0 rfl ⟨⟨rfl, rfl⟩, rfl⟩
   | true =>
    conv=>whnf
    refine CallA_v (ds := [i64 nm, i64 1, i64 99]) (fn55 nm 1 99) rfl rfl ?_
    cases h4 : inB nm 1 99 with
    | false =>
     conv=>whnf
     exact RetA_view 0 rfl ⟨⟨rfl, rfl⟩, rfl⟩
    | true =>
     conv=>whnf
     exact RetA_view 0 rfl ⟨⟨rfl, rfl⟩, rfl⟩
def namesP (l : List PBook) : List ByteArray := l.map (·.name)
theorem headE_eq (pre : List PBook) (b : PBook) : headE pre b = if freshF b.name (namesP pre) = 0 then (if spread (-720) 720 [b.off, b.set] 0 = 0 then (if b.ents.length > 8 then 3 else 0) else spread (-720) 720 [b.off, b.set] 0) else freshF b.name (namesP pre) := by
 have h : ((namesP pre).any fun y => decide (y = b.name)) = pre.any fun y => decide (y.name = b.name) := by
  unfold namesP; rw [List.any_map]; rfl
 unfold headE freshF spread spread spread outB
 rw [h]
 cases nameF b.name <;> cases (pre.any fun y => decide (y.name = b.name)) <;> cases inB b.off.lo (-720) 720 <;> cases inB b.off.hi (-720) 720 <;> cases inB b.set.lo (-720) 720 <;> cases inB b.set.hi (-720) 720 <;> simp
 by_cases h1 : b.off.hi < b.off.lo <;> by_cases h2 : b.set.hi < b.set.lo <;> simp [h1, h2]
set_option maxHeartbeats 2000000 in
theorem pa18 (l : PLog) : FnV Tryz.prog 18 [l.d] (triP (checkP l)) := by
 refine fnV_of mixed tysOk Tryz.func18 rfl (ft := ft18) 1 (by decide +kernel) (by rfl) fun {σ} Y st => ?_
 conv=>whnf
 unfold checkP
 refine CallA_v (ds := [i64 l.near, i64 0, i64 60]) (fn55 l.near 0 60) rfl rfl ?_
 unfold outB
 cases h0 : inB l.near 0 60 with
 | false =>
  conv=>whnf
  exact RetA_view 0 rfl ⟨⟨rfl, rfl⟩, rfl⟩
 | true =>
  conv=>whnf
  rw [List.length_map]
  refine CallA_v (ds := [i64 l.books.length, i64 1, i64 3]) (fn55 l.books.length 1 3) rfl rfl ?_
  cases h1 : inB l.books.length 1 3 with
  | false =>
   conv=>whnf
   exact RetA_view 0 rfl ⟨⟨rfl, rfl⟩, rfl⟩
  | true =>
   have hlen : l.books.length ≤ 3 := by
    have h1 := h1
    unfold inB at h1
    simp at h1; omega
   simp only [Bool.not_true, if_false, Bool.false_eq_true]
   conv=>whnf
   generalize hK : booksE [] l.books 0 = K
   refine LoopA_i (T := tys) tysOk (by exact drawsB_spec mixed tysOk (by decide +kernel)) l.books (fun i (_ : Unit) => ⟨[(1, .ptr 1 0), (5, .sl 40 1 0 i), (6, .d (i64 i))], [(1, .box (.dd l.cells)), (40, .arr 1 (.dd ((namesP (l.books.take i)).map fun s => [.str s])))], st⟩)
    (fun i r _ => booksE (l.books.take i) r i = K) () ((Wk.born 5 40 1 rfl rfl rfl).trans (Wk.sub (by repeat' first|exact trivial|refine⟨?_,?_⟩|rfl|(simp only[List.length_map];rfl)|simp[PX.get]) (by repeat' first|exact trivial|refine⟨?_,?_⟩|rfl|(simp only[List.length_map];rfl)|simp[PX.get]))) hK ?_ ?_
   ·rintro i b r _ hx hi hr he
    rw [booksE, headE_eq] at he
    have htk : l.books.take (i + 1) = l.books.take i ++ [b] := by rw [List.take_succ, hx]; rfl
    have hnl : (namesP (l.books.take i)).length = i := by unfold namesP; simp; omega
    conv=>whnf
    refine brk_i (fun _ => ?_) (fun h => absurd hi (by have := of_decide_eq_false h; simp at this; omega))
    conv=>whnf
    refine elemK_nat hx ?_
    conv=>whnf
    refine CallA_view (ds := [.str b.name, strsD (namesP (l.books.take i))]) (fn91 b.name (namesP (l.books.take i)) (by omega)) rfl 1 (viewL_cons rfl (viewL_cons (viewV_sl rfl (by simp [hnl])) rfl)) ?_
    conv=>whnf
    refine ownK_whole rfl ?_
    conv=>whnf
    refine ownK_whole (by simp [Els.len, hnl]) ?_
    conv=>whnf
    refine chk_i (decide_eq_true (by
     show (((namesP (l.books.take i)).map fun s => [D.str s]).length + 1) * 16 ≤ 140737488355328
     rw [List.length_map]; omega)) ?_
    conv=>whnf
    generalize freshF b.name (namesP (l.books.take i)) = F at he ⊢
    have hnext : (namesP (l.books.take i)).map (fun s => [D.str s]) ++ [[.str b.name]] = (namesP (l.books.take (i + 1))).map fun s => [.str s] := by
     rw [htk]; simp [namesP]
    have hnl1 : ((namesP (l.books.take i)).map fun s => [D.str s]).length + 1 = i + 1 := by rw [List.length_map, hnl]
    refine brk_i (fun h2 => ?_) (fun h2 => ?_)
    ·have h2 : F = 0 := of_decide_eq_true h2
     subst h2
     simp only [if_true] at he
     conv=>whnf
     refine CallA_view (ds := [spansD [b.off, b.set], i64 (-720), i64 720]) (fn111 [b.off, b.set] (-720) 720 (by simp)) rfl 1 (viewL_cons (viewV_sl rfl rfl) rfl) ?_
     generalize spread (-720) 720 [b.off, b.set] 0 = S at he ⊢
     conv=>whnf
     refine brk_i (fun h3 => ?_) (fun h3 => ?_)
     ·have h3 : S = 0 := by simpa using h3
      subst h3
      simp only [if_true] at he
      conv=>whnf
      refine brk_i (fun h8 => ?_) (fun h8 => ?_)
      ·have h8 : b.ents.length > 8 := by have := of_decide_eq_true h8; simp at this; omega
       rw [if_pos h8, if_neg (by decide)] at he
       conv=>whnf
       refine arith_in (wrap_i64 (by (try dsimp only); omega)) ?_
       conv=>whnf
       rw [← he]
       exact RetA_view 0 rfl ⟨⟨rfl, rfl⟩, rfl⟩
      ·have h8 : ¬ b.ents.length > 8 := by have := of_decide_eq_false h8; simp at this; omega
       rw [if_neg h8, if_pos rfl] at he
       conv=>whnf
       generalize hE : entsE b.ents 0 = E at he
       refine LoopA_i (T := tys) tysOk (by exact drawsB_spec mixed tysOk (by decide +kernel)) b.ents (fun k (_ : Unit) => ⟨[(1, .ptr 1 0), (5, .sl 40 1 0 (i + 1)), (6, .d (i64 i)), (7, .ptr 7 0), (9, .d (i64 k))], [(1, .box (.dd l.cells)), (40, .arr 1 (.dd ((namesP (l.books.take (i + 1))).map fun s => [.str s]))), (7, .box (.dd b.cells))], st⟩)
        (fun k r _ => entsE r k = E) () (Wk.sub ⟨rfl, (by
         show some (V.sl 40 1 0 (((namesP (l.books.take i)).map fun s => [D.str s]).length + 1)) = _
         rw [hnl1]), rfl, rfl, rfl, trivial⟩ ⟨rfl, (by
         show some (Obj.arr 1 (Els.dd ((namesP (l.books.take i)).map (fun s => [D.str s]) ++ [[.str b.name]]))) = _
         rw [hnext]), rfl, trivial⟩) hE ?_ ?_
       ·rintro k y r2 _ hy hk hr2 he2
        rw [entsE] at he2
        conv=>whnf
        refine brk_i (fun _ => ?_) (fun h => absurd hk (by have := of_decide_eq_false h; simp at this; omega))
        conv=>whnf
        refine elemK_nat hy ?_
        conv=>whnf
        refine CallA_v (pa67 y) rfl rfl ?_
        conv=>whnf
        refine brk_i (fun h4 => ?_) (fun h4 => ?_)
        ·have h4 : ¬ entE y = 0 := by simpa using h4
         rw [if_neg h4] at he2
         subst he2
         rw [if_neg h4] at he
         conv=>whnf
         refine arith_in (wrap_i64 (by (try dsimp only); omega)) ?_
         conv=>whnf
         rw [← he]
         exact RetA_view 0 rfl ⟨⟨rfl, rfl⟩, rfl⟩
        ·have h4 : entE y = 0 := by simpa using h4
         rw [if_pos h4] at he2
         conv=>whnf
         refine arith_in (wrap_i64 (by (try dsimp only); omega)) ?_
         conv=>whnf
         exact ⟨(), he2, (Wk.sub (by repeat' first|exact trivial|refine⟨?_,?_⟩|rfl|(simp only[List.length_map];rfl)|simp[PX.get]) (by repeat' first|exact trivial|refine⟨?_,?_⟩|rfl|(simp only[List.length_map];rfl)|simp[PX.get]))⟩
       ·rintro _ he2
        have he2 : ((0, 0) : Int × Int) = E := he2
        subst he2
        rw [if_pos rfl, ← htk] at he
        conv=>whnf
        refine brk_i (fun h => absurd h (by simp)) (fun _ => ?_)
        conv=>whnf
        refine arith_in (wrap_i64 (by (try dsimp only); omega)) ?_
        conv=>whnf
        exact ⟨(), he, (Wk.sub (by repeat' first|exact trivial|refine⟨?_,?_⟩|rfl|(simp only[List.length_map];rfl)|simp[PX.get]) (by repeat' first|exact trivial|refine⟨?_,?_⟩|rfl|(simp only[List.length_map];rfl)|simp[PX.get]))⟩
     ·have h3 : ¬ S = 0 := by simpa using h3
      conv=>whnf
      refine brk_i (fun _ => ?_) (fun h => absurd h (by simp [h3]))
      rw [if_neg h3, if_neg h3] at he
      conv=>whnf
      refine arith_in (wrap_i64 (by (try dsimp only); omega)) ?_
      conv=>whnf
      rw [← he]
      exact RetA_view 0 rfl ⟨⟨rfl, rfl⟩, rfl⟩
    ·have h2 : ¬ F = 0 := of_decide_eq_false h2
     conv=>whnf
     refine brk_i (fun h => absurd (of_decide_eq_true h) h2) (fun _ => ?_)
     conv=>whnf
     refine brk_i (fun _ => ?_) (fun h => absurd h (by simp [h2]))
     rw [if_neg h2, if_neg h2] at he
     conv=>whnf
     refine arith_in (wrap_i64 (by (try dsimp only); omega)) ?_
     conv=>whnf
     rw [← he]
     exact RetA_view 0 rfl ⟨⟨rfl, rfl⟩, rfl⟩
   ·rintro _ he
    rw [booksE] at he
    subst he
    conv=>whnf
    refine brk_i (fun h => absurd h (by simp)) (fun _ => ?_)
    conv=>whnf
    exact RetA_view 0 rfl ⟨⟨rfl, rfl⟩, rfl⟩
end Go.PX
namespace Go.PX
open Go.Proofs
open Go.RowKit
theorem pa47 (l : PLog) : FnV Tryz.prog 47 [l.d] (.bool (decide (checkN l = 0))) := by
 obtain ⟨cp, cq, ce, hcp⟩ : ∃ p q e, checkP l = (p, q, e) := ⟨_, _, _, rfl⟩
 have hce : checkN l = ce := by show (checkP _).2.2 = ce; rw [hcp]
 have h18 : FnV Tryz.prog 18 [l.d] (.tup [i64 cp, i64 cq, i64 ce]) := FnV.cast (pa18 l) (by rw [hcp]; rfl)
 show FnV Tryz.prog 47 [l.d] _
 refine fnV_of mixed tysOk Tryz.func47 rfl (ft := ft47) 1 (by decide +kernel) (by rfl) fun {σ} Y st => ?_
 conv=>whnf
 refine CallA_v (ds := [l.d]) h18 rfl rfl ?_
 conv=>whnf
 rw [hce]
 exact RetA_view 0 rfl ⟨⟨rfl, rfl⟩, rfl⟩
end Go.PX
namespace Go.PX
open Go.Proofs
open Go.RowKit
end Go.PX
namespace Go.PX
open Go.Proofs
open Go.RowKit
end Go.PX
namespace Go.PX
open Go.Proofs
open Go.RowKit
theorem viewLgen {h : Heap} {k n i : Nat} {x : D} {es es' : List (List D)} (h1 : get h i = some (.arr 6 (.dd es))) (he : es = es') (hn : n = es'.length) : viewL (objD h (k + 1)) [.agg [.d x, .sl i 6 0 n]] = some [.agg [x, .vs es']] := by
 have e : viewV (objD h (k + 1)) (.sl i 6 0 n) = some (.vs es') := viewV_sl' h1 he hn
 have : viewL (objD h (k + 1)) [.d x, .sl i 6 0 n] = some [x, .vs es'] := viewL_cons rfl (viewL_cons e rfl)
 refine viewL_cons ?_ rfl
 rw [viewV, this]
end Go.PX
namespace Go.PX
open Go.Proofs
open Go.RowKit
theorem fits_ok {l : PLog} (h : checkN l = 0) : FnV Tryz.prog 19 [l.d] (.tup [.bool (fitP l 0 []), i64 0]) := FnV.cast (pa19 l) (by unfold fitsP; rw [if_pos h])
end Go.PX
namespace Go.PX
open Go.Proofs
open Go.RowKit
set_option maxHeartbeats 4000000 in
theorem pa54 (l : PLog) (hR : LogR l) (n : Int) (hn : 0 ≤ n ∧ n ≤ 2000000) : FnV Tryz.prog 54 [l.d, i64 n] (wideL n l).d := by
 have hlen := hR.books
 show FnV Tryz.prog 54 [l.d, i64 n] _
 refine fnV_of mixed tysOk Tryz.func54 rfl (ft := ft54) 2 (by decide +kernel) (by rfl) fun {σ} Y st => ?_
 conv=>whnf
 refine LoopA_i (T := tys) tysOk (by exact drawsB_spec mixed tysOk (by decide +kernel)) l.books (fun i (_ : Unit) => ⟨[(1, .d (i64 n)), (2, .ptr 2 0), (4, .ptr 4 0), (5, .sl 47 6 0 i), (6, .d (i64 i))], [(2, .box (.dd l.cells)), (4, .box (.dd [i64 0, .nils])), (47, .arr 6 (.dd (((l.books.take i).map (wideB n)).map PBook.cells)))], st⟩)
  (fun i r _ => i ≤ l.books.length) () ((Wk.born 5 47 6 rfl rfl rfl).trans (Wk.sub (by repeat' first|exact trivial|refine⟨?_,?_⟩|rfl|(simp only[List.length_map];rfl)|simp[PX.get]) (by repeat' first|exact trivial|refine⟨?_,?_⟩|rfl|(simp only[List.length_map];rfl)|simp[PX.get]))) (Nat.zero_le _) ?_ ?_
 ·intro i b r _ hx hi hr _
  have htk : l.books.take (i + 1) = l.books.take i ++ [b] := by rw [List.take_succ, hx]; rfl
  have hbR := hR.book b (List.mem_of_getElem? hx)
  have h1 := hbR.off
  have h2 := hbR.set
  conv=>whnf
  refine brk_i (fun _ => ?_) (fun h => absurd hi (by have := of_decide_eq_false h; simp at this; omega))
  conv=>whnf
  refine elemK_nat hx ?_
  conv=>whnf
  refine arith_to (b.off.lo - n) (by rfl) (wrap_i64 (by omega)) ?_
  conv=>whnf
  refine arith_to (b.off.hi + n) (by rfl) (wrap_i64 (by omega)) ?_
  conv=>whnf
  refine DrawCall_v (pa46 (b.off.lo - n) (b.off.hi + n)) rfl rfl ?_
  conv=>whnf
  refine arith_to (b.set.lo - n) (by rfl) (wrap_i64 (by omega)) ?_
  conv=>whnf
  refine arith_to (b.set.hi + n) (by rfl) (wrap_i64 (by omega)) ?_
  conv=>whnf
  refine DrawCall_v (pa46 (b.set.lo - n) (b.set.hi + n)) rfl rfl ?_
  conv=>whnf
  have hAl : (((l.books.take i).map (wideB n)).map PBook.cells).length = i := by simp; omega
  generalize hA : ((l.books.take i).map (wideB n)).map PBook.cells = A at hAl ⊢
  refine ownK_whole rfl ?_
  conv=>whnf
  refine ownK_whole (by show i = A.length; omega) ?_
  conv=>whnf
  refine chk_i (decide_eq_true (by
   show (A.length + 1) * 72 ≤ 140737488355328
   omega)) ?_
  conv=>whnf
  refine arith_in (wrap_i64 (by (try dsimp only); omega)) ?_
  conv=>whnf
  have hA1 : A ++ [(wideB n b).cells] = (((l.books.take (i + 1)).map (wideB n)).map PBook.cells) := by rw [htk, ← hA]; simp
  exact ⟨(), by omega, Wk.sub ⟨rfl, rfl, rfl, (by
   show some (V.sl 47 6 0 (A.length + 1)) = _
   rw [hAl]), rfl, trivial⟩ ⟨rfl, rfl, (by
   show some (Obj.arr 6 (.dd (A ++ [(wideB n b).cells]))) = _
   rw [hA1]), trivial⟩⟩
 ·intro _ _
  rw [List.take_length]
  conv=>whnf
  refine brk_i (fun h => absurd h (by simp)) (fun _ => ?_)
  conv=>whnf
  exact RetA_view 1 (viewLgen (es' := (l.books.map (wideB n)).map PBook.cells) rfl rfl (by simp)) ⟨⟨rfl, rfl⟩, rfl⟩
set_option maxHeartbeats 4000000 in
theorem pa11 (l : PLog) (x : Int) (hx : 0 ≤ x ∧ x ≤ 65535) : FnV Tryz.prog 11 [l.d, .int .u16 x] (.bool true) := by
 by_cases hc : checkN l = 0
 case neg =>
  have h1 : FnV Tryz.prog 32 [l.d] (.tup [i64 0, i64 (checkN l)]) := FnV.cast (pa32 l) (by unfold needF; rw [if_neg hc])
  have h2 : FnV Tryz.prog 19 [l.d] (.tup [.bool false, i64 (checkN l)]) := FnV.cast (pa19 l) (by unfold fitsP; rw [if_neg hc])
  have h3 : FnV Tryz.prog 47 [l.d] (.bool false) := FnV.cast (pa47 l) (by rw [decide_eq_false hc])
  generalize checkN l = E at *
  refine fnV_of mixed tysOk Tryz.func11 rfl (ft := ft11) 2 (by decide +kernel) (by rfl) fun {σ} Y st => ?_
  conv=>whnf
  refine CallA_v (ds := [l.d]) h1 rfl rfl ?_
  conv=>whnf
  refine CallA_v (ds := [l.d]) h2 rfl rfl ?_
  conv=>whnf
  refine CallA_v (ds := [l.d]) h3 rfl rfl ?_
  conv=>whnf
  refine brk_i (fun _ => ?_) (fun h => absurd h (by simp [hc]))
  conv=>whnf
  refine brk_i (fun _ => ?_) (fun h => absurd h (by simp))
  conv=>whnf
  refine CallA_v (pa26) rfl rfl ?_
  conv=>whnf
  exact RetA_view 0 rfl ⟨⟨rfl, rfl⟩, rfl⟩
 have hR := check_ok hc
 have h2 : FnV Tryz.prog 19 [l.d] (.tup [.bool (fitP l 0 []), i64 0]) := fits_ok hc
 have h3 : FnV Tryz.prog 47 [l.d] (.bool true) := FnV.cast (pa47 l) (by rw [decide_eq_true hc])
 cases hf : fitP l 1048576 [] with
 | false =>
  have h1 : FnV Tryz.prog 32 [l.d] (.tup [i64 0, i64 9]) := FnV.cast (pa32 l) (by unfold needF; rw [if_pos hc, hf]; rfl)
  have hf0 : fitP l 0 [] = false := by
   cases h : fitP l 0 [] with
   | false => rfl
   | true => rw [fit_mono (by omega) h] at hf; cases hf
  rw [hf0] at h2
  refine fnV_of mixed tysOk Tryz.func11 rfl (ft := ft11) 2 (by decide +kernel) (by rfl) fun {σ} Y st => ?_
  conv=>whnf
  refine CallA_v (ds := [l.d]) h1 rfl rfl ?_
  conv=>whnf
  refine CallA_v (ds := [l.d]) h2 rfl rfl ?_
  conv=>whnf
  refine CallA_v (ds := [l.d]) h3 rfl rfl ?_
  conv=>whnf
  refine CallA_v (pa26) rfl rfl ?_
  conv=>whnf
  exact RetA_view 0 rfl ⟨⟨rfl, rfl⟩, rfl⟩
 | true =>
  obtain ⟨g1, g2, g3, g4, g5⟩ := need_ok hc hf
  have h1 : FnV Tryz.prog 32 [l.d] (.tup [i64 (needF l).1, i64 0]) := FnV.cast (pa32 l) (by rw [g3])
  generalize (needF l).1 = N at *
  have h4 : FnV Tryz.prog 54 [l.d, i64 N] (wideL N l).d := pa54 l hR N (by omega)
  have h5 : FnV Tryz.prog 47 [(wideL N l).d] (.bool (decide (checkN (wideL N l) = 0))) := pa47 _
  have hff : fitP l 0 [] = decide (N = 0) := by
   by_cases h0 : N = 0
   ·rw [decide_eq_true h0, ← h0]; exact g4
   ·rw [decide_eq_false h0]; exact g5 0 (by omega) (by omega)
  rw [hff] at h2
  by_cases h0 : N = 0
  ·subst h0
   rw [decide_eq_true rfl] at h2
   refine fnV_of mixed tysOk Tryz.func11 rfl (ft := ft11) 2 (by decide +kernel) (by rfl) fun {σ} Y st => ?_
   conv=>whnf
   refine CallA_v (ds := [l.d]) h1 rfl rfl ?_
   conv=>whnf
   refine CallA_v (ds := [l.d]) h2 rfl rfl ?_
   conv=>whnf
   refine CallA_v (ds := [l.d]) h3 rfl rfl ?_
   conv=>whnf
   refine CallA_v (ds := [l.d, i64 0]) h4 rfl rfl ?_
   conv=>whnf
   refine CallA_v (ds := [(wideL 0 l).d]) h5 rfl rfl ?_
   cases decide (checkN (wideL 0 l) = 0)
   ·conv=>whnf
    refine CallA_v (pa26) rfl rfl ?_
    conv=>whnf
    exact RetA_view 0 rfl ⟨⟨rfl, rfl⟩, rfl⟩
   ·conv=>whnf
    refine CallA_v (pa26) rfl rfl ?_
    conv=>whnf
    exact RetA_view 0 rfl ⟨⟨rfl, rfl⟩, rfl⟩
  ·rw [decide_eq_false h0] at h2
   refine fnV_of mixed tysOk Tryz.func11 rfl (ft := ft11) 2 (by decide +kernel) (by rfl) fun {σ} Y st => ?_
   conv=>whnf
   refine CallA_v (ds := [l.d]) h1 rfl rfl ?_
   conv=>whnf
   refine CallA_v (ds := [l.d]) h2 rfl rfl ?_
   conv=>whnf
   refine CallA_v (ds := [l.d]) h3 rfl rfl ?_
   conv=>whnf
   refine brk_i (fun h => absurd (of_decide_eq_true h) (by omega)) (fun _ => ?_)
   conv=>whnf
   refine brk_i (fun h => absurd h (by simp [h0])) (fun _ => ?_)
   conv=>whnf
   refine CallA_v (ds := [l.d, i64 N]) h4 rfl rfl ?_
   conv=>whnf
   refine brk_i (fun _ => ?_) (fun hbig => ?_)
   ·conv=>whnf
    refine CallA_v (pa26) rfl rfl ?_
    conv=>whnf
    exact RetA_view 0 rfl ⟨⟨rfl, rfl⟩, rfl⟩
   have hbig : N ≤ 40000 := by have := of_decide_eq_false hbig; omega
   conv=>whnf
   refine CallA_v (ds := [(wideL N l).d]) h5 rfl rfl ?_
   by_cases hv : checkN (wideL N l) = 0
   case neg =>
    rw [decide_eq_false hv]
    conv=>whnf
    refine CallA_v (pa26) rfl rfl ?_
    conv=>whnf
    exact RetA_view 0 rfl ⟨⟨rfl, rfl⟩, rfl⟩
   rw [decide_eq_true hv]
   have h6 : FnV Tryz.prog 19 [(wideL N l).d] (.tup [.bool true, i64 0]) := FnV.cast (fits_ok hv) (by rw [wide_fit, g4])
   have hm0 := Int.emod_nonneg x h0
   have hm1 := Int.emod_lt_of_pos x (show 0 < N by omega)
   have hm2 : x.tmod N = x % N := Int.tmod_eq_emod_of_nonneg hx.1
   have h7 : FnV Tryz.prog 54 [l.d, i64 (x % N)] (wideL (x % N) l).d := pa54 l hR (x % N) (by omega)
   have h8 : FnV Tryz.prog 19 [(wideL (x % N) l).d] (.tup [.bool false, i64 0]) := FnV.cast (fits_ok (wide_check hc hv hm0 (by omega))) (by rw [wide_fit, g5 _ hm0 hm1])
   generalize x % N = m at hm0 hm1 hm2 h7 h8
   conv=>whnf
   refine brk_i (fun h => absurd (of_decide_eq_true h) h0) (fun _ => ?_)
   conv=>whnf
   refine CallA_v (ds := [(wideL N l).d]) h6 rfl rfl ?_
   conv=>whnf
   refine arith_to x (by rfl) (wrap_i64 (by omega)) ?_
   conv=>whnf
   refine chk_i (decide_eq_true (by omega)) ?_
   conv=>whnf
   rw [hm2]
   refine DrawCall_v (ds := [l.d, i64 m]) h7 rfl rfl ?_
   conv=>whnf
   refine DrawCall_v (ds := [(wideL m l).d]) h8 rfl rfl ?_
   conv=>whnf
   refine CallA_v (pa26) rfl rfl ?_
   conv=>whnf
   exact RetA_view 0 rfl ⟨⟨rfl, rfl⟩, rfl⟩
end Go.PX
