import Derived.Test.YtgpmlbbkfmkmkaaGreatDoorPxQ
set_option linter.all false
set_option maxRecDepth 10000
namespace Go.PX
open Go.Proofs
open Go.RowKit
theorem pa67 (x : PEnt) : FnV Tryz.prog 67 [x.d] (i64 (entE x)) := by
 obtain ⟨sh, kd, wd, nm⟩ := x
 refine fnV_of mixed tysOk Tryz.func67 rfl (ft := ft67) 1 (by decide +kernel) (by rfl) fun {σ} Y st => ?_
 conv=>whnf
 refine CallA_v (ds := [i64 sh, i64 0, i64 20000]) (fn55 sh 0 20000) rfl rfl ?_
 unfold entE outB
 cases h0 : inB sh 0 20000 with
 | false =>
  conv=>whnf
  exact RetA_view 0 rfl ⟨⟨rfl, rfl⟩, rfl⟩
 | true =>
 conv=>whnf
 refine CallA_v (ds := [i64 kd, i64 1, i64 3]) (fn55 kd 1 3) rfl rfl ?_
 cases h1 : inB kd 1 3 with
 | false =>
  have hk : ¬ (kd = 1) ∧ ¬ (kd = 2) ∧ ¬ (kd = 3) := by
   refine ⟨?_, ?_, ?_⟩ <;> rintro rfl <;> simp [inB] at h1
  conv=>whnf
  simp only [Bool.not_true, Bool.false_eq_true, if_false, if_neg hk.1, if_neg hk.2.1, if_neg hk.2.2]
  exact RetA_view 0 rfl ⟨⟨rfl, rfl⟩, rfl⟩
 | true =>
 have hk : kd = 1 ∨ kd = 2 ∨ kd = 3 := by
  unfold inB at h1
  simp at h1; omega
 simp only [Bool.not_true, Bool.false_eq_true, if_false]
 conv=>whnf
 rcases hk with rfl | rfl | rfl
 ·refine brk_i (fun hA => ?_) (fun hA => ?_)
  ·conv=>whnf
   refine CallA_v (ds := [.str wd]) (fn112 wd) rfl rfl ?_
   cases hn : nameF wd with
   | false =>
    conv=>whnf
    exact RetA_view 0 rfl ⟨⟨rfl, rfl⟩, rfl⟩
   | true =>
    conv=>whnf
    refine brk_i (fun hB => ?_) (fun hB => ?_)
    ·have hB : ¬ nm = 0 := by simpa using hB
     conv=>whnf
     rw [decide_eq_false hB]
     exact RetA_view 0 rfl ⟨⟨rfl, rfl⟩, rfl⟩
    ·have hB : nm = 0 := by simpa using hB
     conv=>whnf
     rw [decide_eq_true hB]
     exact RetA_view 0 rfl ⟨⟨rfl, rfl⟩, rfl⟩
  ·conv=>whnf
   refine CallA_v (ds := [.str wd]) (fn112 wd) rfl rfl ?_
   cases hn : nameF wd with
   | false =>
    conv=>whnf
    exact RetA_view 0 rfl ⟨⟨rfl, rfl⟩, rfl⟩
   | true =>
    conv=>whnf
    refine brk_i (fun hB => ?_) (fun hB => ?_)
    ·have hB : ¬ nm = 0 := by simpa using hB
     conv=>whnf
     rw [decide_eq_false hB]
     exact RetA_view 0 rfl ⟨⟨rfl, rfl⟩, rfl⟩
    ·have hB : nm = 0 := by simpa using hB
     conv=>whnf
     rw [decide_eq_true hB]
     exact RetA_view 0 rfl ⟨⟨rfl, rfl⟩, rfl⟩
 ·have hw1 : decide (wd = .empty) = decide (wd = (⟨#[]⟩ : ByteArray)) := rfl
  simp only [if_neg (show ¬ (2 : Int) = 1 by decide), if_pos, hw1]
  refine brk_i (fun hA => ?_) (fun hA => ?_)
  ·rw [hA]
   conv=>whnf
   refine brk_i (fun hB => ?_) (fun hB => ?_)
   ·have hB : ¬ nm = 0 := by simpa using hB
    conv=>whnf
    rw [decide_eq_false hB]
    exact RetA_view 0 rfl ⟨⟨rfl, rfl⟩, rfl⟩
   ·have hB : nm = 0 := by simpa using hB
    conv=>whnf
    rw [decide_eq_true hB]
    exact RetA_view 0 rfl ⟨⟨rfl, rfl⟩, rfl⟩
  ·rw [hA]
   conv=>whnf
   exact RetA_view 0 rfl ⟨⟨rfl, rfl⟩, rfl⟩
 ·simp only [if_neg (show ¬ (3 : Int) = 1 by decide), if_neg (show ¬ (3 : Int) = 2 by decide), if_pos, Bool.not_not]
  refine brk_i (fun hA => ?_) (fun hA => ?_)
  ·conv=>whnf
   refine CallA_v (ds := [.str wd]) (fn112 wd) rfl rfl ?_
   cases hn : nameF wd with
   | false =>
    conv=>whnf
    exact RetA_view 0 rfl ⟨⟨rfl, rfl⟩, rfl⟩
   | true =>
    conv=>whnf
    refine CallA_v (ds := [i64 nm, i64 1, i64 99]) (fn55 nm 1 99) rfl rfl ?_
    cases h4 : inB nm 1 99 with
    | false =>
     conv=>whnf
     exact RetA_view 0 rfl ⟨⟨rfl, rfl⟩, rfl⟩
    | true =>
     conv=>whnf
     exact RetA_view 0 rfl ⟨⟨rfl, rfl⟩, rfl⟩
  ·conv=>whnf
   refine CallA_v (ds := [.str wd]) (fn112 wd) rfl rfl ?_
   cases hn : nameF wd with
   | false =>
    conv=>whnf
    exact RetA_view 0 rfl ⟨⟨rfl, rfl⟩, rfl⟩
   | true =>
    conv=>whnf
    refine CallA_v (ds := [i64 nm, i64 1, i64 99]) (fn55 nm 1 99) rfl rfl ?_
    cases h4 : inB nm 1 99 with
    | false =>
     conv=>whnf
     exact RetA_view 0 rfl ⟨⟨rfl, rfl⟩, rfl⟩
    | true =>
     conv=>whnf
     exact RetA_view 0 rfl ⟨⟨rfl, rfl⟩, rfl⟩
def namesP (l : List PBook) : List ByteArray := l.map (·.name)
theorem headE_eq (pre : List PBook) (b : PBook) : headE pre b = if freshF b.name (namesP pre) = 0 then (if spread (-720) 720 [b.off, b.set] 0 = 0 then (if b.ents.length > 8 then 3 else 0) else spread (-720) 720 [b.off, b.set] 0) else freshF b.name (namesP pre) := by
 have h : ((namesP pre).any fun y => decide (y = b.name)) = pre.any fun y => decide (y.name = b.name) := by
  unfold namesP; rw [List.any_map]; rfl
 unfold headE freshF spread spread spread outB
 rw [h]
 cases nameF b.name <;> cases (pre.any fun y => decide (y.name = b.name)) <;> cases inB b.off.lo (-720) 720 <;> cases inB b.off.hi (-720) 720 <;> cases inB b.set.lo (-720) 720 <;> cases inB b.set.hi (-720) 720 <;> simp
 by_cases h1 : b.off.hi < b.off.lo <;> by_cases h2 : b.set.hi < b.set.lo <;> simp [h1, h2]
set_option maxHeartbeats 2000000 in
theorem pa18 (l : PLog) : FnV Tryz.prog 18 [l.d] (triP (checkP l)) := by
 refine fnV_of mixed tysOk Tryz.func18 rfl (ft := ft18) 1 (by decide +kernel) (by rfl) fun {σ} Y st => ?_
 conv=>whnf
 unfold checkP
 refine CallA_v (ds := [i64 l.near, i64 0, i64 60]) (fn55 l.near 0 60) rfl rfl ?_
 unfold outB
 cases h0 : inB l.near 0 60 with
 | false =>
  conv=>whnf
  exact RetA_view 0 rfl ⟨⟨rfl, rfl⟩, rfl⟩
 | true =>
  conv=>whnf
  rw [List.length_map]
  refine CallA_v (ds := [i64 l.books.length, i64 1, i64 3]) (fn55 l.books.length 1 3) rfl rfl ?_
  cases h1 : inB l.books.length 1 3 with
  | false =>
   conv=>whnf
   exact RetA_view 0 rfl ⟨⟨rfl, rfl⟩, rfl⟩
  | true =>
   have hlen : l.books.length ≤ 3 := by
    have h1 := h1
    unfold inB at h1
    simp at h1; omega
   simp only [Bool.not_true, if_false, Bool.false_eq_true]
   conv=>whnf
   generalize hK : booksE [] l.books 0 = K
   refine LoopA_i (T := tys) tysOk (by exact drawsB_spec mixed tysOk (by decide +kernel)) l.books (fun i (_ : Unit) => ⟨[(1, .ptr 1 0), (5, .sl 40 1 0 i), (6, .d (i64 i))], [(1, .box (.dd l.cells)), (40, .arr 1 (.dd ((namesP (l.books.take i)).map fun s => [.str s])))], st⟩)
    (fun i r _ => booksE (l.books.take i) r i = K) () ((Wk.born 5 40 1 rfl rfl rfl).trans (Wk.sub (by repeat' first|exact trivial|refine⟨?_,?_⟩|rfl|(simp only[List.length_map];rfl)|simp[PX.get]) (by repeat' first|exact trivial|refine⟨?_,?_⟩|rfl|(simp only[List.length_map];rfl)|simp[PX.get]))) hK ?_ ?_
   ·rintro i b r _ hx hi hr he
    rw [booksE, headE_eq] at he
    have htk : l.books.take (i + 1) = l.books.take i ++ [b] := by rw [List.take_succ, hx]; rfl
    have hnl : (namesP (l.books.take i)).length = i := by unfold namesP; simp; omega
    conv=>whnf
    refine brk_i (fun _ => ?_) (fun h => absurd hi (by have := of_decide_eq_false h; simp at this; omega))
    conv=>whnf
    refine elemK_nat hx ?_
    conv=>whnf
    refine CallA_view (ds := [.str b.name, strsD (namesP (l.books.take i))]) (fn91 b.name (namesP (l.books.take i)) (by omega)) rfl 1 (viewL_cons rfl (viewL_cons (viewV_sl rfl (by simp [hnl])) rfl)) ?_
    conv=>whnf
    refine ownK_whole rfl ?_
    conv=>whnf
    refine ownK_whole (by simp [Els.len, hnl]) ?_
    conv=>whnf
    refine chk_i (decide_eq_true (by
     show (((namesP (l.books.take i)).map fun s => [D.str s]).length + 1) * 16 ≤ 140737488355328
     rw [List.length_map]; omega)) ?_
    conv=>whnf
    generalize freshF b.name (namesP (l.books.take i)) = F at he ⊢
    have hnext : (namesP (l.books.take i)).map (fun s => [D.str s]) ++ [[.str b.name]] = (namesP (l.books.take (i + 1))).map fun s => [.str s] := by
     rw [htk]; simp [namesP]
    have hnl1 : ((namesP (l.books.take i)).map fun s => [D.str s]).length + 1 = i + 1 := by rw [List.length_map, hnl]
    refine brk_i (fun h2 => ?_) (fun h2 => ?_)
    ·have h2 : F = 0 := of_decide_eq_true h2
     subst h2
     simp only [if_true] at he
     conv=>whnf
     refine CallA_view (ds := [spansD [b.off, b.set], i64 (-720), i64 720]) (fn111 [b.off, b.set] (-720) 720 (by simp)) rfl 1 (viewL_cons (viewV_sl rfl rfl) rfl) ?_
     generalize spread (-720) 720 [b.off, b.set] 0 = S at he ⊢
     conv=>whnf
     refine brk_i (fun h3 => ?_) (fun h3 => ?_)
     ·have h3 : S = 0 := by simpa using h3
      subst h3
      simp only [if_true] at he
      conv=>whnf
      refine brk_i (fun h8 => ?_) (fun h8 => ?_)
      ·have h8 : b.ents.length > 8 := by have := of_decide_eq_true h8; simp at this; omega
       rw [if_pos h8, if_neg (by decide)] at he
       conv=>whnf
       refine arith_in (wrap_i64 (by (try dsimp only); omega)) ?_
       conv=>whnf
       rw [← he]
       exact RetA_view 0 rfl ⟨⟨rfl, rfl⟩, rfl⟩
      ·have h8 : ¬ b.ents.length > 8 := by have := of_decide_eq_false h8; simp at this; omega
       rw [if_neg h8, if_pos rfl] at he
       conv=>whnf
       generalize hE : entsE b.ents 0 = E at he
       refine LoopA_i (T := tys) tysOk (by exact drawsB_spec mixed tysOk (by decide +kernel)) b.ents (fun k (_ : Unit) => ⟨[(1, .ptr 1 0), (5, .sl 40 1 0 (i + 1)), (6, .d (i64 i)), (7, .ptr 7 0), (9, .d (i64 k))], [(1, .box (.dd l.cells)), (40, .arr 1 (.dd ((namesP (l.books.take (i + 1))).map fun s => [.str s]))), (7, .box (.dd b.cells))], st⟩)
        (fun k r _ => entsE r k = E) () (Wk.sub ⟨rfl, (by
         show some (V.sl 40 1 0 (((namesP (l.books.take i)).map fun s => [D.str s]).length + 1)) = _
         rw [hnl1]), rfl, rfl, rfl, trivial⟩ ⟨rfl, (by
         show some (Obj.arr 1 (Els.dd ((namesP (l.books.take i)).map (fun s => [D.str s]) ++ [[.str b.name]]))) = _
         rw [hnext]), rfl, trivial⟩) hE ?_ ?_
       ·rintro k y r2 _ hy hk hr2 he2
        rw [entsE] at he2
        conv=>whnf
        refine brk_i (fun _ => ?_) (fun h => absurd hk (by have := of_decide_eq_false h; simp at this; omega))
        conv=>whnf
        refine elemK_nat hy ?_
        conv=>whnf
        refine CallA_v (pa67 y) rfl rfl ?_
        conv=>whnf
        refine brk_i (fun h4 => ?_) (fun h4 => ?_)
        ·have h4 : ¬ entE y = 0 := by simpa using h4
         rw [if_neg h4] at he2
         subst he2
         rw [if_neg h4] at he
         conv=>whnf
         refine arith_in (wrap_i64 (by (try dsimp only); omega)) ?_
         conv=>whnf
         rw [← he]
         exact RetA_view 0 rfl ⟨⟨rfl, rfl⟩, rfl⟩
        ·have h4 : entE y = 0 := by simpa using h4
         rw [if_pos h4] at he2
         conv=>whnf
         refine arith_in (wrap_i64 (by (try dsimp only); omega)) ?_
         conv=>whnf
         exact ⟨(), he2, (Wk.sub (by repeat' first|exact trivial|refine⟨?_,?_⟩|rfl|(simp only[List.length_map];rfl)|simp[PX.get]) (by repeat' first|exact trivial|refine⟨?_,?_⟩|rfl|(simp only[List.length_map];rfl)|simp[PX.get]))⟩
       ·rintro _ he2
        have he2 : ((0, 0) : Int × Int) = E := he2
        subst he2
        rw [if_pos rfl, ← htk] at he
        conv=>whnf
        refine brk_i (fun h => absurd h (by simp)) (fun _ => ?_)
        conv=>whnf
        refine arith_in (wrap_i64 (by (try dsimp only); omega)) ?_
        conv=>whnf
        exact ⟨(), he, (Wk.sub (by repeat' first|exact trivial|refine⟨?_,?_⟩|rfl|(simp only[List.length_map];rfl)|simp[PX.get]) (by repeat' first|exact trivial|refine⟨?_,?_⟩|rfl|(simp only[List.length_map];rfl)|simp[PX.get]))⟩
     ·have h3 : ¬ S = 0 := by simpa using h3
      conv=>whnf
      refine brk_i (fun _ => ?_) (fun h => absurd h (by simp [h3]))
      rw [if_neg h3, if_neg h3] at he
      conv=>whnf
      refine arith_in (wrap_i64 (by (try dsimp only); omega)) ?_
      conv=>whnf
      rw [← he]
      exact RetA_view 0 rfl ⟨⟨rfl, rfl⟩, rfl⟩
    ·have h2 : ¬ F = 0 := of_decide_eq_false h2
     conv=>whnf
     refine brk_i (fun h => absurd (of_decide_eq_true h) h2) (fun _ => ?_)
     conv=>whnf
     refine brk_i (fun _ => ?_) (fun h => absurd h (by simp [h2]))
     rw [if_neg h2, if_neg h2] at he
     conv=>whnf
     refine arith_in (wrap_i64 (by (try dsimp only); omega)) ?_
     conv=>whnf
     rw [← he]
     exact RetA_view 0 rfl ⟨⟨rfl, rfl⟩, rfl⟩
   ·rintro _ he
    rw [booksE] at he
    subst he
    conv=>whnf
    refine brk_i (fun h => absurd h (by simp)) (fun _ => ?_)
    conv=>whnf
    exact RetA_view 0 rfl ⟨⟨rfl, rfl⟩, rfl⟩
end Go.PX
namespace Go.PX
open Go.Proofs
open Go.RowKit
theorem pa47 (l : PLog) : FnV Tryz.prog 47 [l.d] (.bool (decide (checkN l = 0))) := by
 obtain ⟨cp, cq, ce, hcp⟩ : ∃ p q e, checkP l = (p, q, e) := ⟨_, _, _, rfl⟩
 have hce : checkN l = ce := by show (checkP _).2.2 = ce; rw [hcp]
 have h18 : FnV Tryz.prog 18 [l.d] (.tup [i64 cp, i64 cq, i64 ce]) := FnV.cast (pa18 l) (by rw [hcp]; rfl)
 show FnV Tryz.prog 47 [l.d] _
 refine fnV_of mixed tysOk Tryz.func47 rfl (ft := ft47) 1 (by decide +kernel) (by rfl) fun {σ} Y st => ?_
 conv=>whnf
 refine CallA_v (ds := [l.d]) h18 rfl rfl ?_
 conv=>whnf
 rw [hce]
 exact RetA_view 0 rfl ⟨⟨rfl, rfl⟩, rfl⟩
theorem inst_bd {l : PLog} (hR : LogR l) {a : PAt} (ha : isAt l a = true) : (-5000000000 ≤ (instS l a).lo ∧ (instS l a).lo ≤ 5000000000) ∧ (-5000000000 ≤ (instS l a).hi ∧ (instS l a).hi ≤ 5000000000) := by
 obtain ⟨i, k, b', y, rfl, hA⟩ := isAt_iff.1 ha
 have h1 := ahead_bd hR ⟨i, perOf b' k⟩ .right
 have h2 := at_R hR hA
 rw [instS_at hA]
 simp only
 omega
end Go.PX
namespace Go.PX
open Go.Proofs
open Go.RowKit
theorem viewLg {h : Heap} {k n : Nat} (L : PLog) (hn : n = L.books.length) (h1 : get h 900001 = some (.arr 6 (.dd (L.books.map PBook.cells)))) : viewV (objD h (k + 1)) (.agg [.d (i64 L.near), .sl 900001 6 0 n]) = some L.d := by
 have e : viewV (objD h (k + 1)) (.sl 900001 6 0 n) = some (booksD L.books) := viewV_sl h1 (by simp [hn])
 have : viewL (objD h (k + 1)) [.d (i64 L.near), .sl 900001 6 0 n] = some [i64 L.near, booksD L.books] := viewL_cons rfl (viewL_cons e rfl)
 rw [viewV, this]; rfl
set_option maxHeartbeats 4000000 in
theorem pa14 (l : PLog) (x y : PAt) (d : Int) (hd : 0 ≤ d ∧ d ≤ 65535) : FnV Tryz.prog 14 [l.d, .agg (x.cells ++ y.cells), .int .u16 d] (.bool true) := by
 refine fnV_of mixed tysOk Tryz.func14 rfl (ft := ft14) 3 (by decide +kernel) (by rfl) fun {σ} Y st => ?_
 conv=>whnf
 refine CallA_v (ds := [l.d]) (pa47 l) rfl rfl ?_
 by_cases hc : checkN l = 0
 case neg =>
  rw [decide_eq_false hc]
  conv=>whnf
  refine CallA_v (pa26) rfl rfl ?_
  conv=>whnf
  exact RetA_view 0 rfl ⟨⟨rfl, rfl⟩, rfl⟩
 rw [decide_eq_true hc]
 have hR := check_ok hc
 have hlen := hR.books
 conv=>whnf
 generalize hL : lateL d l = L
 refine LoopA_i (T := tys) tysOk (by exact drawsB_spec mixed tysOk (by decide +kernel)) l.books (fun i (_ : Unit) => ⟨[(2, .d (.int .u16 d)), (3, .ptr 3 0), (4, .ptr 4 0), (7, .ptr 7 0), (8, .d (i64 i))], [(3, .box (.dd l.cells)), (4, .box (.dd (x.cells ++ y.cells))), (7, .box (.vv [.d (i64 l.near), .sl 900001 6 0 i])), (900001, .arr 6 (.dd (((l.books.take i).map (lateB d)).map PBook.cells)))], st⟩)
  (fun i r _ => i ≤ l.books.length) () ((Wk.bornAtD 7 900001 6 [i64 l.near] [] rfl rfl rfl rfl rfl).trans (Wk.sub (by repeat' first|exact trivial|refine⟨?_,?_⟩|rfl|(simp only[List.length_map];rfl)|simp[PX.get]) (by repeat' first|exact trivial|refine⟨?_,?_⟩|rfl|(simp only[List.length_map];rfl)|simp[PX.get]))) (Nat.zero_le _) ?_ ?_
 ·intro i b r _ hx hi hr _
  have htk : l.books.take (i + 1) = l.books.take i ++ [b] := by rw [List.take_succ, hx]; rfl
  have hbR := hR.book b (List.mem_of_getElem? hx)
  have hel := hbR.ents
  conv=>whnf
  refine brk_i (fun _ => ?_) (fun h => absurd hi (by have := of_decide_eq_false h; simp at this; omega))
  conv=>whnf
  refine elemK_nat hx ?_
  conv=>whnf
  refine ownK_whole rfl ?_
  conv=>whnf
  refine chk_i (by show (lenAllD 4 (b.ents.map PEnt.cells) && true) = true; rw [lenAllD_map (fun x => ⟨rfl, rfl⟩)]; rfl) ?_
  conv=>whnf
  refine chk_i (decide_eq_true (by simp [Els.len]; omega)) ?_
  conv=>whnf
  refine LoopA_i (T := tys) tysOk (by exact drawsB_spec mixed tysOk (by decide +kernel)) b.ents (fun k (_ : Unit) => ⟨[(2, .d (.int .u16 d)), (3, .ptr 3 0), (4, .ptr 4 0), (7, .ptr 7 0), (8, .d (i64 i)), (9, .ptr 9 0), (10, .d (i64 k))], [(3, .box (.dd l.cells)), (4, .box (.dd (x.cells ++ y.cells))), (7, .box (.vv [.d (i64 l.near), .sl 900001 6 0 i])), (900001, .arr 6 (.dd (((l.books.take i).map (lateB d)).map PBook.cells))), (9, .box (.vv [.d (.str b.name), .d (i64 b.off.lo), .d (i64 b.off.hi), .d (i64 b.set.lo), .d (i64 b.set.hi), .sl 46 4 0 b.ents.length])), (46, .arr 4 (.dd (((b.ents.take k).map (lateE d) ++ b.ents.drop k).map PEnt.cells)))], st⟩)
   (fun k r _ => k ≤ b.ents.length) () (Wk.sub ⟨rfl, rfl, rfl, rfl, rfl, rfl, rfl, trivial⟩ ⟨rfl, rfl, rfl, rfl, (by
    show some (Obj.box (.vv [.d (.str b.name), .d (i64 b.off.lo), .d (i64 b.off.hi), .d (i64 b.set.lo), .d (i64 b.set.hi), .sl 46 4 0 (0 + (b.ents.map PEnt.cells).length)])) = _
    rw [List.length_map, Nat.zero_add]), rfl, trivial⟩) (Nat.zero_le _) ?_ ?_
  ·intro k z r2 _ hz hk hr2 _
   have hzR := (hbR.ent z (List.mem_of_getElem? hz)).1
   conv=>whnf
   refine brk_i (fun _ => ?_) (fun h => absurd hk (by have := of_decide_eq_false h; simp at this; omega))
   conv=>whnf
   have hzc : ((b.ents.take k).map (lateE d) ++ b.ents.drop k)[k]? = some z := by
    rw [List.getElem?_append_right (by simp; omega)]
    simp only [List.length_map, List.length_take, Nat.min_eq_left (Nat.le_of_lt hk), Nat.sub_self]
    rw [List.getElem?_drop]; simpa using hz
   have hset : ((b.ents.take k).map (lateE d) ++ b.ents.drop k).set k (lateE d z) = (b.ents.take (k + 1)).map (lateE d) ++ b.ents.drop (k + 1) := by
    have hd1 : b.ents.drop k = z :: b.ents.drop (k + 1) := by
     rw [← List.getElem_cons_drop (h := hk)]
     have := List.getElem?_eq_some_iff.1 hz
     obtain ⟨_, h⟩ := this
     rw [h]
    have ht1 : b.ents.take (k + 1) = b.ents.take k ++ [z] := by rw [List.take_succ, hz]; rfl
    rw [hd1, ht1, List.set_append_right _ _ (by simp; omega)]
    simp [Nat.min_eq_left (Nat.le_of_lt hk)]
   generalize (b.ents.take k).map (lateE d) ++ b.ents.drop k = E0 at hzc hset ⊢
   generalize (b.ents.take (k + 1)).map (lateE d) ++ b.ents.drop (k + 1) = E1 at hset ⊢
   refine chk_i (by simp; omega) ?_
   conv=>whnf
   refine cellK_i z.cells (by simp [hzc]) ?_
   conv=>whnf
   refine arith_to d (by rfl) (wrap_i64 (by omega)) ?_
   conv=>whnf
   refine arith_to (z.shown + d) (by rfl) (wrap_i64 (by omega)) ?_
   conv=>whnf
   refine chk_i (by simp; omega) ?_
   conv=>whnf
   refine cellK_i z.cells (by simp [hzc]) ?_
   conv=>whnf
   refine arith_in (wrap_i64 (by (try dsimp only); omega)) ?_
   conv=>whnf
   exact ⟨(), by omega, Wk.sub ⟨rfl, rfl, rfl, rfl, rfl, rfl, rfl, trivial⟩ ⟨rfl, rfl, rfl, rfl, rfl, (by
    show some (Obj.arr 4 (.dd ((E0.map PEnt.cells).set (0 + (k : Int).toNat) (lateE d z).cells))) = _
    rw [Nat.zero_add, Int.toNat_natCast, ← hset, List.map_set]), trivial⟩⟩
  ·intro _ _
   conv=>whnf
   refine brk_i (fun h => absurd h (by simp)) (fun _ => ?_)
   conv=>whnf
   refine ownK_whole rfl ?_
   conv=>whnf
   have hAl : (((l.books.take i).map (lateB d)).map PBook.cells).length = i := by simp; omega
   generalize hA : ((l.books.take i).map (lateB d)).map PBook.cells = A at hAl ⊢
   refine ownK_whole (by show i = A.length; omega) ?_
   conv=>whnf
   refine chk_i (by
    show (true && !nameBL 73 (List.flatten (injL A ++ [inj (hdC b) ++ [V.sl 46 4 0 b.ents.length]]))) = true
    rw [nameBL_injL]; rfl) ?_
   conv=>whnf
   refine chk_i (decide_eq_true (by
    show (A.length + 1) * 72 ≤ 140737488355328
    omega)) ?_
   conv=>whnf
   refine arith_in (wrap_i64 (by (try dsimp only); omega)) ?_
   conv=>whnf
   have hA1 : A ++ [(lateB d b).cells] = (((l.books.take (i + 1)).map (lateB d)).map PBook.cells) := by rw [htk, ← hA]; simp
   exact ⟨(), by omega, (Wk.frzArr 1 [46] 73 (sz := 6) (vs := injL A ++ [inj (hdC b) ++ [V.sl 46 4 0 b.ents.length]]) (ds := A ++ [(lateB d b).cells]) rfl (viewLL_app (viewLL_one (viewL_app (a := hdC b) (viewL_cons (viewV_sl' (es' := (b.ents.map (lateE d)).map PEnt.cells) rfl (by rw [List.take_length, List.drop_length, List.append_nil]) (by simp)) rfl))) _)).trans ((Wk.move 73 900001 rfl rfl).trans (Wk.sub ⟨rfl, rfl, rfl, rfl, rfl, trivial⟩ ⟨rfl, rfl, (by
    show some (Obj.box (.vv [.d (i64 l.near), .sl 900001 6 0 (A.length + 1)])) = _
    rw [hAl]), (by
    show some (Obj.arr 6 (.dd (A ++ [(lateB d b).cells]))) = _
    rw [hA1]), trivial⟩))⟩
 ·intro _ _
  rw [List.take_length, show l.books.map (lateB d) = L.books from by rw [← hL]; rfl, show l.near = L.near from by rw [← hL]; rfl]
  have hLn : l.books.length = L.books.length := by rw [← hL]; simp [lateL]
  conv=>whnf
  refine brk_i (fun h => absurd h (by simp)) (fun _ => ?_)
  conv=>whnf
  refine CallA_view (ds := [L.d]) (pa47 L) rfl 1 (viewL_cons (viewLg L hLn rfl) rfl) ?_
  conv=>whnf
  refine brk_i (fun h => ?_) (fun h => ?_)
  ·conv=>whnf
   refine CallA_v (pa26) rfl rfl ?_
   conv=>whnf
   exact RetA_view 0 rfl ⟨⟨rfl, rfl⟩, rfl⟩
  have hc2 : checkN L = 0 := by simpa using h
  have hc2' : checkN (lateL d l) = 0 := by rw [hL]; exact hc2
  have hN : needF L = needF l := by rw [← hL]; exact late_needF hc hc2'
  have hP : apartF L x y = apartF l x y := by rw [← hL]; exact late_apartF hc hc2' x y
  have a1 : FnV Tryz.prog 32 [l.d] (.tup [i64 (needF l).1, i64 (needF l).2]) := pa32 l
  have a2 : FnV Tryz.prog 32 [L.d] (.tup [i64 (needF l).1, i64 (needF l).2]) := FnV.cast (pa32 L) (by rw [hN])
  have b1 : FnV Tryz.prog 27 [l.d, x.d, y.d] (.tup [(apartF l x y).1.d, i64 (apartF l x y).2.1, i64 (apartF l x y).2.2]) := pa27 l x y
  have b2 : FnV Tryz.prog 27 [L.d, x.d, y.d] (.tup [(apartF l x y).1.d, i64 (apartF l x y).2.1, i64 (apartF l x y).2.2]) := FnV.cast (pa27 L x y) (by rw [hP])
  generalize (needF l).1 = n1 at a1 a2
  generalize (needF l).2 = n2 at a1 a2
  generalize (apartF l x y).2.1 = o1 at b1 b2
  generalize (apartF l x y).2.2 = o2 at b1 b2
  generalize (apartF l x y).1 = S at b1 b2
  have hI : ∃ p q E, (FnV Tryz.prog 24 [l.d, x.d] (.tup [Span.d ⟨p, q⟩, i64 E])) ∧ (E = 0 → (-5000000000 ≤ p ∧ p ≤ 5000000000) ∧ (-5000000000 ≤ q ∧ q ≤ 5000000000)) ∧ (E = 0 → FnV Tryz.prog 24 [L.d, x.d] (.tup [Span.d ⟨p + d, q + d⟩, i64 E])) ∧ (E ≠ 0 → FnV Tryz.prog 24 [L.d, x.d] (.tup [Span.d ⟨p, q⟩, i64 E])) := by
   have hE : downE L [x] = downE l [x] := by rw [← hL]; exact late_downE hc hc2' [x]
   by_cases h0 : downE l [x] = 0
   ·obtain ⟨_, hf, ha⟩ := downE_zero h0
    have hx := ha x (by simp)
    have hbd := inst_bd hR hx
    have hl := late_inst (d := d) hf hx
    rw [hL] at hl
    exact ⟨(instS l x).lo, (instS l x).hi, 0, FnV.cast (pa24 l x) (by unfold instF; rw [if_pos h0]), fun _ => hbd, fun _ => FnV.cast (pa24 L x) (by unfold instF; rw [if_pos (by rw [hE]; exact h0), hl]), fun h => absurd rfl h⟩
   ·exact ⟨0, 0, downE l [x], FnV.cast (pa24 l x) (by unfold instF; rw [if_neg h0]), fun h => absurd h h0, fun h => absurd h h0, fun _ => FnV.cast (pa24 L x) (by unfold instF; rw [if_neg (by rw [hE]; exact h0), hE])⟩
  obtain ⟨p, q, E, c1, hbd, c2, c3⟩ := hI
  conv=>whnf
  refine CallA_v (ds := [l.d]) a1 rfl rfl ?_
  conv=>whnf
  refine CallA_view (ds := [L.d]) a2 rfl 1 (viewL_cons (viewLg L hLn rfl) rfl) ?_
  conv=>whnf
  refine CallA_v (ds := [l.d, x.d, y.d]) b1 rfl rfl ?_
  conv=>whnf
  refine CallA_view (ds := [L.d, x.d, y.d]) b2 rfl 1 (viewL_cons (viewLg L hLn rfl) (viewL_cons rfl (viewL_cons rfl rfl))) ?_
  conv=>whnf
  refine brk_i (fun h => absurd h (by simp)) (fun _ => ?_)
  conv=>whnf
  refine brk_i (fun h => absurd h (by simp)) (fun _ => ?_)
  conv=>whnf
  refine brk_i (fun h => absurd h (by simp)) (fun _ => ?_)
  conv=>whnf
  refine brk_i (fun h => absurd h (by simp)) (fun _ => ?_)
  conv=>whnf
  refine brk_i (fun h => absurd h (by simp)) (fun _ => ?_)
  conv=>whnf
  refine CallA_v (ds := [l.d, x.d]) c1 rfl rfl ?_
  conv=>whnf
  by_cases hE : E = 0
  ·subst hE
   have hbd := hbd rfl
   refine CallA_view (ds := [L.d, x.d]) (c2 rfl) rfl 1 (viewL_cons (viewLg L hLn rfl) (viewL_cons rfl rfl)) ?_
   conv=>whnf
   repeat' (first
    | (refine CallA_v (pa46 _ _) rfl rfl ?_; conv=>whnf)
    | (refine CallA_view (pa46 _ _) rfl 1 rfl ?_; conv=>whnf)
    | (refine DrawCall_v (pa46 _ _) rfl rfl ?_; conv=>whnf)
    | (refine DrawCall_view (pa46 _ _) rfl 1 rfl ?_; conv=>whnf)
    | (refine CallA_v (pa26) rfl rfl ?_; conv=>whnf)
    | (refine CallA_view (pa26) rfl 1 rfl ?_; conv=>whnf)
    | (refine DrawCall_v (pa26) rfl rfl ?_; conv=>whnf)
    | (refine DrawCall_view (pa26) rfl 1 rfl ?_; conv=>whnf)
    | (refine arith_to (d) (by rfl) (wrap_i64 (by omega)) ?_; conv=>whnf)
    | (refine arith_to (p + d) (by rfl) (wrap_i64 (by omega)) ?_; conv=>whnf)
    | (refine arith_to (q + d) (by rfl) (wrap_i64 (by omega)) ?_; conv=>whnf)
    | (refine brk_i (fun _ => ?_) (fun h => absurd h (by simp)); conv=>whnf)
    | (refine arith_in (wrap_i64 (by (try dsimp only); omega)) ?_; conv=>whnf)
    | (refine elemK_nat (by assumption) ?_; conv=>whnf)
    | (refine ownK_whole (by first | rfl | assumption | (simp [Els.len]; done) | (simp [Els.len]; omega)) ?_; conv=>whnf)
    | (refine chk_i (by first | (exact decide_eq_true (by (try simp only [List.length_map]); omega)) | (simp [Els.len, Els.cons, V.cells, Els.toV, injL]; done) | (simp [Els.len, Els.cons, V.cells, Els.toV, injL]; omega)) ?_; conv=>whnf)
    | fail)
   exact RetA_view 0 rfl ⟨⟨rfl, rfl⟩, rfl⟩
  ·refine CallA_view (ds := [L.d, x.d]) (c3 hE) rfl 1 (viewL_cons (viewLg L hLn rfl) (viewL_cons rfl rfl)) ?_
   conv=>whnf
   refine brk_i (fun _ => ?_) (fun h => absurd h (by simp [hE]))
   conv=>whnf
   refine brk_i (fun _ => ?_) (fun h => absurd h (by simp))
   repeat' (first
    | (refine CallA_v (pa26) rfl rfl ?_; conv=>whnf)
    | (refine CallA_view (pa26) rfl 1 rfl ?_; conv=>whnf)
    | (refine DrawCall_v (pa26) rfl rfl ?_; conv=>whnf)
    | (refine DrawCall_view (pa26) rfl 1 rfl ?_; conv=>whnf)
    | (refine arith_in (wrap_i64 (by (try dsimp only); omega)) ?_; conv=>whnf)
    | (refine elemK_nat (by assumption) ?_; conv=>whnf)
    | (refine ownK_whole (by first | rfl | assumption | (simp [Els.len]; done) | (simp [Els.len]; omega)) ?_; conv=>whnf)
    | (refine chk_i (by first | (exact decide_eq_true (by (try simp only [List.length_map]); omega)) | (simp [Els.len, Els.cons, V.cells, Els.toV, injL]; done) | (simp [Els.len, Els.cons, V.cells, Els.toV, injL]; omega)) ?_; conv=>whnf)
    | fail)
   exact RetA_view 0 rfl ⟨⟨rfl, rfl⟩, rfl⟩
end Go.PX
