import Derived.Test.YtgpmlbbkfmkmkaaGreatDoorPxQ
import Derived.Test.YtgpmlbbkfmkmkaaGreatDoorPxL
set_option linter.all false
set_option maxRecDepth 10000
namespace Go.PX
open Go.Proofs
open Go.RowKit
theorem pa67 (x : PEnt) : FnV Tryz.prog 67 [x.d] (i64 (entE x)) := by
 obtain ⟨sh, kd, wd, nm⟩ := x
 refine fnV_of mixed tysOk Tryz.func67 rfl (ft := ft67) 1 (by decide +kernel) (by rfl) fun {σ} Y st => ?_
 conv=>whnf
 refine CallA_v (ds := [i64 sh, i64 0, i64 20000]) (fn55 sh 0 20000) rfl rfl ?_
 unfold entE outB
 cases h0 : inB sh 0 20000 with
 | false =>
  conv=>whnf
  exact RetA_view 0 rfl ⟨⟨rfl, rfl⟩, rfl⟩
 | true =>
 conv=>whnf
 refine CallA_v (ds := [i64 kd, i64 1, i64 3]) (fn55 kd 1 3) rfl rfl ?_
 cases h1 : inB kd 1 3 with
 | false =>
  have hk : ¬ (kd = 1) ∧ ¬ (kd = 2) ∧ ¬ (kd = 3) := by
   refine ⟨?_, ?_, ?_⟩ <;> rintro rfl <;> simp [inB] at h1
  conv=>whnf
  simp only [Bool.not_true, Bool.false_eq_true, if_false, if_neg hk.1, if_neg hk.2.1, if_neg hk.2.2]
  exact RetA_view 0 rfl ⟨⟨rfl, rfl⟩, rfl⟩
 | true =>
 have hk : kd = 1 ∨ kd = 2 ∨ kd = 3 := by
  unfold inB at h1
  simp at h1; omega
 simp only [Bool.not_true, Bool.false_eq_true, if_false]
 conv=>whnf
 rcases hk with rfl | rfl | rfl
 ·refine brk_i (fun hA => ?_) (fun hA => ?_)
  ·conv=>whnf
   refine CallA_v (ds := [.str wd]) (fn112 wd) rfl rfl ?_
   cases hn : nameF wd with
   | false =>
    conv=>whnf
    exact RetA_view 0 rfl ⟨⟨rfl, rfl⟩, rfl⟩
   | true =>
    conv=>whnf
    refine brk_i (fun hB => ?_) (fun hB => ?_)
    ·have hB : ¬ nm = 0 := by simpa using hB
     conv=>whnf
     rw [decide_eq_false hB]
     exact RetA_view 0 rfl ⟨⟨rfl, rfl⟩, rfl⟩
    ·have hB : nm = 0 := by simpa using hB
     conv=>whnf
     rw [decide_eq_true hB]
     exact RetA_view 0 rfl ⟨⟨rfl, rfl⟩, rfl⟩
  ·conv=>whnf
   refine CallA_v (ds := [.str wd]) (fn112 wd) rfl rfl ?_
   cases hn : nameF wd with
   | false =>
    conv=>whnf
    exact RetA_view 0 rfl ⟨⟨rfl, rfl⟩, rfl⟩
   | true =>
    conv=>whnf
    refine brk_i (fun hB => ?_) (fun hB => ?_)
    ·have hB : ¬ nm = 0 := by simpa using hB
     conv=>whnf
     rw [decide_eq_false hB]
     exact RetA_view 0 rfl ⟨⟨rfl, rfl⟩, rfl⟩
    ·have hB : nm = 0 := by simpa using hB
     conv=>whnf
     rw [decide_eq_true hB]
     exact RetA_view 0 rfl ⟨⟨rfl, rfl⟩, rfl⟩
 ·have hw1 : decide (wd = .empty) = decide (wd = (⟨#[]⟩ : ByteArray)) := rfl
  simp only [if_neg (show ¬ (2 : Int) = 1 by decide), if_pos, hw1]
  refine brk_i (fun hA => ?_) (fun hA => ?_)
  ·rw [hA]
   conv=>whnf
   refine brk_i (fun hB => ?_) (fun hB => ?_)
   ·have hB : ¬ nm = 0 := by simpa using hB
    conv=>whnf
    rw [decide_eq_false hB]
    exact RetA_view 0 rfl ⟨⟨rfl, rfl⟩, rfl⟩
   ·have hB : nm = 0 := by simpa using hB
    conv=>whnf
    rw [decide_eq_true hB]
    exact RetA_view 0 rfl ⟨⟨rfl, rfl⟩, rfl⟩
  ·rw [hA]
   conv=>whnf
   exact RetA_view 0 rfl ⟨⟨rfl, rfl⟩, rfl⟩
 ·simp only [if_neg (show ¬ (3 : Int) = 1 by decide), if_neg (show ¬ (3 : Int) = 2 by decide), if_pos, Bool.not_not]
  refine brk_i (fun hA => ?_) (fun hA => ?_)
  ·conv=>whnf
   refine CallA_v (ds := [.str wd]) (fn112 wd) rfl rfl ?_
   cases hn : nameF wd with
   | false =>
    conv=>whnf
    exact RetA_view 0 rfl ⟨⟨rfl, rfl⟩, rfl⟩
   | true =>
    conv=>whnf
    refine CallA_v (ds := [i64 nm, i64 1, i64 99]) (fn55 nm 1 99) rfl rfl ?_
    cases h4 : inB nm 1 99 with
    | false =>
     conv=>whnf
     exact RetA_view 0 rfl ⟨⟨rfl, rfl⟩, rfl⟩
    | true =>
     conv=>whnf
     exact RetA_view 0 rfl ⟨⟨rfl, rfl⟩, rfl⟩
  ·conv=>whnf
   refine CallA_v (ds := [.str wd]) (fn112 wd) rfl rfl ?_
   cases hn : nameF wd with
   | false =>
    conv=>whnf
    exact RetA_view 0 rfl ⟨⟨rfl, rfl⟩, rfl⟩
   | true =>
    conv=>whnf
    refine CallA_v (ds := [i64 nm, i64 1, i64 99]) (fn55 nm 1 99) rfl rfl ?_
    cases h4 : inB nm 1 99 with
    | false =>
     conv=>whnf
     exact RetA_view 0 rfl ⟨⟨rfl, rfl⟩, rfl⟩
    | true =>
     conv=>whnf
     exact RetA_view 0 rfl ⟨⟨rfl, rfl⟩, rfl⟩
def namesP (l : List PBook) : List ByteArray := l.map (·.name)
theorem headE_eq (pre : List PBook) (b : PBook) : headE pre b = if freshF b.name (namesP pre) = 0 then (if spread (-720) 720 [b.off, b.set] 0 = 0 then (if b.ents.length > 8 then 3 else 0) else spread (-720) 720 [b.off, b.set] 0) else freshF b.name (namesP pre) := by
 have h : ((namesP pre).any fun y => decide (y = b.name)) = pre.any fun y => decide (y.name = b.name) := by
  unfold namesP; rw [List.any_map]; rfl
 unfold headE freshF spread spread spread outB
 rw [h]
 cases nameF b.name <;> cases (pre.any fun y => decide (y.name = b.name)) <;> cases inB b.off.lo (-720) 720 <;> cases inB b.off.hi (-720) 720 <;> cases inB b.set.lo (-720) 720 <;> cases inB b.set.hi (-720) 720 <;> simp
 by_cases h1 : b.off.hi < b.off.lo <;> by_cases h2 : b.set.hi < b.set.lo <;> simp [h1, h2]
set_option maxHeartbeats 2000000 in
theorem pa18 (l : PLog) : FnV Tryz.prog 18 [l.d] (triP (checkP l)) := by
 refine fnV_of mixed tysOk Tryz.func18 rfl (ft := ft18) 1 (by decide +kernel) (by rfl) fun {σ} Y st => ?_
 conv=>whnf
 unfold checkP
 refine CallA_v (ds := [i64 l.near, i64 0, i64 60]) (fn55 l.near 0 60) rfl rfl ?_
 unfold outB
 cases h0 : inB l.near 0 60 with
 | false =>
  conv=>whnf
  exact RetA_view 0 rfl ⟨⟨rfl, rfl⟩, rfl⟩
 | true =>
  conv=>whnf
  rw [List.length_map]
  refine CallA_v (ds := [i64 l.books.length, i64 1, i64 3]) (fn55 l.books.length 1 3) rfl rfl ?_
  cases h1 : inB l.books.length 1 3 with
  | false =>
   conv=>whnf
   exact RetA_view 0 rfl ⟨⟨rfl, rfl⟩, rfl⟩
  | true =>
   have hlen : l.books.length ≤ 3 := by
    have h1 := h1
    unfold inB at h1
    simp at h1; omega
   simp only [Bool.not_true, if_false, Bool.false_eq_true]
   conv=>whnf
   generalize hK : booksE [] l.books 0 = K
   refine LoopA_i (T := tys) tysOk (by exact drawsB_spec mixed tysOk (by decide +kernel)) l.books (fun i (_ : Unit) => ⟨[(1, .ptr 1 0), (5, .sl 40 1 0 i), (6, .d (i64 i))], [(1, .box (.dd l.cells)), (40, .arr 1 (.dd ((namesP (l.books.take i)).map fun s => [.str s])))], st⟩)
    (fun i r _ => booksE (l.books.take i) r i = K) () ((Wk.born 5 40 1 rfl rfl rfl).trans (Wk.sub (by repeat' first|exact trivial|refine⟨?_,?_⟩|rfl|(simp only[List.length_map];rfl)|simp[PX.get]) (by repeat' first|exact trivial|refine⟨?_,?_⟩|rfl|(simp only[List.length_map];rfl)|simp[PX.get]))) hK ?_ ?_
   ·rintro i b r _ hx hi hr he
    rw [booksE, headE_eq] at he
    have htk : l.books.take (i + 1) = l.books.take i ++ [b] := by rw [List.take_succ, hx]; rfl
    have hnl : (namesP (l.books.take i)).length = i := by unfold namesP; simp; omega
    conv=>whnf
    refine brk_i (fun _ => ?_) (fun h => absurd hi (by have := of_decide_eq_false h; simp at this; omega))
    conv=>whnf
    refine elemK_nat hx ?_
    conv=>whnf
    refine CallA_view (ds := [.str b.name, strsD (namesP (l.books.take i))]) (fn91 b.name (namesP (l.books.take i)) (by omega)) rfl 1 (viewL_cons rfl (viewL_cons (viewV_sl rfl (by simp [hnl])) rfl)) ?_
    conv=>whnf
    refine ownK_whole rfl ?_
    conv=>whnf
    refine ownK_whole (by simp [Els.len, hnl]) ?_
    conv=>whnf
    refine chk_i (decide_eq_true (by
     show (((namesP (l.books.take i)).map fun s => [D.str s]).length + 1) * 16 ≤ 140737488355328
     rw [List.length_map]; omega)) ?_
    conv=>whnf
    generalize freshF b.name (namesP (l.books.take i)) = F at he ⊢
    have hnext : (namesP (l.books.take i)).map (fun s => [D.str s]) ++ [[.str b.name]] = (namesP (l.books.take (i + 1))).map fun s => [.str s] := by
     rw [htk]; simp [namesP]
    have hnl1 : ((namesP (l.books.take i)).map fun s => [D.str s]).length + 1 = i + 1 := by rw [List.length_map, hnl]
    refine brk_i (fun h2 => ?_) (fun h2 => ?_)
    ·have h2 : F = 0 := of_decide_eq_true h2
     subst h2
     simp only [if_true] at he
     conv=>whnf
     refine CallA_view (ds := [spansD [b.off, b.set], i64 (-720), i64 720]) (fn111 [b.off, b.set] (-720) 720 (by simp)) rfl 1 (viewL_cons (viewV_sl rfl rfl) rfl) ?_
     generalize spread (-720) 720 [b.off, b.set] 0 = S at he ⊢
     conv=>whnf
     refine brk_i (fun h3 => ?_) (fun h3 => ?_)
     ·have h3 : S = 0 := by simpa using h3
      subst h3
      simp only [if_true] at he
      conv=>whnf
      refine brk_i (fun h8 => ?_) (fun h8 => ?_)
      ·have h8 : b.ents.length > 8 := by have := of_decide_eq_true h8; simp at this; omega
       rw [if_pos h8, if_neg (by decide)] at he
       conv=>whnf
       refine arith_in (wrap_i64 (by (try dsimp only); omega)) ?_
       conv=>whnf
       rw [← he]
       exact RetA_view 0 rfl ⟨⟨rfl, rfl⟩, rfl⟩
      ·have h8 : ¬ b.ents.length > 8 := by have := of_decide_eq_false h8; simp at this; omega
       rw [if_neg h8, if_pos rfl] at he
       conv=>whnf
       generalize hE : entsE b.ents 0 = E at he
       refine LoopA_i (T := tys) tysOk (by exact drawsB_spec mixed tysOk (by decide +kernel)) b.ents (fun k (_ : Unit) => ⟨[(1, .ptr 1 0), (5, .sl 40 1 0 (i + 1)), (6, .d (i64 i)), (7, .ptr 7 0), (9, .d (i64 k))], [(1, .box (.dd l.cells)), (40, .arr 1 (.dd ((namesP (l.books.take (i + 1))).map fun s => [.str s]))), (7, .box (.dd b.cells))], st⟩)
        (fun k r _ => entsE r k = E) () (Wk.sub ⟨rfl, (by
         show some (V.sl 40 1 0 (((namesP (l.books.take i)).map fun s => [D.str s]).length + 1)) = _
         rw [hnl1]), rfl, rfl, rfl, trivial⟩ ⟨rfl, (by
         show some (Obj.arr 1 (Els.dd ((namesP (l.books.take i)).map (fun s => [D.str s]) ++ [[.str b.name]]))) = _
         rw [hnext]), rfl, trivial⟩) hE ?_ ?_
       ·rintro k y r2 _ hy hk hr2 he2
        rw [entsE] at he2
        conv=>whnf
        refine brk_i (fun _ => ?_) (fun h => absurd hk (by have := of_decide_eq_false h; simp at this; omega))
        conv=>whnf
        refine elemK_nat hy ?_
        conv=>whnf
        refine CallA_v (pa67 y) rfl rfl ?_
        conv=>whnf
        refine brk_i (fun h4 => ?_) (fun h4 => ?_)
        ·have h4 : ¬ entE y = 0 := by simpa using h4
         rw [if_neg h4] at he2
         subst he2
         rw [if_neg h4] at he
         conv=>whnf
         refine arith_in (wrap_i64 (by (try dsimp only); omega)) ?_
         conv=>whnf
         rw [← he]
         exact RetA_view 0 rfl ⟨⟨rfl, rfl⟩, rfl⟩
        ·have h4 : entE y = 0 := by simpa using h4
         rw [if_pos h4] at he2
         conv=>whnf
         refine arith_in (wrap_i64 (by (try dsimp only); omega)) ?_
         conv=>whnf
         exact ⟨(), he2, (Wk.sub (by repeat' first|exact trivial|refine⟨?_,?_⟩|rfl|(simp only[List.length_map];rfl)|simp[PX.get]) (by repeat' first|exact trivial|refine⟨?_,?_⟩|rfl|(simp only[List.length_map];rfl)|simp[PX.get]))⟩
       ·rintro _ he2
        have he2 : ((0, 0) : Int × Int) = E := he2
        subst he2
        rw [if_pos rfl, ← htk] at he
        conv=>whnf
        refine brk_i (fun h => absurd h (by simp)) (fun _ => ?_)
        conv=>whnf
        refine arith_in (wrap_i64 (by (try dsimp only); omega)) ?_
        conv=>whnf
        exact ⟨(), he, (Wk.sub (by repeat' first|exact trivial|refine⟨?_,?_⟩|rfl|(simp only[List.length_map];rfl)|simp[PX.get]) (by repeat' first|exact trivial|refine⟨?_,?_⟩|rfl|(simp only[List.length_map];rfl)|simp[PX.get]))⟩
     ·have h3 : ¬ S = 0 := by simpa using h3
      conv=>whnf
      refine brk_i (fun _ => ?_) (fun h => absurd h (by simp [h3]))
      rw [if_neg h3, if_neg h3] at he
      conv=>whnf
      refine arith_in (wrap_i64 (by (try dsimp only); omega)) ?_
      conv=>whnf
      rw [← he]
      exact RetA_view 0 rfl ⟨⟨rfl, rfl⟩, rfl⟩
    ·have h2 : ¬ F = 0 := of_decide_eq_false h2
     conv=>whnf
     refine brk_i (fun h => absurd (of_decide_eq_true h) h2) (fun _ => ?_)
     conv=>whnf
     refine brk_i (fun _ => ?_) (fun h => absurd h (by simp [h2]))
     rw [if_neg h2, if_neg h2] at he
     conv=>whnf
     refine arith_in (wrap_i64 (by (try dsimp only); omega)) ?_
     conv=>whnf
     rw [← he]
     exact RetA_view 0 rfl ⟨⟨rfl, rfl⟩, rfl⟩
   ·rintro _ he
    rw [booksE] at he
    subst he
    conv=>whnf
    refine brk_i (fun h => absurd h (by simp)) (fun _ => ?_)
    conv=>whnf
    exact RetA_view 0 rfl ⟨⟨rfl, rfl⟩, rfl⟩
end Go.PX
namespace Go.PX
open Go.Proofs
open Go.RowKit
theorem pa47 (l : PLog) : FnV Tryz.prog 47 [l.d] (.bool (decide (checkN l = 0))) := by
 obtain ⟨cp, cq, ce, hcp⟩ : ∃ p q e, checkP l = (p, q, e) := ⟨_, _, _, rfl⟩
 have hce : checkN l = ce := by show (checkP _).2.2 = ce; rw [hcp]
 have h18 : FnV Tryz.prog 18 [l.d] (.tup [i64 cp, i64 cq, i64 ce]) := FnV.cast (pa18 l) (by rw [hcp]; rfl)
 show FnV Tryz.prog 47 [l.d] _
 refine fnV_of mixed tysOk Tryz.func47 rfl (ft := ft47) 1 (by decide +kernel) (by rfl) fun {σ} Y st => ?_
 conv=>whnf
 refine CallA_v (ds := [l.d]) h18 rfl rfl ?_
 conv=>whnf
 rw [hce]
 exact RetA_view 0 rfl ⟨⟨rfl, rfl⟩, rfl⟩
end Go.PX
namespace Go.PX
open Go.Proofs
open Go.RowKit
end Go.PX
namespace Go.PX
open Go.Proofs
open Go.RowKit
theorem tmodP {x : Int} {n : Nat} (h : 0 ≤ x) : x.tmod n = ((x.toNat % n : Nat) : Int) := by
 obtain ⟨k, rfl⟩ := Int.eq_ofNat_of_zero_le h
 rfl
end Go.PX
namespace Go.PX
open Go.Proofs
open Go.RowKit
theorem pa105 (b : PBook) (k : Nat) (hk : k ≤ b.ents.length) (hb : b.ents.length ≤ 1000) : FnV Tryz.prog 105 [.agg b.cells, i64 k] (i64 (setsN (b.ents.take k))) := by
 refine fnV_of mixed tysOk Tryz.func105 rfl (ft := ft105) 2 (by decide +kernel) (by rfl) fun {σ} Y st => ?_
 conv=>whnf
 refine LoopA_p (T := tys) tysOk (by exact drawsB_spec mixed tysOk (by decide +kernel)) (α := Nat) (fun i => ⟨[(1, .d (i64 k)), (2, .ptr 2 0), (5, .d (i64 (setsN (b.ents.take i)))), (6, .d (i64 i))], [(2, .box (.dd b.cells))], st⟩) (fun i => i ≤ k) (fun i => k - i) 0 (Wk.sub (by repeat' first|exact trivial|refine⟨?_,?_⟩|rfl|(simp only[List.length_map];rfl)|simp[PX.get]) ⟨(by first | rfl | (simp only [List.length_map]; rfl) | simp [PX.get]), trivial⟩) (by simp) ?_
 rintro i hi
 conv=>whnf
 refine brk_i (fun h => ?_) (fun h => ?_)
 ·have hik : i < k := by have := of_decide_eq_true h; omega
  have hx : b.ents[i]? = some b.ents[i] := List.getElem?_eq_getElem (by omega)
  have htk : setsN (b.ents.take (i + 1)) = setsN (b.ents.take i) + setsN [b.ents[i]] := by
   rw [← setsN_app, List.take_succ, hx]; rfl
  have hs1 : setsN (b.ents.take i) ≤ 1000 := by
   have : setsN (b.ents.take i) ≤ (b.ents.take i).length := by unfold setsN; exact List.length_filter_le _ _
   simp at this; omega
  generalize b.ents[i] = y at *
  conv=>whnf
  refine brk_i (fun _ => ?_) (fun h2 => absurd (of_decide_eq_false h2) (by simp; omega))
  conv=>whnf
  refine elemK_nat hx ?_
  conv=>whnf
  refine brk_i (fun h3 => ?_) (fun h3 => ?_)
  ·have h3 : y.kind = 2 := of_decide_eq_true h3
   have h4 : setsN [y] = 1 := by simp [setsN, h3]
   conv=>whnf
   refine arith_to (((setsN (b.ents.take i) + 1 : Nat) : Int)) (by (try dsimp only); omega) (wrap_i64 (by (try dsimp only); omega)) ?_
   conv=>whnf
   refine arith_in (wrap_i64 (by (try dsimp only); omega)) ?_
   conv=>whnf
   exact ⟨i + 1, by omega, hik, Wk.sub ⟨rfl, rfl, by rw [htk, h4]; rfl, rfl, trivial⟩ ⟨rfl, trivial⟩⟩
  ·have h3 : ¬ y.kind = 2 := of_decide_eq_false h3
   have h4 : setsN [y] = 0 := by simp [setsN, h3]
   conv=>whnf
   refine arith_in (wrap_i64 (by (try dsimp only); omega)) ?_
   conv=>whnf
   exact ⟨i + 1, by omega, hik, Wk.sub ⟨rfl, rfl, by rw [htk, h4]; rfl, rfl, trivial⟩ ⟨rfl, trivial⟩⟩
 ·have hik : i = k := by have := of_decide_eq_false h; omega
  subst hik
  conv=>whnf
  exact RetA_view 0 rfl ⟨⟨rfl, rfl⟩, rfl⟩
theorem pa51 (b : PBook) (hb : b.ents.length ≤ 1000) : FnV Tryz.prog 51 [.agg b.cells] (i64 (setsN b.ents + 1 : Nat)) := by
 have h105 : FnV Tryz.prog 105 [.agg b.cells, i64 b.ents.length] (i64 (setsN b.ents)) := FnV.cast (pa105 b b.ents.length (Nat.le_refl _) hb) (by rw [List.take_length])
 have hs1 : setsN b.ents ≤ 1000 := by
  have : setsN b.ents ≤ b.ents.length := by unfold setsN; exact List.length_filter_le _ _
  omega
 show FnV Tryz.prog 51 [.agg b.cells] _
 refine fnV_of mixed tysOk Tryz.func51 rfl (ft := ft51) 1 (by decide +kernel) (by rfl) fun {σ} Y st => ?_
 conv=>whnf
 refine CallA_v (ds := [.agg b.cells, i64 b.ents.length]) h105 (by
  show [_, _] = _
  simp [List.length_map]; rfl) rfl ?_
 conv=>whnf
 refine arith_to (((setsN b.ents + 1 : Nat) : Int)) (by (try dsimp only); omega) (wrap_i64 (by (try dsimp only); omega)) ?_
 conv=>whnf
 exact RetA_view 0 rfl ⟨⟨rfl, rfl⟩, rfl⟩
theorem viewLgen {h : Heap} {k n i : Nat} {x : D} {es es' : List (List D)} (h1 : get h i = some (.arr 6 (.dd es))) (he : es = es') (hn : n = es'.length) : viewL (objD h (k + 1)) [.agg [.d x, .sl i 6 0 n]] = some [.agg [x, .vs es']] := by
 have e : viewV (objD h (k + 1)) (.sl i 6 0 n) = some (.vs es') := viewV_sl' h1 he hn
 have : viewL (objD h (k + 1)) [.d x, .sl i 6 0 n] = some [x, .vs es'] := viewL_cons rfl (viewL_cons e rfl)
 refine viewL_cons ?_ rfl
 rw [viewV, this]
theorem pa52 (l : PLog) (b : Nat) (s : Span) (hb : b < l.books.length) (hl : l.books.length ≤ 1000) : FnV Tryz.prog 52 [l.d, i64 b, s.d] (cutOff l b s).d := by
 have hx : l.books[b]? = some l.books[b] := List.getElem?_eq_getElem hb
 have hbk : bookAt l b = l.books[b] := by unfold bookAt; rw [Int.toNat_natCast, hx]; rfl
 have e : (cutOff l b s).d = .agg [i64 l.near, .vs ((l.books.map PBook.cells).set b ({ l.books[b] with off := s } : PBook).cells)] := by
  unfold cutOff
  rw [hbk]
  show D.agg [i64 l.near, .vs ((l.books.set b _).map PBook.cells)] = _
  rw [List.map_set]
 rw [e]
 generalize l.books[b] = c at hx
 show FnV Tryz.prog 52 [l.d, i64 b, s.d] _
 refine fnV_of mixed tysOk Tryz.func52 rfl (ft := ft52) 3 (by decide +kernel) (by rfl) fun {σ} Y st => ?_
 conv=>whnf
 refine ownK_whole rfl ?_
 conv=>whnf
 refine chk_i (by show (lenAllD 6 (l.books.map PBook.cells) && true) = true; rw [lenAllD_map (fun x => ⟨rfl, rfl⟩)]; rfl) ?_
 conv=>whnf
 refine chk_i (decide_eq_true (by show (0 + (l.books.map PBook.cells).length) * 72 ≤ 140737488355328; rw [List.length_map]; omega)) ?_
 conv=>whnf
 refine chk_i (by simp [Els.len]; omega) ?_
 conv=>whnf
 refine cellK_i c.cells (by simp [hx]) ?_
 conv=>whnf
 exact RetA_view 1 (viewLgen (es' := (l.books.map PBook.cells).set b ({ c with off := s } : PBook).cells) rfl (by
  show List.set ([] ++ l.books.map PBook.cells) (0 + (b : Int).toNat) _ = _
  rw [Nat.zero_add, Int.toNat_natCast]; rfl) (by simp [Els.len])) ⟨⟨rfl, rfl⟩, rfl⟩
theorem pa49 (n : Int) (s : Span) : FnV Tryz.prog 49 [i64 n, s.d] (.bool (decide (s.lo ≤ n) && decide (n ≤ s.hi))) := by
 refine fnV_of mixed tysOk Tryz.func49 rfl (ft := ft49) 2 (by decide +kernel) (by rfl) fun {σ} Y st => ?_
 conv=>whnf
 refine brk_i (fun h => ?_) (fun h => ?_)
 ·rw [h]
  conv=>whnf
  exact RetA_view 0 rfl ⟨⟨rfl, rfl⟩, rfl⟩
 ·rw [h]
  conv=>whnf
  exact RetA_view 0 rfl ⟨⟨rfl, rfl⟩, rfl⟩
theorem pa53 (s : Span) (n : Int) (h : s.lo ≤ s.hi) (h1 : -10000 ≤ s.lo) (h2 : s.hi ≤ 10000) (hn : 0 ≤ n ∧ n ≤ 65535) : FnV Tryz.prog 53 [s.d, i64 n] (i64 (amongF s n)) := by
 have hin := amongF_in h n
 have hm := Int.emod_nonneg n (show s.hi - s.lo + 1 ≠ 0 by omega)
 have hm2 := Int.emod_lt_of_pos n (show 0 < s.hi - s.lo + 1 by omega)
 show FnV Tryz.prog 53 [s.d, i64 n] _
 refine fnV_of mixed tysOk Tryz.func53 rfl (ft := ft53) 2 (by decide +kernel) (by rfl) fun {σ} Y st => ?_
 conv=>whnf
 refine arith_to (s.hi - s.lo) (by rfl) (wrap_i64 (by omega)) ?_
 conv=>whnf
 refine arith_to (s.hi - s.lo + 1) (by rfl) (wrap_i64 (by omega)) ?_
 conv=>whnf
 refine chk_i (decide_eq_true (by omega)) ?_
 conv=>whnf
 rw [Int.tmod_eq_emod_of_nonneg hn.1]
 refine arith_to (amongF s n) (by rfl) (wrap_i64 (by omega)) ?_
 conv=>whnf
 exact RetA_view 0 rfl ⟨⟨rfl, rfl⟩, rfl⟩
end Go.PX
namespace Go.PX
open Go.Proofs
open Go.RowKit
theorem fits_ok {l : PLog} (h : checkN l = 0) : FnV Tryz.prog 19 [l.d] (.tup [.bool (fitP l 0 []), i64 0]) := FnV.cast (pa19 l) (by unfold fitsP; rw [if_pos h])
set_option maxHeartbeats 4000000 in
theorem pa9 (l : PLog) (p n : Int) (hp : 0 ≤ p ∧ p ≤ 255) (hn : 0 ≤ n ∧ n ≤ 65535) : FnV Tryz.prog 9 [l.d, .int .u8 p, .int .u16 n] (.bool true) := by
 refine fnV_of mixed tysOk Tryz.func9 rfl (ft := ft9) 3 (by decide +kernel) (by rfl) fun {σ} Y st => ?_
 conv=>whnf
 refine CallA_v (ds := [l.d]) (pa47 l) rfl rfl ?_
 by_cases hc : checkN l = 0
 case neg =>
  rw [decide_eq_false hc]
  conv=>whnf
  refine CallA_v (pa26) rfl rfl ?_
  conv=>whnf
  exact RetA_view 0 rfl ⟨⟨rfl, rfl⟩, rfl⟩
 rw [decide_eq_true hc]
 have hR := check_ok hc
 have hlen := hR.books
 have hi := Nat.mod_lt p.toNat (show 0 < l.books.length by omega)
 obtain ⟨i, hpi⟩ : ∃ i, i = p.toNat % l.books.length := ⟨_, rfl⟩
 rw [← hpi] at hi
 obtain ⟨b, hb⟩ : ∃ b, l.books[i]? = some b := ⟨l.books[i], List.getElem?_eq_getElem hi⟩
 have hbR := hR.book b (List.mem_of_getElem? hb)
 have hel := hbR.ents
 have hbk : bookAt l i = b := by unfold bookAt; rw [Int.toNat_natCast, hb]; rfl
 have hoff : offsF l i = if fitP l 0 [] then (offsL l i, 0) else ([], 9) := by
  unfold offsF
  rw [if_pos hc, if_neg (by unfold outB inB; simp; omega)]
 have h21 : FnV Tryz.prog 21 [l.d, i64 i] (.tup [spansD (offsF l i).1, i64 (offsF l i).2]) := pa21 l i
 have h19 := fun {σ} => @fits_ok l hc σ
 rw [hoff] at h21
 conv=>whnf
 refine arith_to p (by rfl) (wrap_i64 (by omega)) ?_
 conv=>whnf
 refine chk_i (decide_eq_true (by simp only [List.length_map]; omega)) ?_
 conv=>whnf
 rw [List.length_map, tmodP hp.1, ← hpi]
 cases hf : fitP l 0 [] with
 | false =>
  rw [hf] at h21 h19
  simp only [Bool.false_eq_true, if_false] at h21
  conv=>whnf
  refine CallA_v (ds := [l.d, i64 i]) h21 rfl rfl ?_
  conv=>whnf
  refine CallA_v (ds := [l.d]) h19 rfl rfl ?_
  conv=>whnf
  refine CallA_v (pa26) rfl rfl ?_
  conv=>whnf
  exact RetA_view 0 rfl ⟨⟨rfl, rfl⟩, rfl⟩
 | true =>
  rw [hf] at h21
  simp only [if_true] at h21
  have hrc := reached hf hb
  simp only at hrc
  have hol : (offsL l i).length = setsN b.ents + 1 := by unfold offsL; rw [List.length_map, List.length_range, hbk]
  have hol2 : setsN b.ents = 0 → offsL l i = [aheadF (lookF l 0 []) ⟨i, (0 : Nat)⟩ .right] := fun h => by
   unfold offsL; rw [hbk, h]; rfl
  generalize aheadF (lookF l 0 []) ⟨i, (0 : Nat)⟩ .right = S at hrc hol2
  obtain ⟨lo, hi2⟩ := S
  obtain ⟨h1, h2, h3, h4⟩ := hrc
  simp only at h1 h2 h3 h4
  have hbo := hbR.off
  generalize offsL l i = O at h21 hol hol2
  conv=>whnf
  refine CallA_v (ds := [l.d, i64 i]) h21 rfl rfl ?_
  conv=>whnf
  refine elemK_nat hb ?_
  conv=>whnf
  refine CallA_v (ds := [.agg b.cells]) (pa51 b (by omega)) rfl rfl ?_
  conv=>whnf
  refine brk_i (fun h => absurd h (by simp [hol])) (fun _ => ?_)
  conv=>whnf
  refine brk_i (fun h => ?_) (fun h => ?_)
  ·conv=>whnf
   refine CallA_v (pa26) rfl rfl ?_
   conv=>whnf
   exact RetA_view 0 rfl ⟨⟨rfl, rfl⟩, rfl⟩
  ·have hs0 : setsN b.ents = 0 := by
    have := of_decide_eq_false h
    simp [hol] at this; omega
   have hO := hol2 hs0
   subst hO
   conv=>whnf
   refine elemK_nat hb ?_
   conv=>whnf
   refine brk_i (fun h => absurd (of_decide_eq_true h) (by dsimp only; omega)) (fun _ => ?_)
   conv=>whnf
   refine brk_i (fun h => absurd (of_decide_eq_true h) (by dsimp only; omega)) (fun _ => ?_)
   conv=>whnf
   refine brk_i (fun h => absurd (of_decide_eq_true h) (by dsimp only; omega)) (fun _ => ?_)
   conv=>whnf
   have hA : FnV Tryz.prog 19 [(cutOff l i ⟨lo, lo⟩).d] (.tup [.bool true, i64 0]) := FnV.cast (fits_ok (cut_check hc hb (k := lo) (by omega) (by omega))) (by rw [h4 lo (by omega) (by omega), decide_eq_true (show lo ≤ lo by omega), decide_eq_true h3]; rfl)
   have hB : FnV Tryz.prog 19 [(cutOff l i ⟨hi2, hi2⟩).d] (.tup [.bool true, i64 0]) := FnV.cast (fits_ok (cut_check hc hb (k := hi2) (by omega) (by omega))) (by rw [h4 hi2 (by omega) (by omega), decide_eq_true h3, decide_eq_true (show hi2 ≤ hi2 by omega)]; rfl)
   have hK := amongF_in hbo.2.1 n
   have h53 : FnV Tryz.prog 53 [b.off.d, i64 n] (i64 (amongF b.off n)) := pa53 b.off n hbo.2.1 (by omega) (by omega) hn
   generalize amongF b.off n = K at hK h53
   have hC : FnV Tryz.prog 19 [(cutOff l i ⟨K, K⟩).d] (.tup [.bool (decide (lo ≤ K) && decide (K ≤ hi2)), i64 0]) := FnV.cast (fits_ok (cut_check hc hb (k := K) (by omega) (by omega))) (by rw [h4 K (by omega) (by omega)])
   have hD : FnV Tryz.prog 49 [i64 K, Span.d ⟨lo, hi2⟩] (.bool (decide (lo ≤ K) && decide (K ≤ hi2))) := pa49 K ⟨lo, hi2⟩
   generalize (decide (lo ≤ K) && decide (K ≤ hi2)) = B at hC hD
   cases B
   all_goals
    refine DrawCall_v (pa46 lo lo) rfl rfl ?_
    conv=>whnf
    refine DrawCall_v (ds := [l.d, i64 i, Span.d ⟨lo, lo⟩]) (pa52 l i ⟨lo, lo⟩ hi (by omega)) rfl rfl ?_
    conv=>whnf
    refine DrawCall_v (ds := [(cutOff l i ⟨lo, lo⟩).d]) hA rfl rfl ?_
    conv=>whnf
    refine DrawCall_v (pa46 hi2 hi2) rfl rfl ?_
    conv=>whnf
    refine DrawCall_v (ds := [l.d, i64 i, Span.d ⟨hi2, hi2⟩]) (pa52 l i ⟨hi2, hi2⟩ hi (by omega)) rfl rfl ?_
    conv=>whnf
    refine DrawCall_v (ds := [(cutOff l i ⟨hi2, hi2⟩).d]) hB rfl rfl ?_
    conv=>whnf
    refine arith_to n (by rfl) (wrap_i64 (by omega)) ?_
    conv=>whnf
    refine CallA_v (ds := [b.off.d, i64 n]) h53 rfl rfl ?_
    conv=>whnf
    refine DrawCall_v (pa46 K K) rfl rfl ?_
    conv=>whnf
    refine DrawCall_v (ds := [l.d, i64 i, Span.d ⟨K, K⟩]) (pa52 l i ⟨K, K⟩ hi (by omega)) rfl rfl ?_
    conv=>whnf
    refine DrawCall_v (ds := [(cutOff l i ⟨K, K⟩).d]) hC rfl rfl ?_
    conv=>whnf
    refine CallA_v (ds := [i64 K, Span.d ⟨lo, hi2⟩]) hD rfl rfl ?_
    conv=>whnf
    refine CallA_v (pa26) rfl rfl ?_
    conv=>whnf
    exact RetA_view 0 rfl ⟨⟨rfl, rfl⟩, rfl⟩
end Go.PX
