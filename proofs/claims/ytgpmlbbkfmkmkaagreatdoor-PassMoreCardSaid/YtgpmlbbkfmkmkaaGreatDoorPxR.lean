import Derived.Test.YtgpmlbbkfmkmkaaGreatDoorPxQ
set_option linter.all false
set_option maxRecDepth 10000
namespace Go.PX
open Go.Proofs
open Go.RowKit
theorem pa67 (x : PEnt) : FnV Tryz.prog 67 [x.d] (i64 (entE x)) := by
 obtain ⟨sh, kd, wd, nm⟩ := x
 refine fnV_of mixed tysOk Tryz.func67 rfl (ft := ft67) 1 (by decide +kernel) (by rfl) fun {σ} Y st => ?_
 conv=>whnf
 refine CallA_v (ds := [i64 sh, i64 0, i64 20000]) (fn55 sh 0 20000) rfl rfl ?_
 unfold entE outB
 cases h0 : inB sh 0 20000 with
 | false =>
  conv=>whnf
  exact RetA_view 0 rfl ⟨⟨rfl, rfl⟩, rfl⟩
 | true =>
 conv=>whnf
 refine CallA_v (ds := [i64 kd, i64 1, i64 3]) (fn55 kd 1 3) rfl rfl ?_
 cases h1 : inB kd 1 3 with
 | false =>
  have hk : ¬ (kd = 1) ∧ ¬ (kd = 2) ∧ ¬ (kd = 3) := by
   refine ⟨?_, ?_, ?_⟩ <;> rintro rfl <;> simp [inB] at h1
  conv=>whnf
  simp only [Bool.not_true, Bool.false_eq_true, if_false, if_neg hk.1, if_neg hk.2.1, if_neg hk.2.2]
  exact RetA_view 0 rfl ⟨⟨rfl, rfl⟩, rfl⟩
 | true =>
 have hk : kd = 1 ∨ kd = 2 ∨ kd = 3 := by
  unfold inB at h1
  simp at h1; omega
 simp only [Bool.not_true, Bool.false_eq_true, if_false]
 conv=>whnf
 rcases hk with rfl | rfl | rfl
 ·refine brk_i (fun hA => ?_) (fun hA => ?_)
  ·conv=>whnf
   refine CallA_v (ds := [.str wd]) (fn112 wd) rfl rfl ?_
   cases hn : nameF wd with
   | false =>
    conv=>whnf
    exact RetA_view 0 rfl ⟨⟨rfl, rfl⟩, rfl⟩
   | true =>
    conv=>whnf
    refine brk_i (fun hB => ?_) (fun hB => ?_)
    ·have hB : ¬ nm = 0 := by simpa using hB
     conv=>whnf
     rw [decide_eq_false hB]
     exact RetA_view 0 rfl ⟨⟨rfl, rfl⟩, rfl⟩
    ·have hB : nm = 0 := by simpa using hB
     conv=>whnf
     rw [decide_eq_true hB]
     exact RetA_view 0 rfl ⟨⟨rfl, rfl⟩, rfl⟩
  ·conv=>whnf
   refine CallA_v (ds := [.str wd]) (fn112 wd) rfl rfl ?_
   cases hn : nameF wd with
   | false =>
    conv=>whnf
    exact RetA_view 0 rfl ⟨⟨rfl, rfl⟩, rfl⟩
   | true =>
    conv=>whnf
    refine brk_i (fun hB => ?_) (fun hB => ?_)
    ·have hB : ¬ nm = 0 := by simpa using hB
     conv=>whnf
     rw [decide_eq_false hB]
     exact RetA_view 0 rfl ⟨⟨rfl, rfl⟩, rfl⟩
    ·have hB : nm = 0 := by simpa using hB
     conv=>whnf
     rw [decide_eq_true hB]
     exact RetA_view 0 rfl ⟨⟨rfl, rfl⟩, rfl⟩
 ·have hw1 : decide (wd = .empty) = decide (wd = (⟨#[]⟩ : ByteArray)) := rfl
  simp only [if_neg (show ¬ (2 : Int) = 1 by decide), if_pos, hw1]
  refine brk_i (fun hA => ?_) (fun hA => ?_)
  ·rw [hA]
   conv=>whnf
   refine brk_i (fun hB => ?_) (fun hB => ?_)
   ·have hB : ¬ nm = 0 := by simpa using hB
    conv=>whnf
    rw [decide_eq_false hB]
    exact RetA_view 0 rfl ⟨⟨rfl, rfl⟩, rfl⟩
   ·have hB : nm = 0 := by simpa using hB
    conv=>whnf
    rw [decide_eq_true hB]
    exact RetA_view 0 rfl ⟨⟨rfl, rfl⟩, rfl⟩
  ·rw [hA]
   conv=>whnf
   exact RetA_view 0 rfl ⟨⟨rfl, rfl⟩, rfl⟩
 ·simp only [if_neg (show ¬ (3 : Int) = 1 by decide), if_neg (show ¬ (3 : Int) = 2 by decide), if_pos, Bool.not_not]
  refine brk_i (fun hA => ?_) (fun hA => ?_)
  ·conv=>whnf
   refine CallA_v (ds := [.str wd]) (fn112 wd) rfl rfl ?_
   cases hn : nameF wd with
   | false =>
    conv=>whnf
    exact RetA_view 0 rfl ⟨⟨rfl, rfl⟩, rfl⟩
   | true =>
    conv=>whnf
    refine CallA_v (ds := [i64 nm, i64 1, i64 99]) (fn55 nm 1 99) rfl rfl ?_
    cases h4 : inB nm 1 99 with
    | false =>
     conv=>whnf
     exact RetA_view 0 rfl ⟨⟨rfl, rfl⟩, rfl⟩
    | true =>
     conv=>whnf
     exact RetA_view 0 rfl ⟨⟨rfl, rfl⟩, rfl⟩
  ·conv=>whnf
   refine CallA_v (ds := [.str wd]) (fn112 wd) rfl rfl ?_
   cases hn : nameF wd with
   | false =>
    conv=>whnf
    exact RetA_view 0 rfl ⟨⟨rfl, rfl⟩, rfl⟩
   | true =>
    conv=>whnf
    refine CallA_v (ds := [i64 nm, i64 1, i64 99]) (fn55 nm 1 99) rfl rfl ?_
    cases h4 : inB nm 1 99 with
    | false =>
     conv=>whnf
     exact RetA_view 0 rfl ⟨⟨rfl, rfl⟩, rfl⟩
    | true =>
     conv=>whnf
     exact RetA_view 0 rfl ⟨⟨rfl, rfl⟩, rfl⟩
def namesP (l : List PBook) : List ByteArray := l.map (·.name)
theorem headE_eq (pre : List PBook) (b : PBook) : headE pre b = if freshF b.name (namesP pre) = 0 then (if spread (-720) 720 [b.off, b.set] 0 = 0 then (if b.ents.length > 8 then 3 else 0) else spread (-720) 720 [b.off, b.set] 0) else freshF b.name (namesP pre) := by
 have h : ((namesP pre).any fun y => decide (y = b.name)) = pre.any fun y => decide (y.name = b.name) := by
  unfold namesP; rw [List.any_map]; rfl
 unfold headE freshF spread spread spread outB
 rw [h]
 cases nameF b.name <;> cases (pre.any fun y => decide (y.name = b.name)) <;> cases inB b.off.lo (-720) 720 <;> cases inB b.off.hi (-720) 720 <;> cases inB b.set.lo (-720) 720 <;> cases inB b.set.hi (-720) 720 <;> simp
 by_cases h1 : b.off.hi < b.off.lo <;> by_cases h2 : b.set.hi < b.set.lo <;> simp [h1, h2]
set_option maxHeartbeats 2000000 in
theorem pa18 (l : PLog) : FnV Tryz.prog 18 [l.d] (triP (checkP l)) := by
 refine fnV_of mixed tysOk Tryz.func18 rfl (ft := ft18) 1 (by decide +kernel) (by rfl) fun {σ} Y st => ?_
 conv=>whnf
 unfold checkP
 refine CallA_v (ds := [i64 l.near, i64 0, i64 60]) (fn55 l.near 0 60) rfl rfl ?_
 unfold outB
 cases h0 : inB l.near 0 60 with
 | false =>
  conv=>whnf
  exact RetA_view 0 rfl ⟨⟨rfl, rfl⟩, rfl⟩
 | true =>
  conv=>whnf
  rw [List.length_map]
  refine CallA_v (ds := [i64 l.books.length, i64 1, i64 3]) (fn55 l.books.length 1 3) rfl rfl ?_
  cases h1 : inB l.books.length 1 3 with
  | false =>
   conv=>whnf
   exact RetA_view 0 rfl ⟨⟨rfl, rfl⟩, rfl⟩
  | true =>
   have hlen : l.books.length ≤ 3 := by
    have h1 := h1
    unfold inB at h1
    simp at h1; omega
   simp only [Bool.not_true, if_false, Bool.false_eq_true]
   conv=>whnf
   generalize hK : booksE [] l.books 0 = K
   refine LoopA_i (T := tys) tysOk (by exact drawsB_spec mixed tysOk (by decide +kernel)) l.books (fun i (_ : Unit) => ⟨[(1, .ptr 1 0), (5, .sl 40 1 0 i), (6, .d (i64 i))], [(1, .box (.dd l.cells)), (40, .arr 1 (.dd ((namesP (l.books.take i)).map fun s => [.str s])))], st⟩)
    (fun i r _ => booksE (l.books.take i) r i = K) () ((Wk.born 5 40 1 rfl rfl rfl).trans (Wk.sub (by repeat' first|exact trivial|refine⟨?_,?_⟩|rfl|(simp only[List.length_map];rfl)|simp[PX.get]) (by repeat' first|exact trivial|refine⟨?_,?_⟩|rfl|(simp only[List.length_map];rfl)|simp[PX.get]))) hK ?_ ?_
   ·rintro i b r _ hx hi hr he
    rw [booksE, headE_eq] at he
    have htk : l.books.take (i + 1) = l.books.take i ++ [b] := by rw [List.take_succ, hx]; rfl
    have hnl : (namesP (l.books.take i)).length = i := by unfold namesP; simp; omega
    conv=>whnf
    refine brk_i (fun _ => ?_) (fun h => absurd hi (by have := of_decide_eq_false h; simp at this; omega))
    conv=>whnf
    refine elemK_nat hx ?_
    conv=>whnf
    refine CallA_view (ds := [.str b.name, strsD (namesP (l.books.take i))]) (fn91 b.name (namesP (l.books.take i)) (by omega)) rfl 1 (viewL_cons rfl (viewL_cons (viewV_sl rfl (by simp [hnl])) rfl)) ?_
    conv=>whnf
    refine ownK_whole rfl ?_
    conv=>whnf
    refine ownK_whole (by simp [Els.len, hnl]) ?_
    conv=>whnf
    refine chk_i (decide_eq_true (by
     show (((namesP (l.books.take i)).map fun s => [D.str s]).length + 1) * 16 ≤ 140737488355328
     rw [List.length_map]; omega)) ?_
    conv=>whnf
    generalize freshF b.name (namesP (l.books.take i)) = F at he ⊢
    have hnext : (namesP (l.books.take i)).map (fun s => [D.str s]) ++ [[.str b.name]] = (namesP (l.books.take (i + 1))).map fun s => [.str s] := by
     rw [htk]; simp [namesP]
    have hnl1 : ((namesP (l.books.take i)).map fun s => [D.str s]).length + 1 = i + 1 := by rw [List.length_map, hnl]
    refine brk_i (fun h2 => ?_) (fun h2 => ?_)
    ·have h2 : F = 0 := of_decide_eq_true h2
     subst h2
     simp only [if_true] at he
     conv=>whnf
     refine CallA_view (ds := [spansD [b.off, b.set], i64 (-720), i64 720]) (fn111 [b.off, b.set] (-720) 720 (by simp)) rfl 1 (viewL_cons (viewV_sl rfl rfl) rfl) ?_
     generalize spread (-720) 720 [b.off, b.set] 0 = S at he ⊢
     conv=>whnf
     refine brk_i (fun h3 => ?_) (fun h3 => ?_)
     ·have h3 : S = 0 := by simpa using h3
      subst h3
      simp only [if_true] at he
      conv=>whnf
      refine brk_i (fun h8 => ?_) (fun h8 => ?_)
      ·have h8 : b.ents.length > 8 := by have := of_decide_eq_true h8; simp at this; omega
       rw [if_pos h8, if_neg (by decide)] at he
       conv=>whnf
       refine arith_in (wrap_i64 (by (try dsimp only); omega)) ?_
       conv=>whnf
       rw [← he]
       exact RetA_view 0 rfl ⟨⟨rfl, rfl⟩, rfl⟩
      ·have h8 : ¬ b.ents.length > 8 := by have := of_decide_eq_false h8; simp at this; omega
       rw [if_neg h8, if_pos rfl] at he
       conv=>whnf
       generalize hE : entsE b.ents 0 = E at he
       refine LoopA_i (T := tys) tysOk (by exact drawsB_spec mixed tysOk (by decide +kernel)) b.ents (fun k (_ : Unit) => ⟨[(1, .ptr 1 0), (5, .sl 40 1 0 (i + 1)), (6, .d (i64 i)), (7, .ptr 7 0), (9, .d (i64 k))], [(1, .box (.dd l.cells)), (40, .arr 1 (.dd ((namesP (l.books.take (i + 1))).map fun s => [.str s]))), (7, .box (.dd b.cells))], st⟩)
        (fun k r _ => entsE r k = E) () (Wk.sub ⟨rfl, (by
         show some (V.sl 40 1 0 (((namesP (l.books.take i)).map fun s => [D.str s]).length + 1)) = _
         rw [hnl1]), rfl, rfl, rfl, trivial⟩ ⟨rfl, (by
         show some (Obj.arr 1 (Els.dd ((namesP (l.books.take i)).map (fun s => [D.str s]) ++ [[.str b.name]]))) = _
         rw [hnext]), rfl, trivial⟩) hE ?_ ?_
       ·rintro k y r2 _ hy hk hr2 he2
        rw [entsE] at he2
        conv=>whnf
        refine brk_i (fun _ => ?_) (fun h => absurd hk (by have := of_decide_eq_false h; simp at this; omega))
        conv=>whnf
        refine elemK_nat hy ?_
        conv=>whnf
        refine CallA_v (pa67 y) rfl rfl ?_
        conv=>whnf
        refine brk_i (fun h4 => ?_) (fun h4 => ?_)
        ·have h4 : ¬ entE y = 0 := by simpa using h4
         rw [if_neg h4] at he2
         subst he2
         rw [if_neg h4] at he
         conv=>whnf
         refine arith_in (wrap_i64 (by (try dsimp only); omega)) ?_
         conv=>whnf
         rw [← he]
         exact RetA_view 0 rfl ⟨⟨rfl, rfl⟩, rfl⟩
        ·have h4 : entE y = 0 := by simpa using h4
         rw [if_pos h4] at he2
         conv=>whnf
         refine arith_in (wrap_i64 (by (try dsimp only); omega)) ?_
         conv=>whnf
         exact ⟨(), he2, (Wk.sub (by repeat' first|exact trivial|refine⟨?_,?_⟩|rfl|(simp only[List.length_map];rfl)|simp[PX.get]) (by repeat' first|exact trivial|refine⟨?_,?_⟩|rfl|(simp only[List.length_map];rfl)|simp[PX.get]))⟩
       ·rintro _ he2
        have he2 : ((0, 0) : Int × Int) = E := he2
        subst he2
        rw [if_pos rfl, ← htk] at he
        conv=>whnf
        refine brk_i (fun h => absurd h (by simp)) (fun _ => ?_)
        conv=>whnf
        refine arith_in (wrap_i64 (by (try dsimp only); omega)) ?_
        conv=>whnf
        exact ⟨(), he, (Wk.sub (by repeat' first|exact trivial|refine⟨?_,?_⟩|rfl|(simp only[List.length_map];rfl)|simp[PX.get]) (by repeat' first|exact trivial|refine⟨?_,?_⟩|rfl|(simp only[List.length_map];rfl)|simp[PX.get]))⟩
     ·have h3 : ¬ S = 0 := by simpa using h3
      conv=>whnf
      refine brk_i (fun _ => ?_) (fun h => absurd h (by simp [h3]))
      rw [if_neg h3, if_neg h3] at he
      conv=>whnf
      refine arith_in (wrap_i64 (by (try dsimp only); omega)) ?_
      conv=>whnf
      rw [← he]
      exact RetA_view 0 rfl ⟨⟨rfl, rfl⟩, rfl⟩
    ·have h2 : ¬ F = 0 := of_decide_eq_false h2
     conv=>whnf
     refine brk_i (fun h => absurd (of_decide_eq_true h) h2) (fun _ => ?_)
     conv=>whnf
     refine brk_i (fun _ => ?_) (fun h => absurd h (by simp [h2]))
     rw [if_neg h2, if_neg h2] at he
     conv=>whnf
     refine arith_in (wrap_i64 (by (try dsimp only); omega)) ?_
     conv=>whnf
     rw [← he]
     exact RetA_view 0 rfl ⟨⟨rfl, rfl⟩, rfl⟩
   ·rintro _ he
    rw [booksE] at he
    subst he
    conv=>whnf
    refine brk_i (fun h => absurd h (by simp)) (fun _ => ?_)
    conv=>whnf
    exact RetA_view 0 rfl ⟨⟨rfl, rfl⟩, rfl⟩
end Go.PX
namespace Go.PX
open Go.Proofs
open Go.RowKit
theorem pa47 (l : PLog) : FnV Tryz.prog 47 [l.d] (.bool (decide (checkN l = 0))) := by
 obtain ⟨cp, cq, ce, hcp⟩ : ∃ p q e, checkP l = (p, q, e) := ⟨_, _, _, rfl⟩
 have hce : checkN l = ce := by show (checkP _).2.2 = ce; rw [hcp]
 have h18 : FnV Tryz.prog 18 [l.d] (.tup [i64 cp, i64 cq, i64 ce]) := FnV.cast (pa18 l) (by rw [hcp]; rfl)
 show FnV Tryz.prog 47 [l.d] _
 refine fnV_of mixed tysOk Tryz.func47 rfl (ft := ft47) 1 (by decide +kernel) (by rfl) fun {σ} Y st => ?_
 conv=>whnf
 refine CallA_v (ds := [l.d]) h18 rfl rfl ?_
 conv=>whnf
 rw [hce]
 exact RetA_view 0 rfl ⟨⟨rfl, rfl⟩, rfl⟩
end Go.PX
namespace Go.PX
open Go.Proofs
open Go.RowKit
end Go.PX
namespace Go.PX
open Go.Proofs
open Go.RowKit
theorem tmodP {x : Int} {n : Nat} (h : 0 ≤ x) : x.tmod n = ((x.toNat % n : Nat) : Int) := by
 obtain ⟨k, rfl⟩ := Int.eq_ofNat_of_zero_le h
 rfl
def moreF (l : PLog) (i : Nat) (b : PBook) (e : PEnt) : PLog := { l with books := l.books.set i { b with ents := b.ents ++ [e] } }
theorem moreF_L {l : PLog} {i : Nat} {b : PBook} (e : PEnt) (hb : l.books[i]? = some b) : MoreL l (moreF l i b e) := by
 intro k c hc
 by_cases h : i = k
 ·subst h
  obtain rfl : c = b := Option.some.inj (hc.symm.trans hb)
  exact ⟨[e], by unfold moreF; simp only; rw [List.getElem?_set_self (List.getElem?_eq_some_iff.1 hb).1]⟩
 ·exact ⟨[], by unfold moreF; simp only; rw [List.getElem?_set_ne h, hc, List.append_nil]⟩
theorem downE_at {l : PLog} (hc : checkN l = 0) {x : PAt} (hx : isAt l x = true) : downE l [x] = if fitP l 0 [] then 0 else 9 := by
 unfold downE entrP
 rw [if_pos hc]
 simp [hx]
theorem viewLL_inj {g : Nat → Option DO} (B : List (List D)) : viewLL g (injL B) = some B := by
 have := viewLL_app (g := g) (vs := []) (ds := []) rfl B
 simpa using this
theorem viewLL_mid {g : Nat → Option DO} {v : List V} {d : List D} (h : viewL g v = some d) (A B : List (List D)) : viewLL g (injL A ++ v :: injL B) = some (A ++ d :: B) := by
 refine viewLL_app ?_ A
 show (match viewL g v, viewLL g (injL B) with
  | some a, some l => some (a :: l)
  | _, _ => none) = _
 rw [h, viewLL_inj B]
theorem namesOfL_mid (A B : List (List D)) (v : List V) : namesOfL (injL A ++ v :: injL B).flatten = namesOfL v := by
 rw [namesOfL_injL, List.flatten_cons, namesOfL_app, injL_flatten, namesOfL_inj, List.append_nil]
theorem injL_mid (B : List (List D)) (x : List D) (y : List V) : ∀ A : List (List D), (injL (A ++ x :: B)).set A.length y = injL A ++ y :: injL B
 | [] => rfl
 | a :: A => by
  show inj a :: (injL (A ++ x :: B)).set A.length y = inj a :: (injL A ++ y :: injL B)
  rw [injL_mid B x y A]
theorem injL_set {l : List (List D)} {i : Nat} {x : List D} (y : List V) (h : l[i]? = some x) : (injL l).set i y = injL (l.take i) ++ y :: injL (l.drop (i + 1)) := by
 obtain ⟨hi, h2⟩ := List.getElem?_eq_some_iff.1 h
 have e : l = l.take i ++ x :: l.drop (i + 1) := by
  rw [← h2, List.getElem_cons_drop, List.take_append_drop]
 have hl : (l.take i).length = i := by simp; omega
 have := injL_mid (l.drop (i + 1)) x y (l.take i)
 rw [hl, ← e] at this
 exact this
theorem viewMoreLL {h : Heap} {k m : Nat} {l : PLog} {i : Nat} {b : PBook} {e : PEnt} (hb : l.books[i]? = some b) {vs : List (List V)} {es : List (List D)}
  (hvs : vs = injL ((l.books.map PBook.cells).take i) ++ (inj (hdC b) ++ [.sl 45 4 0 m]) :: injL ((l.books.map PBook.cells).drop (i + 1))) (h2 : get h 45 = some (.arr 4 (.dd es))) (hes : es = (b.ents ++ [e]).map PEnt.cells) (hm : m = b.ents.length + 1) :
  viewLL (objD h (k + 1)) vs = some ((moreF l i b e).books.map PBook.cells) := by
 have hi := (List.getElem?_eq_some_iff.1 hb).1
 have e1 : viewV (objD h (k + 1)) (.sl 45 4 0 m) = some (entsD (b.ents ++ [e])) := viewV_sl' (es' := (b.ents ++ [e]).map PEnt.cells) h2 hes (by simp [hm])
 rw [hvs, viewLL_mid (d := ({ b with ents := b.ents ++ [e] } : PBook).cells) (viewL_app (a := hdC b) (viewL_cons e1 rfl))]
 refine congrArg some ?_
 unfold moreF
 simp only
 rw [List.map_set, List.set_eq_take_append_cons_drop, if_pos (by simpa using hi)]
theorem viewMore {h : Heap} {k n m : Nat} {l : PLog} {i : Nat} {b : PBook} {e : PEnt} (hb : l.books[i]? = some b) (hn : n = l.books.length) {vs : List (List V)} {es : List (List D)} (h1 : get h 30 = some (.arr 6 (.vv vs)))
  (hvs : vs = injL ((l.books.map PBook.cells).take i) ++ (inj (hdC b) ++ [.sl 45 4 0 m]) :: injL ((l.books.map PBook.cells).drop (i + 1))) (h2 : get h 45 = some (.arr 4 (.dd es))) (hes : es = (b.ents ++ [e]).map PEnt.cells) (hm : m = b.ents.length + 1) :
  viewV (objD h (k + 2)) (.agg [.d (i64 l.near), .sl 30 6 0 n]) = some (moreF l i b e).d := by
 have e3 : viewV (objD h (k + 2)) (.sl 30 6 0 n) = some (booksD (moreF l i b e).books) := viewV_slv h1 (viewMoreLL hb hvs h2 hes hm) (by simp [hn, moreF])
 have : viewL (objD h (k + 2)) [.d (i64 l.near), .sl 30 6 0 n] = some [i64 l.near, booksD (moreF l i b e).books] := viewL_cons rfl (viewL_cons e3 rfl)
 rw [viewV, this]; rfl
theorem viewLi {h : Heap} {k n i : Nat} (L : PLog) (hn : n = L.books.length) (h1 : get h i = some (.arr 6 (.dd (L.books.map PBook.cells)))) : viewV (objD h (k + 1)) (.agg [.d (i64 L.near), .sl i 6 0 n]) = some L.d := by
 have e : viewV (objD h (k + 1)) (.sl i 6 0 n) = some (booksD L.books) := viewV_sl h1 (by simp [hn])
 have : viewL (objD h (k + 1)) [.d (i64 L.near), .sl i 6 0 n] = some [i64 L.near, booksD L.books] := viewL_cons rfl (viewL_cons e rfl)
 rw [viewV, this]; rfl
set_option maxHeartbeats 4000000 in
theorem pa13 (l : PLog) (e : PEnt) (p q r : Int) (hp : 0 ≤ p ∧ p ≤ 255) (hq : 0 ≤ q ∧ q ≤ 255) (hr : 0 ≤ r ∧ r ≤ 255) : FnV Tryz.prog 13 [l.d, e.d, .agg [.int .u8 p, .int .u8 q, .int .u8 r]] (.bool true) := by
 refine fnV_of mixed tysOk Tryz.func13 rfl (ft := ft13) 3 (by decide +kernel) (by rfl) fun {σ} Y st => ?_
 conv=>whnf
 refine CallA_v (ds := [l.d]) (pa47 l) rfl rfl ?_
 by_cases hc : checkN l = 0
 case neg =>
  rw [decide_eq_false hc]
  conv=>whnf
  refine CallA_v (pa26) rfl rfl ?_
  conv=>whnf
  exact RetA_view 0 rfl ⟨⟨rfl, rfl⟩, rfl⟩
 rw [decide_eq_true hc]
 have hR := check_ok hc
 have hlen := hR.books
 have hi := Nat.mod_lt p.toNat (show 0 < l.books.length by omega)
 obtain ⟨i, hpi⟩ : ∃ i, i = p.toNat % l.books.length := ⟨_, rfl⟩
 rw [← hpi] at hi
 obtain ⟨b, hb⟩ : ∃ b, l.books[i]? = some b := ⟨l.books[i], List.getElem?_eq_getElem hi⟩
 have hbR := hR.book b (List.mem_of_getElem? hb)
 have hel := hbR.ents
 have hj := Nat.mod_lt q.toNat (show 0 < l.books.length by omega)
 obtain ⟨j, hqj⟩ : ∃ j, j = q.toNat % l.books.length := ⟨_, rfl⟩
 rw [← hqj] at hj
 obtain ⟨c, hcb⟩ : ∃ c, l.books[j]? = some c := ⟨l.books[j], List.getElem?_eq_getElem hj⟩
 have hcR := hR.book c (List.mem_of_getElem? hcb)
 have hcl := hcR.ents
 conv=>whnf
 refine arith_to p (by rfl) (wrap_i64 (by omega)) ?_
 conv=>whnf
 refine chk_i (decide_eq_true (by simp only [List.length_map]; omega)) ?_
 conv=>whnf
 rw [List.length_map, tmodP hp.1, ← hpi]
 conv=>whnf
 refine ownK_whole rfl ?_
 conv=>whnf
 refine chk_i (by show (lenAllD 6 (l.books.map PBook.cells) && true) = true; rw [lenAllD_map (fun x => ⟨rfl, rfl⟩)]; rfl) ?_
 conv=>whnf
 refine chk_i (decide_eq_true (by show (0 + (l.books.map PBook.cells).length) * 72 ≤ 140737488355328; rw [List.length_map]; omega)) ?_
 conv=>whnf
 refine elemK_nat hb ?_
 conv=>whnf
 refine ownK_whole rfl ?_
 conv=>whnf
 refine chk_i (by show (lenAllD 4 (b.ents.map PEnt.cells) && true) = true; rw [lenAllD_map (fun x => ⟨rfl, rfl⟩)]; rfl) ?_
 conv=>whnf
 refine chk_i (decide_eq_true (by show (0 + (b.ents.map PEnt.cells).length) * 40 ≤ 140737488355328; rw [List.length_map]; omega)) ?_
 conv=>whnf
 refine ownK_whole rfl ?_
 conv=>whnf
 refine ownK_whole (by simp [Els.len]) ?_
 conv=>whnf
 refine chk_i (decide_eq_true (by show (([] ++ b.ents.map PEnt.cells : List (List D)).length + 1) * 40 ≤ 140737488355328; simp; omega)) ?_
 conv=>whnf
 refine chk_i (by simp [Els.len]; omega) ?_
 conv=>whnf
 refine cellK_i b.cells (by simp [hb]) ?_
 conv=>whnf
 have hbk : (l.books.map PBook.cells)[i]? = some b.cells := by rw [List.getElem?_map, hb]; rfl
 have hset : (Els.dd ([] ++ l.books.map PBook.cells)).set (0 + (i : Int).toNat) (Cells.vv (inj (hdC b) ++ [.sl 45 4 0 (b.ents.length + 1)])) = Els.vv (injL ((l.books.map PBook.cells).take i) ++ (inj (hdC b) ++ [.sl 45 4 0 (b.ents.length + 1)]) :: injL ((l.books.map PBook.cells).drop (i + 1))) := by
  show Els.vv (List.set (injL _) _ _) = _
  rw [Nat.zero_add, Int.toNat_natCast]
  exact congrArg Els.vv (injL_set _ hbk)
 refine forceN_to [45] (by
  show namesOfO (Obj.arr 6 ((Els.dd ([] ++ l.books.map PBook.cells)).set (0 + (i : Int).toNat) (Cells.vv (inj (hdC b) ++ [.sl 45 4 0 (([] ++ b.ents.map PEnt.cells : List (List D)).length + 1)])))) ++ [] = _
  rw [show ([] ++ b.ents.map PEnt.cells : List (List D)).length + 1 = b.ents.length + 1 by simp, hset]
  show namesOfL (List.flatten _) ++ [] = _
  rw [namesOfL_mid]; rfl) ?_
 conv=>whnf
 refine arith_to q (by rfl) (wrap_i64 (by omega)) ?_
 conv=>whnf
 refine chk_i (decide_eq_true (by simp only [List.length_map]; omega)) ?_
 conv=>whnf
 rw [List.length_map, tmodP hq.1, ← hqj]
 conv=>whnf
 have hvs0 : ∀ m, (injL ([] ++ l.books.map PBook.cells)).set (0 + (i : Int).toNat) (inj (hdC b) ++ [.sl 45 4 0 m]) = injL ((l.books.map PBook.cells).take i) ++ (inj (hdC b) ++ [.sl 45 4 0 m]) :: injL ((l.books.map PBook.cells).drop (i + 1)) := by
  intro m
  rw [Nat.zero_add, Int.toNat_natCast]
  exact injL_set _ hbk
 have hes0 : ([] ++ b.ents.map PEnt.cells ++ [e.cells] : List (List D)) = (b.ents ++ [e]).map PEnt.cells := by simp
 have hML := moreF_L e hb
 refine CallA.wkK ?_
 refine CallA_view (ds := [(moreF l i b e).d]) (pa47 (moreF l i b e)) rfl 2 (viewL_cons (viewMore hb (by simp [Els.len]) rfl (hvs0 _) rfl hes0 (by simp [Els.len])) rfl) ?_
 conv=>whnf
 refine ⟨⟨[(3, .ptr 3 0), (5, .ptr 5 0), (8, .ptr 8 0), (9, .d (i64 j)), (56, .d (.bool (decide (checkN (moreF l i b e) = 0))))], [(3, .box (.dd l.cells)), (5, .box (.dd [.int .u8 p, .int .u8 q, .int .u8 r])), (8, .box (.vv [.d (i64 (moreF l i b e).near), .sl 30 6 0 l.books.length])), (30, .arr 6 (.dd ((moreF l i b e).books.map PBook.cells)))], st⟩, (Wk.frzArr 1 [45] 30 (sz := 6) (ds := (moreF l i b e).books.map PBook.cells) rfl ?_).trans (Wk.sub ⟨rfl, rfl, rfl, rfl, rfl, trivial⟩ ⟨rfl, rfl, ?_, rfl, trivial⟩), ?_⟩
 ·exact viewMoreLL hb (hvs0 _) rfl hes0 (by simp [Els.len])
 ·show some (Obj.box (.vv [.d (i64 l.near), .sl 30 6 0 (0 + (l.books.map PBook.cells).length)])) = _
  rw [List.length_map, Nat.zero_add]; rfl
 have hLn : l.books.length = (moreF l i b e).books.length := by unfold moreF; simp
 generalize hM : moreF l i b e = M at hML hLn ⊢
 conv=>whnf
 refine brk_i (fun h => ?_) (fun h => ?_)
 ·have hc2 : ¬ checkN M = 0 := by simpa using h
  rw [decide_eq_false hc2]
  conv=>whnf
  refine CallA_v (pa26) rfl rfl ?_
  conv=>whnf
  exact RetA_view 0 rfl ⟨⟨rfl, rfl⟩, rfl⟩
 ·have hc2 : checkN M = 0 := by simpa using h
  conv=>whnf
  refine elemK_nat hcb ?_
  conv=>whnf
  refine brk_i (fun h0 => ?_) (fun h0 => ?_)
  ·conv=>whnf
   refine CallA_v (pa26) rfl rfl ?_
   conv=>whnf
   exact RetA_view 0 rfl ⟨⟨rfl, rfl⟩, rfl⟩
  ·have hne : c.ents.length ≠ 0 := by have := of_decide_eq_false h0; simp at this; simpa using this
   have hm := Nat.mod_lt r.toNat (show 0 < c.ents.length by omega)
   obtain ⟨m, hrm⟩ : ∃ m, m = r.toNat % c.ents.length := ⟨_, rfl⟩
   rw [← hrm] at hm
   conv=>whnf
   refine arith_to r (by rfl) (wrap_i64 (by omega)) ?_
   conv=>whnf
   refine elemK_nat hcb ?_
   conv=>whnf
   refine chk_i (decide_eq_true (by simp only [List.length_map]; omega)) ?_
   conv=>whnf
   rw [List.length_map, tmodP hr.1, ← hrm]
   refine DrawCall_v (pa45 j m) rfl rfl ?_
   have hx : isAt l ⟨j, m⟩ = true := isAt_iff.2 ⟨j, m, c, c.ents[m], rfl, hcb, List.getElem?_eq_getElem hm⟩
   have hd1 := downE_at hc hx
   generalize hX : (⟨j, m⟩ : PAt) = X at hx hd1 ⊢
   have hxM : isAt M X = true := by
    rw [← hX]
    obtain ⟨b', _, hA', _⟩ := more_at hML (show At l j m c c.ents[m] from ⟨hcb, List.getElem?_eq_getElem hm⟩)
    exact isAt_iff.2 ⟨j, m, b', _, rfl, hA'⟩
   have hd2 := downE_at hc2 hxM
   have h1 : FnV Tryz.prog 24 [l.d, X.d] (.tup [(instF l X).1.d, i64 (instF l X).2]) := pa24 l X
   have h2 : FnV Tryz.prog 24 [M.d, X.d] (.tup [(instF M X).1.d, i64 (instF M X).2]) := pa24 M X
   have hI1 : instF l X = if fitP l 0 [] then (instS l X, 0) else (⟨0, 0⟩, 9) := by
    unfold instF; rw [hd1]; cases fitP l 0 [] <;> rfl
   have hI2 : instF M X = if fitP M 0 [] then (instS M X, 0) else (⟨0, 0⟩, 9) := by
    unfold instF; rw [hd2]; cases fitP M 0 [] <;> rfl
   rw [hI1] at h1
   rw [hI2] at h2
   have hmore := more_inst hML (x := X)
   conv=>whnf
   refine CallA_v (ds := [l.d, X.d]) h1 rfl rfl ?_
   cases hf1 : fitP M 0 [] with
   | false =>
    rw [hf1] at h2
    simp only [Bool.false_eq_true, if_false] at h2
    have hE1 : (if fitP l 0 [] then (instS l X, (0 : Int)) else (⟨0, 0⟩, 9)).2 = 0 ∨ (if fitP l 0 [] then (instS l X, (0 : Int)) else (⟨0, 0⟩, 9)).2 = 9 := by cases fitP l 0 [] <;> simp
    generalize (if fitP l 0 [] then (instS l X, (0 : Int)) else (⟨0, 0⟩, 9)) = R at hE1 ⊢
    obtain ⟨S, E⟩ := R
    simp only at hE1
    conv=>whnf
    refine CallA_view (ds := [M.d, X.d]) h2 rfl 1 (viewL_cons (viewLi M hLn rfl) (viewL_cons rfl rfl)) ?_
    rcases hE1 with rfl | rfl
    ·conv=>whnf
     refine CallA_v (pa26) rfl rfl ?_
     conv=>whnf
     exact RetA_view 0 rfl ⟨⟨rfl, rfl⟩, rfl⟩
    ·conv=>whnf
     refine CallA_v (pa26) rfl rfl ?_
     conv=>whnf
     exact RetA_view 0 rfl ⟨⟨rfl, rfl⟩, rfl⟩
   | true =>
    rw [hf1] at h2 hmore
    obtain ⟨g1, _, g3, g4, g5⟩ := hmore rfl hx
    rw [g1]
    simp only [if_true] at h2 ⊢
    generalize instS l X = S1 at g3 g4 g5 ⊢
    generalize instS M X = S2 at g3 g4 g5 h2
    obtain ⟨lo1, hi1⟩ := S1
    obtain ⟨lo2, hi2⟩ := S2
    simp only at g3 g4 g5
    conv=>whnf
    refine CallA_view (ds := [M.d, X.d]) h2 rfl 1 (viewL_cons (viewLi M hLn rfl) (viewL_cons rfl rfl)) ?_
    conv=>whnf
    refine brk_i (fun _ => ?_) (fun h => absurd (of_decide_eq_false h) (by dsimp only; omega))
    conv=>whnf
    refine brk_i (fun _ => ?_) (fun h => absurd (of_decide_eq_false h) (by dsimp only; omega))
    conv=>whnf
    refine brk_i (fun _ => ?_) (fun h => absurd (of_decide_eq_false h) (by dsimp only; omega))
    conv=>whnf
    refine CallA_v (pa26) rfl rfl ?_
    conv=>whnf
    exact RetA_view 0 rfl ⟨⟨rfl, rfl⟩, rfl⟩
end Go.PX
