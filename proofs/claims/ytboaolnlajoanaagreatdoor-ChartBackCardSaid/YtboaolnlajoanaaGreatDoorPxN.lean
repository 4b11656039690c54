import Derived.Test.YtboaolnlajoanaaGreatDoorPxM
import Derived.Test.YtboaolnlajoanaaGreatDoorPxK
import Derived.Test.YtboaolnlajoanaaGreatDoorPxJ
import Derived.Test.YtboaolnlajoanaaGreatDoorPxH
import Derived.Test.YtboaolnlajoanaaGreatDoorPxI
import Derived.RecoverIn
import Derived.Recover
import Derived.Tactics
import Derived.Tactics2
import Derived.Test.YtboaolnlajoanaaGreatDoorPxL
set_option linter.all false
set_option maxRecDepth 10000
namespace Go.PX
open Go.Proofs
theorem nameF_size {s : ByteArray} (h : nameF s = true) : s.size ≤ 14 := by
 unfold nameF at h
 rw [Bool.and_eq_true, inB_iff] at h
 omega
theorem freshE_name {ns : Nms} {n : ByteArray} (h : freshE ns n = 0) : nameF n = true := by
 unfold freshE at h
 split at h
 ·rename_i h1; exact h1
 ·cases h
theorem marksL_names : ∀ {l : List Mark} {ns ns' : Nms} {i : Int}, marksL ns i l = .inr ns' → ∀ m ∈ l, nameF m.name = true
 | [], _, _, _, _, m, hm => by cases hm
 | x :: r, ns, ns', i, h, m, hm => by
  rw [marksL] at h
  split at h
  case isFalse => cases h
  rename_i h1
  rcases List.mem_cons.1 hm with rfl | hm
  ·unfold markE at h1
   split at h1
   ·rename_i h2; exact freshE_name h2
   ·rename_i h2; exact absurd h1 h2
  ·exact marksL_names h m hm
theorem sandsL_names : ∀ {l : List Sand} {ns : Nms} {i : Int}, (sandsL ns i l).2.2 = 0 → ∀ s ∈ l, nameF s.name = true
 | [], _, _, _, s, hs => by cases hs
 | x :: r, ns, i, h, s, hs => by
  rw [sandsL] at h
  split at h
  case isFalse => rename_i h1; exact absurd h h1
  rename_i h1
  rcases List.mem_cons.1 hs with rfl | hs
  ·unfold sandE' at h1
   split at h1
   ·rename_i h2; exact freshE_name h2
   ·rename_i h2; exact absurd h1 h2
  ·exact sandsL_names h s hs
structure NamesR (c : Cht) : Prop where
 mark : ∀ m ∈ c.marks, nameF m.name = true
 sand : ∀ s ∈ c.sands, nameF s.name = true
theorem checkX_names {c : Cht} (h : (checkX c).2.2 = 0) : NamesR c := by
 unfold checkX at h
 split at h
 ·cases h
 split at h
 ·rename_i i e he
  exact absurd h (marksL_bad he)
 ·rename_i ns hns
  split at h
  ·cases h
  exact ⟨marksL_names hns, sandsL_names h⟩
theorem NamesR.nm {c : Cht} (h : NamesR c) : NmR c := ⟨fun m hm => Nat.le_trans (nameF_size (h.mark m hm)) (by omega), fun s hs => Nat.le_trans (nameF_size (h.sand s hs)) (by omega)⟩
def writeX (c : Cht) : ByteArray := if (checkX c).2.2 = 0 then chtT c else .empty
theorem ch36 (c : Cht) : FnV Tryz.prog 36 [c.d] (.tup [.str (writeX c), i64 (checkX c).2.2]) := by
 refine fnV_of mixed tysOk Tryz.func36 rfl (ft := ft36) 1 (by decide +kernel) (by rfl) fun {σ} Y st => ?_
 conv=>whnf
 refine CallA_v (ch20 c) rfl rfl ?_
 conv=>whnf
 by_cases h : (checkX c).2.2 = 0
 ·have hw : writeX c = chtT c := if_pos h
  rw [hw, h]
  conv=>whnf
  refine CallA_v (ch86 c (checkX_ok h) (checkX_names h).nm) rfl rfl ?_
  conv=>whnf
  exact RetA_view 0 rfl ⟨⟨rfl, rfl⟩, rfl⟩
 ·have hw : writeX c = .empty := if_neg h
  rw [hw]
  refine brk_i (fun _ => ?_) (fun h1 => absurd h1 (by simp [h]))
  conv=>whnf
  exact RetA_view 0 rfl ⟨⟨rfl, rfl⟩, rfl⟩
end Go.PX
namespace Go.PX
open Go.Proofs
theorem Wk.bornAtD {σ : Type} {e : Env} {h : Heap} {s : σ} (b k sz : Nat) (A B : List D) {l : List D} (hk : Nat.blt k 1000000 = true) (hs : Nat.blt 0 sz = true) (hb : get h b = some (.box (.dd l))) (hl : l = A ++ .nils :: B) (hbk : Nat.beq b k = false) :
  Wk (⟨e, h, s⟩ : St σ) ⟨mapT (mapId (killF k)) e, put (put (mapT (Obj.mapId (killF k)) (cut h k)) k (.arr sz (.dd []))) b (.box (.vv (inj A ++ .sl k sz 0 0 :: inj B))), s⟩ := by
 have hk := Nat.le_of_ble_eq_true hk
 have hs := Nat.le_of_ble_eq_true hs
 have hne : b ≠ k := by rintro rfl; simp at hbk
 have h1 : Wk (⟨e, h, s⟩ : St σ) ⟨mapT (mapId (killF k)) e, put (mapT (Obj.mapId (killF k)) (cut h k)) k (.arr sz (.dd [])), s⟩ := by
  intro cx r m L F a w hg
  exact ⟨_, F, hg.newEmpty k sz (by unfold pinned; omega) hs (.dd []) rfl, Tr.refl F w⟩
 refine h1.trans (Wk.reobj b (o := .box (.dd l)) _ (by rw [get_put, if_neg hne, get_mapT, get_cut, if_neg hne, hb]; rfl) (fun yv L F w h => ?_) fun L hb => hb)
 obtain ⟨c, T, hc, hr⟩ := h
 have hr : RepVL yv L F w (inj l) c.toList := hr
 rw [hl, inj_append] at hr
 exact ⟨c, T, hc, RepVL.nil_at k sz hs hr⟩
theorem dsOf_inj : ∀ l : List D, dsOf (inj l) = some l
 | [] => rfl
 | a :: r => by
  show (match dsOf (inj r) with | some l => some (a :: l) | none => none) = _
  rw [dsOf_inj r]
theorem get_frzB {X : Option Obj} {g : Nat → Option DO} {id sz n : Nat} {A B : List D} {d : D} (h1 : X = some (replO g (.box (.vv (inj A ++ .sl id sz 0 n :: inj B))))) (hv : viewV g (.sl id sz 0 n) = some d) : X = some (.box (.dd (A ++ d :: B))) := by
 rw [h1]
 have : replL g (inj A ++ .sl id sz 0 n :: inj B) = inj (A ++ d :: B) := by
  rw [replL_append, replL_inj, inj_append]
  have : replL g (.sl id sz 0 n :: inj B) = inj (d :: B) := by
   show repl g (.sl id sz 0 n) :: replL g (inj B) = _
   rw [replL_inj]
   simp [repl, hv, inj]
  rw [this]
 simp [replO, this, dsOf_inj]
end Go.PX
namespace Go.PX
open Go.Proofs
open Go.RowKit
def pairsW : List ByteArray → Option (List (Int × Int))
 | [] => some []
 | [_] => none
 | x :: y :: r => match atoiX x, atoiX y with
  | some a, some b => (pairsW r).map ((a, b) :: ·)
  | _, _ => none
def takeF (c : Cht) (row : ByteArray) : Option Cht :=
 match piecesB 32 row with
 | w :: n :: r =>
  if w = markW then
   match pairW r with
   | some (p, r) => match pairsW r with
    | some l => some { c with marks := c.marks ++ [⟨n, ⟨p.1, p.2⟩, l.map fun x => ⟨x.1, x.2⟩⟩] }
    | none => none
   | none => none
  else if w = sandW then
   match pairW r with
   | some (p, r) => match pairW r with
    | some (q, r) => match pairsW r with
     | some l => some { c with sands := c.sands ++ [⟨n, l.map fun x => ⟨x.1, x.2⟩, ⟨⟨p.1, p.2⟩, ⟨q.1, q.2⟩⟩⟩] }
     | none => none
    | none => none
   | none => none
  else none
 | _ => none
theorem pairsW_step (l : List ByteArray) (hl : l ≠ []) : pairsW l = match pairW l with
  | some (p, r) => (pairsW r).map (p :: ·)
  | none => none := by
 match l, hl with
 | [x], _ =>
  simp only [pairsW, pairW, numW]
  cases atoiX x <;> rfl
 | x :: y :: r, _ =>
  simp only [pairsW, pairW, numW]
  cases atoiX x with
  | none => rfl
  | some a =>
   simp only
   cases atoiX y <;> rfl
theorem pairW_mem {l r : List ByteArray} {p : Int × Int} (h : pairW l = some (p, r)) : ∃ x y, l = x :: y :: r := by
 match l with
 | [] => cases h
 | [x] =>
  simp only [pairW, numW] at h
  split at h
  ·rename_i h1
   cases h2 : atoiX x with
   | none => rw [h2] at h1; cases h1
   | some b => rw [h2] at h1; cases h1; cases h
  ·cases h
 | x :: y :: q =>
  simp only [pairW, numW] at h
  cases h1 : atoiX x with
  | none => rw [h1] at h; cases h
  | some a =>
   cases h2 : atoiX y with
   | none => rw [h1] at h; simp only [h2] at h; cases h
   | some b =>
    rw [h1] at h; simp only [h2] at h
    cases h
    exact ⟨x, y, rfl⟩
theorem pairW_tail {l r : List ByteArray} {p : Int × Int} (h : pairW l = some (p, r)) : ∃ x y, l = x :: y :: r := by
 obtain ⟨x, y, rfl⟩ := pairW_mem h
 simp only [pairW, numW] at h
 cases h1 : atoiX x with
 | none => rw [h1] at h; cases h
 | some a =>
  cases h2 : atoiX y with
  | none => rw [h1] at h; simp only [h2] at h; cases h
  | some b =>
   rw [h1] at h; simp only [h2] at h
   cases h
   exact ⟨x, y, rfl⟩
theorem pairW_len {l r : List ByteArray} {p : Int × Int} (h : pairW l = some (p, r)) : l.length = r.length + 2 := by
 obtain ⟨x, y, rfl⟩ := pairW_tail h
 rfl
theorem pairW_sub {l r : List ByteArray} {p : Int × Int} (h : pairW l = some (p, r)) : ∀ x ∈ r, x ∈ l := by
 obtain ⟨x, y, rfl⟩ := pairW_tail h
 intro z hz; simp [hz]
theorem splitL_len (c : UInt8) : ∀ l : List UInt8, (splitL c l).length ≤ l.length + 1
 | [] => by simp [splitL]
 | x :: r => by
  have ih := splitL_len c r
  rw [splitL]
  split
  ·simpa using ih
  ·have : (headC x (splitL c r)).length ≤ max 1 (splitL c r).length := by cases splitL c r <;> simp [headC]
   simp only [List.length_cons]
   omega
theorem splitL_mem (c : UInt8) : ∀ (l : List UInt8), ∀ x ∈ splitL c l, x.length ≤ l.length
 | [], x, hx => by simp [splitL] at hx; subst hx; simp
 | y :: r, x, hx => by
  have ih := splitL_mem c r
  rw [splitL] at hx
  split at hx
  ·rcases List.mem_cons.1 hx with rfl | hx
   ·simp
   ·have := ih x hx; simp only [List.length_cons]; omega
  ·cases hs : splitL c r with
   | nil => rw [hs] at hx; simp [headC] at hx; subst hx; simp
   | cons a t =>
    rw [hs] at hx ih
    rcases List.mem_cons.1 hx with rfl | hx
    ·have := ih a (by simp); simp only [List.length_cons]; omega
    ·have := ih x (by simp [hx]); simp only [List.length_cons]; omega
theorem piecesB_len (c : UInt8) (s : ByteArray) : (piecesB c s).length ≤ s.size + 1 := by
 have := splitL_len c s.data.toList
 simp only [piecesB, List.length_map]
 simpa using this
theorem piecesB_mem (c : UInt8) (s : ByteArray) : ∀ x ∈ piecesB c s, x.size ≤ s.size := by
 intro x hx
 obtain ⟨y, hy, rfl⟩ := List.mem_map.1 hx
 have := splitL_mem c s.data.toList y hy
 show y.length ≤ s.size
 simpa using this
def chtN (b i j : Nat) (c : Cht) : Heap := [(b, .box (.vv [.sl i 4 0 c.marks.length, .sl j 6 0 c.sands.length])), (i, .arr 4 (.dd (c.marks.map Mark.cells))), (j, .arr 6 (.dd (c.sands.map Sand.cells)))]
def chtH (c : Cht) : Heap := chtN 1000000 1000001 1000002 c
theorem ch91 (c : Cht) (row : ByteArray) (hs : row.size ≤ 4000) (hm : c.marks.length ≤ 4000) (hn : c.sands.length ≤ 4000) : FnXU Tryz.prog 91 [.ptr 1000000 0, .d (.str row)] (chtH c) (fun v h' => ∃ c', takeF c row = some c' ∧ v = .d (.tup []) ∧ (h' = chtN 1000000 2000000 1000002 c' ∨ h' = chtN 1000000 1000001 2000000 c')) (fun pv h' => takeF c row = none ∧ pv = pan6 ∧ h' = chtH c) := by
 intro σ Y st
 refine fnX_of mixed tysOk Tryz.func91 rfl (ft := ft91.less 16) (args := [.ptr 1000000 0, .d (.str row)]) (show fnB (ft91.less 16) Tryz.f91 2 = true from by decide +kernel) ?_
 conv=>whnf
 refine CallA_v (ch117 row 32 (by omega)) rfl rfl ?_
 conv=>whnf
 have hlen := piecesB_len 32 row
 have hmem := piecesB_mem 32 row
 have hT : takeF c row = takeF c row := rfl
 conv at hT => rhs; unfold takeF
 generalize takeF c row = T at hT ⊢
 generalize piecesB 32 row = l at hT hlen hmem ⊢
 refine must_i rfl (fun hb => ?_) (fun hb => ?_)
 case refine_2 =>
  conv=>whnf
  refine RetA_hand [] [] (chtH c) rfl ⟨rfl, rfl, rfl, trivial⟩ rfl ⟨⟨?_, rfl, rfl⟩, rfl⟩
  match l, hb with
  | [], _ => exact hT
  | [x], _ => exact hT
  | x :: y :: r, h => exact absurd h (by simp; omega)
 match l, hb with
 | [], h => exact absurd h (by simp)
 | [x], h => exact absurd h (by simp)
 | w :: n :: r, _ => 
 conv=>whnf
 refine brk_i (fun _ => ?_) (fun h => absurd h (by simp; omega))
 conv=>whnf
 refine chk_i rfl ?_
 conv=>whnf
 refine brk_i (fun h1 => ?_) (fun h1 => ?_)
 ·have h1 : w = markW := of_decide_eq_true h1
  subst h1
  simp only [if_pos] at hT
  conv=>whnf
  refine CallA_x (ch118 r (fun x hx => by have := hmem x (by simp [hx]); omega) _ _) [6] rfl ⟨_, _, rfl, congrArg (fun z => some (Obj.box (.dd [D.vs z]))) (show List.drop _ (List.take _ _) = _ from by rw [List.take_length]; rfl), rfl⟩ rfl rfl ?_ ?_
  ·rintro v h1 s' ⟨⟨a, b, r1, ha, rfl, rfl⟩, rfl⟩
   refine ⟨rfl, ?_⟩
   rw [ha] at hT
   simp only at hT
   have hrl : r1.length ≤ 4000 ∧ ∀ x ∈ r1, x.size ≤ 4000 := by
    have h0 := pairW_len ha
    simp only [List.length_cons] at hlen
    exact ⟨by omega, fun x hx => by have := hmem x (by simp [pairW_sub ha x hx]); omega⟩
   conv=>whnf
   refine LoopA_p (T := tys) tysOk (by exact drawsB_spec mixed tysOk (by decide +kernel)) (fun x : List ByteArray × List (Int × Int) => ⟨[(0, .ptr 1000000 0), (6, .ptr 6 0), (7, .ptr 7 0)], (6, .box (.dd [wordsD x.1])) :: (7, .box (.vv [.d (.str n), .d (i64 a), .d (i64 b), .sl 900001 2 0 x.2.length])) :: (900001, .arr 2 (.dd (x.2.map fun q => [i64 q.1, i64 q.2]))) :: chtH c, s'⟩) (fun x => pairsW r1 = (pairsW x.1).map (x.2 ++ ·) ∧ x.1.length + 2 * x.2.length ≤ 4000 ∧ ∀ y ∈ x.1, y.size ≤ 4000) (fun x => x.1.length) (r1, []) ?_ ?_ ?_
   ·exact (Wk.bornAtD 7 900001 2 [.str n, i64 a, i64 b] [] rfl rfl rfl rfl rfl).trans (Wk.sub ⟨(by first | rfl | (simp only [List.length_map]; rfl) | simp [PX.get]), (by first | rfl | (simp only [List.length_map]; rfl) | simp [PX.get]), (by first | rfl | (simp only [List.length_map]; rfl) | simp [PX.get]), trivial⟩ ⟨(by first | rfl | (simp only [List.length_map]; rfl) | simp [PX.get]), (by first | rfl | (simp only [List.length_map]; rfl) | simp [PX.get]), (by first | rfl | (simp only [List.length_map]; rfl) | simp [PX.get]), (by first | rfl | (simp only [List.length_map]; rfl) | simp [PX.get]), (by first | rfl | (simp only [List.length_map]; rfl) | simp [PX.get]), (by first | rfl | (simp only [List.length_map]; rfl) | simp [PX.get]), trivial⟩)
   ·exact ⟨by simp, by simpa using hrl.1, hrl.2⟩
   rintro ⟨q, acc⟩ ⟨hq, hql, hqs⟩
   conv=>whnf
   refine brk_i (fun hb => ?_) (fun hb => ?_)
   ·conv=>whnf
    refine CallA_x (ch118 q (fun x hx => by have := hqs x hx; omega) _ _) [6] rfl ⟨_, _, rfl, rfl, rfl⟩ rfl rfl ?_ ?_
    ·rintro v h1 s'' ⟨⟨a1, b1, q1, ha1, rfl, rfl⟩, rfl⟩
     refine ⟨rfl, ?_⟩
     conv=>whnf
     refine ownK_whole rfl ?_
     conv=>whnf
     refine ownK_whole (by simp [Els.len]) ?_
     conv=>whnf
     refine chk_i (decide_eq_true (by show ((acc.map fun q => [i64 q.1, i64 q.2]).length + 1) * 16 ≤ _; simp only [List.length_map] at hql ⊢; omega)) ?_
     conv=>whnf
     obtain ⟨x1, y1, hq1⟩ := pairW_mem ha1
     refine ⟨(q1, acc ++ [(a1, b1)]), by show q1.length < q.length; have h0 := pairW_len ha1; omega, ⟨?_, ?_, ?_⟩, ?_⟩
     ·rw [hq]
      show (pairsW q).map _ = _
      rw [hq1, pairsW_step _ (by simp), ← hq1, ha1]
      show ((pairsW q1).map _).map _ = (pairsW q1).map _
      cases pairsW q1 <;> simp
     ·have h0 := pairW_len ha1
      show q1.length + 2 * (acc ++ [(a1, b1)]).length ≤ 4000
      have hql : q.length + 2 * acc.length ≤ 4000 := hql
      rw [List.length_append, List.length_singleton]
      omega
     ·exact fun y hy => hqs y (pairW_sub ha1 y hy)
     ·exact (Wk.move 42 900001 rfl rfl).trans (Wk.sub ⟨rfl, rfl, rfl, trivial⟩ ⟨rfl, congrArg (fun z : Nat => some (Obj.box (.vv [.d (.str n), .d (i64 a), .d (i64 b), .sl 900001 2 0 z]))) (by simp [Els.len]), congrArg (fun z => some (Obj.arr 2 (.dd z))) (by simp), rfl, rfl, rfl, trivial⟩)
    ·rintro pv h1 s'' ⟨⟨ha1, rfl, r2, rfl⟩, rfl⟩
     refine ⟨rfl, ?_⟩
     conv=>whnf
     have hqn : q ≠ [] := by rintro rfl; simp at hb
     refine RetA_hand [] [] (chtH c) rfl ⟨rfl, rfl, rfl, trivial⟩ rfl ⟨⟨?_, rfl, rfl⟩, rfl⟩
     rw [hT, hq, pairsW_step q hqn, ha1]; rfl
   ·conv=>whnf
    refine ownK_whole rfl ?_
    conv=>whnf
    refine ownK_whole (by simp [Els.len]) ?_
    conv=>whnf
    refine chk_i (by
     show (true && !nameBL 51 ((injL (c.marks.map Mark.cells) ++ [_]).flatten)) = true
     rw [nameBL_injL]; rfl) ?_
    conv=>whnf
    refine chk_i (decide_eq_true (by show ((c.marks.map Mark.cells).length + 1) * 56 ≤ _; simp only [List.length_map]; omega)) ?_
    conv=>whnf
    refine forceN_to [900001, 51] (by
     show namesOfL ((injL (c.marks.map Mark.cells) ++ [[V.d (.str n), V.d (i64 a), V.d (i64 b), V.sl 900001 2 0 acc.length]]).flatten) ++ ([51] ++ []) = _
     rw [namesOfL_injL]; rfl) ?_
    conv=>whnf
    have hq0 : q = [] := by
     cases q with
     | nil => rfl
     | cons x y => exact absurd hb (by simp)
    have hT : T = some { c with marks := c.marks ++ [⟨n, ⟨a, b⟩, acc.map fun x => ⟨x.1, x.2⟩⟩] } := by
     rw [hT, hq, hq0]; simp [pairsW]
    refine RetA_wk (l' := []) (h' := [(1000000, .box (.vv [.sl 51 4 0 (c.marks.length + 1), .sl 1000002 6 0 c.sands.length])), (51, .arr 4 (.dd (c.marks.map Mark.cells ++ [(⟨n, ⟨a, b⟩, acc.map fun x => ⟨x.1, x.2⟩⟩ : Mark).cells]))), (1000002, .arr 6 (.dd (c.sands.map Sand.cells)))]) ((Wk.frzArr 1 [900001] 51 (sz := 4) (vs := injL (c.marks.map Mark.cells) ++ [[.d (.str n), .d (i64 a), .d (i64 b), .sl 900001 2 0 acc.length]]) (ds := c.marks.map Mark.cells ++ [(⟨n, ⟨a, b⟩, acc.map fun x => ⟨x.1, x.2⟩⟩ : Mark).cells]) ?_ (viewLL_app (viewLL_one (viewL_app (a := [.str n, i64 a, i64 b]) (viewL_cons ?_ rfl))) _)).trans ?_) rfl rfl ?_
    ·rfl
    ·exact viewV_sl' rfl (show _ = (acc.map fun x => (⟨x.1, x.2⟩ : Paint)).map Paint.cells from by simp [Paint.cells]) (by simp)
    ·exact Wk.sub trivial ⟨congrArg (fun z : Nat => some (Obj.box (.vv [.sl 51 4 0 z, .sl 1000002 6 0 c.sands.length]))) (show (Els.dd (c.marks.map Mark.cells)).len + 1 = _ from by simp [Els.len]), rfl, rfl, trivial⟩
    ·exact RetA_hand [51] [] (chtN 1000000 2000000 1000002 { c with marks := c.marks ++ [⟨n, ⟨a, b⟩, acc.map fun x => ⟨x.1, x.2⟩⟩] }) rfl ⟨congrArg (fun z : Nat => some (Obj.box (.vv [.sl 51 4 0 z, .sl 1000002 6 0 c.sands.length]))) (by simp), congrArg (fun z => some (Obj.arr 4 (.dd z))) (by simp), rfl, trivial⟩ rfl ⟨⟨_, hT, rfl, .inl rfl⟩, rfl⟩
  ·rintro pv h1 s' ⟨⟨ha, rfl, r2, rfl⟩, rfl⟩
   refine ⟨rfl, ?_⟩
   conv=>whnf
   refine RetA_hand [] [] (chtH c) rfl ⟨rfl, rfl, rfl, trivial⟩ rfl ⟨⟨?_, rfl, rfl⟩, rfl⟩
   rw [hT, ha]
 have h0 : w ≠ markW := fun h => absurd (decide_eq_true (p := w = markW) h) (by rw [show decide (w = markW) = false from h1]; simp)
 conv=>whnf
 refine brk_i (fun h1 => ?_) (fun h1 => ?_)
 case refine_2 =>
  have h2 : w ≠ sandW := fun h => absurd (decide_eq_true (p := w = sandW) h) (by rw [show decide (w = sandW) = false from h1]; simp)
  simp only [if_neg h0, if_neg h2] at hT
  conv=>whnf
  refine must_i rfl (fun h => by cases h) (fun _ => ?_)
  conv=>whnf
  exact RetA_hand [] [] (chtH c) rfl ⟨rfl, rfl, rfl, trivial⟩ rfl ⟨⟨hT, rfl, rfl⟩, rfl⟩
 have h1 : w = sandW := of_decide_eq_true h1
 subst h1
 simp only [if_neg h0, if_pos] at hT
 conv=>whnf
 refine CallA_x (ch119 r (fun x hx => by have := hmem x (by simp [hx]); omega) _ _) [6] rfl ⟨_, _, rfl, congrArg (fun z => some (Obj.box (.dd [D.vs z]))) (show List.drop _ (List.take _ _) = _ from by rw [List.take_length]; rfl), rfl⟩ rfl rfl ?_ ?_
 case refine_2 =>
  rintro pv h1 s' ⟨⟨ha, rfl, r2, rfl⟩, rfl⟩
  refine ⟨rfl, ?_⟩
  conv=>whnf
  refine RetA_hand [] [] (chtH c) rfl ⟨rfl, rfl, rfl, trivial⟩ rfl ⟨⟨?_, rfl, rfl⟩, rfl⟩
  rw [hT, ha]
 rintro v h1 s' ⟨⟨a, b, r1, ha, rfl, rfl⟩, rfl⟩
 refine ⟨rfl, ?_⟩
 rw [ha] at hT
 simp only at hT
 have hrl : r1.length ≤ 4000 ∧ ∀ x ∈ r1, x.size ≤ 4000 := by
  have h0 := pairW_len ha
  simp only [List.length_cons] at hlen
  exact ⟨by omega, fun x hx => by have := hmem x (by simp [pairW_sub ha x hx]); omega⟩
 conv=>whnf
 refine CallA_x (ch119 r1 (fun x hx => by have := hrl.2 x hx; omega) _ _) [6] rfl ⟨_, _, rfl, rfl, rfl⟩ rfl rfl ?_ ?_
 case refine_2 =>
  rintro pv h1 s' ⟨⟨ha, rfl, r2, rfl⟩, rfl⟩
  refine ⟨rfl, ?_⟩
  conv=>whnf
  refine RetA_hand [] [] (chtH c) rfl ⟨rfl, rfl, rfl, trivial⟩ rfl ⟨⟨?_, rfl, rfl⟩, rfl⟩
  rw [hT, ha]
 rintro v h1 s' ⟨⟨a2, b2, r2, ha2, rfl, rfl⟩, rfl⟩
 refine ⟨rfl, ?_⟩
 rw [ha2] at hT
 simp only at hT
 have hrl : r2.length ≤ 4000 ∧ ∀ x ∈ r2, x.size ≤ 4000 := by
  have h0 := pairW_len ha2
  exact ⟨by omega, fun x hx => hrl.2 x (pairW_sub ha2 x hx)⟩
 conv=>whnf
 refine LoopA_p (T := tys) tysOk (by exact drawsB_spec mixed tysOk (by decide +kernel)) (fun x : List ByteArray × List (Int × Int) => ⟨[(0, .ptr 1000000 0), (6, .ptr 6 0), (9, .ptr 9 0)], (6, .box (.dd [wordsD x.1])) :: (9, .box (.vv [.d (.str n), .sl 900001 2 0 x.2.length, .d (i64 a), .d (i64 b), .d (i64 a2), .d (i64 b2)])) :: (900001, .arr 2 (.dd (x.2.map fun q => [i64 q.1, i64 q.2]))) :: chtH c, s'⟩) (fun x => pairsW r2 = (pairsW x.1).map (x.2 ++ ·) ∧ x.1.length + 2 * x.2.length ≤ 4000 ∧ ∀ y ∈ x.1, y.size ≤ 4000) (fun x => x.1.length) (r2, []) ?_ ?_ ?_
 ·exact (Wk.bornAtD 9 900001 2 [.str n] [i64 a, i64 b, i64 a2, i64 b2] rfl rfl rfl rfl rfl).trans (Wk.sub ⟨(by first | rfl | (simp only [List.length_map]; rfl) | simp [PX.get]), (by first | rfl | (simp only [List.length_map]; rfl) | simp [PX.get]), (by first | rfl | (simp only [List.length_map]; rfl) | simp [PX.get]), trivial⟩ ⟨(by first | rfl | (simp only [List.length_map]; rfl) | simp [PX.get]), (by first | rfl | (simp only [List.length_map]; rfl) | simp [PX.get]), (by first | rfl | (simp only [List.length_map]; rfl) | simp [PX.get]), (by first | rfl | (simp only [List.length_map]; rfl) | simp [PX.get]), (by first | rfl | (simp only [List.length_map]; rfl) | simp [PX.get]), (by first | rfl | (simp only [List.length_map]; rfl) | simp [PX.get]), trivial⟩)
 ·exact ⟨by simp, by simpa using hrl.1, hrl.2⟩
 rintro ⟨q, acc⟩ ⟨hq, hql, hqs⟩
 conv=>whnf
 refine brk_i (fun hb => ?_) (fun hb => ?_)
 ·conv=>whnf
  refine RegionA_all mixed tysOk [[], [0], [], [2], [1, 3, 2], [0, 1, 2, 3, 4], [5, 4]] (by decide +kernel) ?_
  have hqn : q ≠ [] := by rintro rfl; simp at hb
  have hqs' : ∀ x ∈ q, x.size ≤ 1000000000 := fun x hx => by have := hqs x hx; omega
  have hpan : pairW q = none → T = none := fun h => by
   have h5 : pairsW r2 = none := by rw [hq]; show (pairsW q).map _ = none; rw [pairsW_step q hqn, h]; rfl
   rw [hT, h5]
  have hql : q.length + 2 * acc.length ≤ 4000 := hql
  conv=>whnf
  repeat' (first
   | (refine And.intro ?_ ?_ <;> conv=>whnf)
   | trivial
   | (refine CallA_x (ch118 q hqs' _ _) [6] rfl ⟨_, _, rfl, rfl, rfl⟩ rfl rfl ?_ ?_)
   | (rintro pv h1 s'' ⟨⟨ha1, rfl, r3, rfl⟩, rfl⟩; refine ⟨rfl, ?_⟩; (conv=>whnf); exact RetA_hand [] [] (chtH c) rfl ⟨rfl, rfl, rfl, trivial⟩ rfl ⟨⟨hpan ha1, rfl, rfl⟩, rfl⟩)
   | (rintro v h1 s'' ⟨⟨a1, b1, q1, ha1, rfl, rfl⟩, rfl⟩; refine ⟨rfl, ?_⟩; conv=>whnf)
   | (refine ownK_whole (by first | rfl | simp [Els.len]) ?_; conv=>whnf)
   | (refine chk_i (decide_eq_true (by show ((acc.map fun q => [i64 q.1, i64 q.2]).length + 1) * 16 ≤ _; rw [List.length_map]; omega)) ?_; conv=>whnf))
  all_goals
   have h0 := pairW_len ha1
   obtain ⟨x1, y1, hq1⟩ := pairW_mem ha1
   refine ⟨(q1, acc ++ [(a1, b1)]), by show q1.length < q.length; omega, ⟨?_, ?_, ?_⟩, ?_⟩
   ·rw [hq]
    show (pairsW q).map _ = _
    rw [hq1, pairsW_step _ (by simp), ← hq1, ha1]
    show ((pairsW q1).map _).map _ = (pairsW q1).map _
    cases pairsW q1 <;> simp
   ·show q1.length + 2 * (acc ++ [(a1, b1)]).length ≤ 4000
    rw [List.length_append, List.length_singleton]
    omega
   ·exact fun y hy => hqs y (pairW_sub ha1 y hy)
   ·exact (Wk.move 71 900001 rfl rfl).trans (Wk.sub ⟨rfl, rfl, rfl, trivial⟩ ⟨rfl, congrArg (fun z : Nat => some (Obj.box (.vv [.d (.str n), .sl 900001 2 0 z, .d (i64 a), .d (i64 b), .d (i64 a2), .d (i64 b2)]))) (by simp [Els.len]), congrArg (fun z => some (Obj.arr 2 (.dd z))) (by simp), rfl, rfl, rfl, trivial⟩)
 ·conv=>whnf
  refine ownK_whole rfl ?_
  conv=>whnf
  refine ownK_whole (by simp [Els.len]) ?_
  conv=>whnf
  refine chk_i (by
   show (true && !nameBL 80 ((injL (c.sands.map Sand.cells) ++ [_]).flatten)) = true
   rw [nameBL_injL]; rfl) ?_
  conv=>whnf
  refine chk_i (decide_eq_true (by show ((c.sands.map Sand.cells).length + 1) * 72 ≤ _; simp only [List.length_map]; omega)) ?_
  conv=>whnf
  refine forceN_to [900001, 80] (by
   show namesOfL ((injL (c.sands.map Sand.cells) ++ [[V.d (.str n), V.sl 900001 2 0 acc.length, V.d (i64 a), V.d (i64 b), V.d (i64 a2), V.d (i64 b2)]]).flatten) ++ ([80] ++ []) = _
   rw [namesOfL_injL]; rfl) ?_
  conv=>whnf
  have hq0 : q = [] := by
   cases q with
   | nil => rfl
   | cons x y => exact absurd hb (by simp)
  have hT : T = some { c with sands := c.sands ++ [⟨n, acc.map fun x => ⟨x.1, x.2⟩, ⟨⟨a, b⟩, ⟨a2, b2⟩⟩⟩] } := by
   rw [hT, hq, hq0]; simp [pairsW]
  refine RetA_wk (l' := []) (h' := [(1000000, .box (.vv [.sl 1000001 4 0 c.marks.length, .sl 80 6 0 (c.sands.length + 1)])), (1000001, .arr 4 (.dd (c.marks.map Mark.cells))), (80, .arr 6 (.dd (c.sands.map Sand.cells ++ [(⟨n, acc.map fun x => ⟨x.1, x.2⟩, ⟨⟨a, b⟩, ⟨a2, b2⟩⟩⟩ : Sand).cells])))]) ((Wk.frzArr 1 [900001] 80 (sz := 6) (vs := injL (c.sands.map Sand.cells) ++ [[.d (.str n), .sl 900001 2 0 acc.length, .d (i64 a), .d (i64 b), .d (i64 a2), .d (i64 b2)]]) (ds := c.sands.map Sand.cells ++ [(⟨n, acc.map fun x => ⟨x.1, x.2⟩, ⟨⟨a, b⟩, ⟨a2, b2⟩⟩⟩ : Sand).cells]) ?_ (viewLL_app (viewLL_one (viewL_app (a := [.str n]) (viewL_cons ?_ rfl))) _)).trans ?_) rfl rfl ?_
  ·rfl
  ·exact viewV_sl' rfl (show _ = (acc.map fun x => (⟨x.1, x.2⟩ : Pt)).map Pt.cells from by simp [Pt.cells]) (by simp)
  ·exact Wk.sub trivial ⟨congrArg (fun z : Nat => some (Obj.box (.vv [.sl 1000001 4 0 c.marks.length, .sl 80 6 0 z]))) (show (Els.dd (c.sands.map Sand.cells)).len + 1 = _ from by simp [Els.len]), rfl, rfl, trivial⟩
  ·exact RetA_hand [80] [] (chtN 1000000 1000001 2000000 { c with sands := c.sands ++ [⟨n, acc.map fun x => ⟨x.1, x.2⟩, ⟨⟨a, b⟩, ⟨a2, b2⟩⟩⟩] }) rfl ⟨congrArg (fun z : Nat => some (Obj.box (.vv [.sl 1000001 4 0 c.marks.length, .sl 80 6 0 z]))) (by simp), rfl, congrArg (fun z => some (Obj.arr 6 (.dd z))) (by simp), trivial⟩ rfl ⟨⟨_, hT, rfl, .inr rfl⟩, rfl⟩
end Go.PX
namespace Go.PX
open Go.RowKit
def CloD (P : Program) (g : FuncId) (u u' : FrameMode) (h h' : Heap) : Prop :=
 ∀ {σ : Type} (cx : Cx σ), LaidCx P cx → ∀ (L : Loc) (F : Nat → Nat) (s : σ) (w : World), HeapOk cx L F h s w →
  CallsDIn Fence.wide 0 P g #[.pointer (some ⟨L.ρ 1000000, 0, none⟩), .pointer (some ⟨L.ρ 1000001, 0, none⟩)] u w fun e u2 w' => (∃ x, e = .returned x) ∧ u2 = u' ∧ ∃ L' F', HeapOk cx L' F' h' s w' ∧ Tr F w F' w' ∧ PinEq L L'
def EndD {σ : Type} (P : Program) (T : Tys) (fn : Func) (g : FuncId) (c e : Nat) (r : D) (s0 : σ) (u : FrameMode) (en : Env) (h : Heap) (s : σ) : Prop :=
 get en c = some (.ptr 1000000 0) ∧ get en e = some (.ptr 1000001 0) ∧ ∃ u' hR, settle u' = .returning ∧ CloD P g u u' h hR ∧
  resK T [(c, .ptr 1000000 0), (e, .ptr 1000001 0)] hR fn.results.toList fun l => RetA l hR s fun v h' s' => v = .d r ∧ h' = [] ∧ s' = s0
section
variable {P : Program} {T : Tys} {σ : Type}
theorem leaves_marks_t {cx : Cx σ} {L : Loc} {F0 : Nat → Nat} {w0 : World} {h : Heap} {s : σ} {fn : Func} {tmps : Array Value} {R : Ending → World → Prop} {ds : List Deferred} {u : FrameMode} (hu : u ≠ .run) : ∀ (m : List Nat) {F : Nat → Nat} {w : World}, HeapOk cx L F h s w → Tr F0 w0 F w →
  (∀ b ∈ m, w.heap[b]? = some (.deferred (some [])) ∧ ¬ cx.C s b) → m.Nodup → (∀ w', HeapOk cx L F h s w' → Tr F w F w' → LeavesInM Fence.wide 0 P fn tmps R ds u w') →
  LeavesInM Fence.wide 0 P fn tmps R (m.map mark ++ ds) u w
 | [], F, w, hh, tr, hm, hn, hR => hR w hh (Tr.refl F w)
 | b :: m, F, w, hh, tr, hm, hn, hR => by
  obtain ⟨hb, hC⟩ := hm b (List.mem_cons_self ..)
  obtain ⟨hh', tr'⟩ := hh.unmark hb hC
  simp only [List.map_cons, List.cons_append, LeavesInM]
  refine ⟨hu, .inl ⟨b, w.putObj b (.deferred none), rfl, ?_, ?_⟩⟩
  ·simp [Instr.takeDeferred, Sem.run_bind, getObj, setObj, Sem.run, hb, Result.andThen, World.putObj]
  ·have hnd := List.nodup_cons.1 hn
   refine leaves_marks_t hu m hh' (Tr.trans tr tr') (fun x hx => ?_) hnd.2 fun w' h1 h2 => hR w' h1 (Tr.trans tr' h2)
   have hxb : x ≠ b := by rintro rfl; exact hnd.1 hx
   refine ⟨?_, (hm x (List.mem_cons_of_mem _ hx)).2⟩
   rw [← (hm x (List.mem_cons_of_mem _ hx)).1]
   simp [World.putObj, Array.getElem?_setIfInBounds_ne (Ne.symm hxb)]
theorem HeapOk.cxs {cx cx' : Cx σ} {L : Loc} {F : Nat → Nat} {h : Heap} {s : σ} {w : World} (hh : HeapOk cx L F h s w) (h1 : cx'.C = cx.C) (h2 : cx'.HG = cx.HG) (h3 : cx'.yv = cx.yv) : HeapOk cx' L F h s w := by
 refine ⟨by rw [h2]; exact hh.hg, fun b hb => hh.csz b (by rw [← h1]; exact hb), hh.fresh, fun id o ho => by rw [h3]; exact hh.obj id o ho, fun id o ho hb => ?_, hh.inj⟩
 rw [h1]; exact hh.own id o ho hb
theorem Handles.same {Y : Hd σ} {cx cx' : Cx σ} (hY : Handles P Y cx) (h1 : cx'.C = cx.C) (h2 : cx'.HG = cx.HG) (h3 : cx'.yv = cx.yv) (p : Value → Env → Heap → σ → Prop) : Handles P { y := Y.y, p := p } cx' := by
 refine ⟨?_, fun s w F h => hY.laid s w F (by rw [← h2]; exact h)⟩
 intro l hl args h s Q hy L' F' vals w hh' hr
 rw [h3] at hl hr
 obtain ⟨fn, tmps, asg, body, e1, e2⟩ := hY.yld l hl args h s Q hy L' F' vals w (hh'.cxs h1.symm h2.symm h3.symm) hr
 refine ⟨fn, tmps, asg, body, e1, e2.mono ?_⟩
 rintro e w' ⟨x, he, v, h', s', L'', F'', hq, hh'', hv, tr, pin, r1, r2, r3⟩
 exact ⟨x, he, v, h', s', L'', F'', hq, hh''.cxs h1 h2 h3, by rw [h3]; exact hv, tr, pin, by rw [h1]; exact r1, by rw [h1]; exact r2, r3⟩
theorem region_m (hT : TysOk P T) {ft : FT} {Y : Hd σ} {cx : Cx σ} {r : Option Nat} {m : List Nat} {L : Loc} {F : Nat → Nat} {a : Act} {w : World} (hY : Handles P Y cx) {id : Nat} {ops : Array Oper} {st : St σ} {K : AExit → St σ → Prop} (h : wpA P T ft Y (.region id ops false) st K) (hg : Good cx r m L F st a w) (hc : codeOk a.tmps.size (.region id ops false) = true) :
  (Code.region id ops false).wpIn (fr r) 0 P (fun ex a' w' => (∃ st' L' F', ex = .normal ∧ K .normal st' ∧ Good cx r m L' F' st' a' w' ∧ Tr F w F' w' ∧ a'.tmps.size = a.tmps.size) ∨ PanicP Y cx r F w a.tmps.size ex a' w') a w := by
 obtain ⟨e, hp, s⟩ := st
 have h : wpOps P T Y ops.toList ops.toList e hp s (fun e h s => forceE (keepT ft.ks e) fun e => K .normal ⟨e, h, s⟩) := h
 refine wpIn_mono (wpIn_region (id := id) (Q := OpsPostP Y cx r m F w a.tmps.size (fun e h s => forceE (keepT ft.ks e) fun e => K .normal ⟨e, h, s⟩)) ?_) fun ex a' w' hq => ?_
 ·have := wpOps_sound hT hY ops.toList 0 (fun j => by simp) hg rfl (opsOk_of hc) (Tr.refl F w) h
  rwa [← List.range_eq_range', Array.length_toList] at this
 ·rcases hq with ⟨e', h', s', L', F', hex, hk, hg', tr, hs⟩ | hp
  ·rw [forceE_eq] at hk
   exact .inl ⟨_, L', F', hex, hk, hg'.sub (sub_keepT ft.ks e') (fun _ _ h => h), tr, hs⟩
  ·exact .inr hp
theorem region_md (hT : TysOk P T) {ft : FT} {Y : Hd σ} {cx : Cx σ} {r : Option Nat} {m : List Nat} {L : Loc} {F : Nat → Nat} {a : Act} {w : World} (hY : Handles P Y cx) {id : Nat} {ops : Array Oper} {rt : RT} (hrt : get ft.tb id = some rt) (hD : drawsOk P T ft (.region id ops true)) {st : St σ} {K : AExit → St σ → Prop} (h : wpA P T ft Y (.region id ops true) st K) (hg : Good cx r m L F st a w) (hc : codeOk a.tmps.size (.region id ops true) = true) :
  (Code.region id ops true).wpIn (fr r) 0 P (fun ex a' w' => ∃ st' L' F', ex = .normal ∧ K .normal st' ∧ Good cx r m L' F' st' a' w' ∧ Tr F w F' w' ∧ a'.tmps.size = a.tmps.size) a w := by
 obtain ⟨e, hp, s⟩ := st
 obtain ⟨made, ots⟩ := rt
 have h : (match get ft.tb id with
  | some ⟨made, ots⟩ => awayK made e hp fun e h => wpD P T made ops.toList (ops.toList.zip ots) [] e h fun e h => forceE (keepT ft.ks e) fun e => K .normal ⟨e, h, s⟩
  | none => RegionA P ft Y id ops ⟨e, hp, s⟩ K) := h
 rw [hrt] at h
 have hdr := hD rfl ⟨made, ots⟩ hrt cx hY.laid r m L F e hp s a w _ hg (opsOk_of hc) h
 refine wpIn_mono (hdr id) fun ex a' w' hq => ?_
 obtain ⟨e', h', s', L', F', hex, ⟨hk, rfl⟩, hg', tr, hs⟩ := hq
 rw [forceE_eq] at hk
 exact ⟨_, L', F', hex, hk, hg'.sub (sub_keepT ft.ks e') (fun _ _ h => h), tr, hs⟩
def noY {σ : Type} : Hd σ := { y := fun _ _ _ _ => False }
theorem handles_no {cx cx' : Cx σ} (hl : LaidCx P cx) (h : cx'.HG = cx.HG) : Handles P (noY (σ := σ)) cx' := ⟨fun _ _ _ _ _ _ hy => hy.elim, fun s w F hh => hl s w F (by rw [← h]; exact hh)⟩
theorem clo_tail (hT : TysOk P T) {ft : FT} {cx : Cx σ} (hl : LaidCx P cx) {L : Loc} {F : Nat → Nat} {s : σ} {w : World} {h h' : Heap} (hh : HeapOk cx L F h s w) {n : Nat} (hn : Nat.ble n 1000000 = true) {v : Value} {d : D} (hd : RepD F w d v) (hone : True) {a : Act} (hsz : a.tmps.size = n) (hdf : a.defers = [])
  (t0 : a.tmps[0]? = some (.pointer (some ⟨L.ρ 1000000, 0, none⟩))) (t1 : a.tmps[1]? = some (.pointer (some ⟨L.ρ 1000001, 0, none⟩))) (t2 : a.tmps[2]? = some v)
  {i1 i2 : Nat} {ops1 ops2 : Array Oper} {cd : Operand} (hc : codeOk n (.seq (.region i1 ops1 false) (.cond cd (.region i2 ops2 true) .skip)) = true) (hD : drawsOk P T ft (.region i2 ops2 true)) {rt : RT} (hrt : get ft.tb i2 = some rt)
  {Q : Exit → Act → World → Prop} (hQ : ∀ a' w' L' F', a'.defers = [] → HeapOk cx L' F' h' s w' → Tr F w F' w' → PinEq L L' → Q .normal a' w')
  (hw : wpA P T ft noY (.region i1 ops1 false) ⟨[(0, .ptr 1000000 0), (1, .ptr 1000001 0), (2, .d d)], h, s⟩ fun _ st1 => condK (opnd st1.env cd) (wpA P T ft noY (.region i2 ops2 true) st1 fun _ st2 => SubT h' st2.heap ∧ st2.s = s) (SubT h' st1.heap ∧ st1.s = s)) :
  (Code.seq (.region i1 ops1 false) (.cond cd (.region i2 ops2 true) .skip)).wpIn Fence.wide 0 P Q a w := by
 obtain ⟨cx1, hcx1⟩ : ∃ cx1 : Cx σ, cx1 = { cx with pρ := L.ρ, pκ := L.κ, base := [] } := ⟨_, rfl⟩
 have f1 : cx1.C = cx.C := by rw [hcx1]
 have f2 : cx1.HG = cx.HG := by rw [hcx1]
 have f3 : cx1.yv = cx.yv := by rw [hcx1]
 have hY : Handles P noY cx1 := handles_no hl f2
 have hn := Nat.le_of_ble_eq_true hn
 simp only [codeOk, Bool.and_eq_true] at hc
 obtain ⟨hc1, hc2, _⟩ := hc
 have hg : Good cx1 none [] L F ⟨[(0, .ptr 1000000 0), (1, .ptr 1000001 0), (2, .d d)], h, s⟩ a w := by
  refine ⟨hh.cxs f1 f2 f3, fun k u hk => ?_, by rw [hdf, hcx1]; rfl, (fun b hb => by cases hb), List.nodup_nil, (fun l hl => by cases hl), fun i hi => by rw [hcx1]; exact ⟨rfl, rfl⟩, by omega⟩
  simp only [get] at hk
  split at hk
  ·rename_i h0; have := (Nat.eq_of_beq_eq_true h0).symm; subst this; cases hk
   exact ⟨_, t0, rfl⟩
  ·split at hk
   ·rename_i h0; have := (Nat.eq_of_beq_eq_true h0).symm; subst this; cases hk
    exact ⟨_, t1, rfl⟩
   ·split at hk
    ·rename_i h0; have := (Nat.eq_of_beq_eq_true h0).symm; subst this; cases hk
     exact ⟨_, t2, hd⟩
    ·cases hk
 have fin : ∀ {st' : St σ} {L' : Loc} {F' : Nat → Nat} {a' : Act} {w' : World}, SubT h' st'.heap ∧ st'.s = s → Good cx1 none [] L' F' st' a' w' → Tr F w F' w' → Q .normal a' w' := by
  rintro ⟨e', hp', s'⟩ L' F' a' w' ⟨hs1, hs2⟩ hg' tr
  have hs2 : s' = s := hs2
  subst hs2
  have hg2 := hg'.sub (e := []) (h := h') (fun k u hk => by cases hk) hs1
  refine hQ a' w' L' F' (by have := hg'.dfr; rw [hcx1] at this; exact this) (hg2.heap.cxs f1.symm f2.symm f3.symm) tr fun i hi => ?_
  have := hg'.pin i hi
  rw [hcx1] at this
  exact this
 refine wpIn_seq (wpIn_mono (region_m hT hY hw hg (by rw [hsz]; simpa [codeOk] using hc1)) fun ex a1 w1 hq => ?_)
 rcases hq with ⟨st1, L1, F1, rfl, hw1, hg1, tr1, hs1⟩ | ⟨v, e', h', s', m', L', F', _, hy, _⟩
 case inr => exact hy.elim
 obtain ⟨en1, hp1, s1⟩ := st1
 unfold condK at hw1
 split at hw1
 case h_2 => exact hw1.elim
 rename_i tb htb
 have hev : a1.eval cd = .bool tb := hg1.opnd htb
 rcases brk_t hw1 with ⟨rfl, hw3⟩ | ⟨rfl, hw3⟩
 ·refine wpIn_cond hev (wpIn_mono (region_md hT hY hrt hD hw3 hg1 (by rw [hs1, hsz]; simpa [codeOk] using hc2)) fun ex a2 w2 hq => ?_)
  obtain ⟨st2, L2, F2, rfl, hk, hg2, tr2, _⟩ := hq
  exact fin hk hg2 (Tr.trans tr1 tr2)
 ·exact wpIn_cond hev (wpIn_skip (fin hw3 hg1 tr1))
theorem CloD.sub {g : FuncId} {u u' : FrameMode} {h0 h h' : Heap} (hc : CloD P g u u' h0 h') (hs : subHeap h h0) : CloD P g u u' h h' := by
 intro σ cx hl L F s w hh
 exact hc cx hl L F s w ⟨hh.hg, hh.csz, hh.fresh, fun i o hi => hh.obj i o (subHeap_t hs i o hi), fun i o hi hb => hh.own i o (subHeap_t hs i o hi) hb, fun i j o p hi hj hbi hbj => hh.inj i j o p (subHeap_t hs i o hi) (subHeap_t hs j p hj) hbi hbj⟩
theorem get_app {α : Type} : ∀ (A B : Tab α) (k : Nat), get (A ++ B) k = match get A k with
  | some v => some v
  | none => get B k
 | [], B, k => rfl
 | (j, v) :: A, B, k => by
  show (match Nat.beq j k with | true => some v | false => get (A ++ B) k) = _
  rw [get_app A B k]
  simp only [get]
  cases Nat.beq j k <;> rfl
theorem get_enterD {ds : List D} {i k : Nat} {v : V} (h : get (enterE i (inj ds)) k = some v) : ∃ d, v = .d d := by
 obtain ⟨j, _, hj⟩ := get_enter h
 have : ∀ (l : List D) (j : Nat) (v : V), (inj l)[j]? = some v → ∃ d, v = .d d := by
  intro l
  induction l with
  | nil => intro j v h; cases h
  | cons a r ih =>
   intro j v h
   cases j with
   | zero => cases h; exact ⟨a, rfl⟩
   | succ j => exact ih j v h
 exact this ds j v hj
def EndR (P : Program) (cx : Cx σ) (L : Loc) (F : Nat → Nat) (w : World) (r : D) (s : σ) : Ending → World → Prop := fun e w' =>
 ∃ x, e = .returned x ∧ ∃ v h' s' L' F', ((v = .d r ∧ h' = []) ∧ s' = s) ∧ HeapOk cx L' F' h' s' w' ∧ RepV cx.yv L' F' w' v x ∧ Tr F w F' w' ∧ PinEq L L'
theorem EndR.of {cx : Cx σ} {L L0 : Loc} {F F2 : Nat → Nat} {w w2 : World} {r : D} {s : σ} {x : Value} (hh : HeapOk cx L0 F2 [] s w2) (hv : RepD F2 w2 r x) (tr : Tr F w F2 w2) : EndR P cx L F w r s (.returned x) w2 :=
 ⟨x, rfl, .d r, [], s, L, F2, ⟨⟨rfl, rfl⟩, rfl⟩, ⟨hh.hg, hh.csz, hh.fresh, (fun id o h => by cases h), (fun id o h => by cases h), (fun i j o p h => by cases h)⟩, hv, tr, fun _ _ => ⟨rfl, rfl⟩⟩
theorem fnV_defer (hm : P.follows .mixedOrders = true) (hT : TysOk P T) {f g : FuncId} {fn : Func} {idA idB idD : Nat} {opsA opsB opsD : Array Oper} {cd : Operand} {B C : Code} {ft : FT} {ds : List D} {r : D} (c e t : Nat) {lc le : List D}
  (hf : P.funcs[f]? = some fn)
  (hb : fn.body = some (.seq (.region idA opsA false) (.seq (.seq (.region idB opsB false) (.cond cd B .skip)) (.seq (.region idD opsD false) C))))
  (hok : fnB ft fn ds.length = true) (hce : c ≠ e) (hct : c ≠ t) (het : e ≠ t) (hAt : get (enterE 0 (inj ds)) t = none) (hAc : get (enterE 0 (inj ds)) c = none) (hAe : get (enterE 0 (inj ds)) e = none)
  (hdef : ∀ (a : Act) (w : World) (p q : Value) (Q : Exit → Act → World → Prop), a.tmps[c]? = some p → a.tmps[e]? = some q → a.tmps.size = fn.ntmps → Q .normal { tmps := a.tmps.setIfInBounds t (.func (.func g) #[] #[p, q]), defers := { target := .fn (.func g) #[p, q], args := #[] } :: a.defers } w → (Code.region idD opsD false).wpIn Fence.wide 0 P Q a w)
  (hinv : ∀ (p q : Value) (w : World), (invoke (.fn (.func g) #[p, q]) #[]).run P w = .ok (.enter g #[p, q]) w)
  (hA : ∀ {σ : Type} (Y : Hd σ) (s : σ), wpA P T ft Y.np (.region idA opsA false) ⟨enterE 0 (inj ds), [], s⟩ fun _ st1 => wpA P T ft Y.np (.region idB opsB false) st1 fun _ st2 =>
   condK (opnd st2.env cd) (wpA P T ft Y.np B st2 fun ex st3 => ex = .ret ∧ fnK T fn.results.toList (fun v h' s' => (v = .d r ∧ h' = []) ∧ s' = s) .ret st3)
    (Wk st2 ⟨enterE 0 (inj ds) ++ [(c, .ptr c 0), (e, .ptr e 0)], [(c, .box (.dd lc)), (e, .box (.dd le))], s⟩ ∧
     wpA P T ft { y := Y.y, p := fun pv en h s' => EndD P T fn g c e r s (.panicking [{ v := pv, recovered := false }]) en h s' } C ⟨enterE 0 (inj ds) ++ [(c, .ptr 1000000 0), (e, .ptr 1000001 0)], [(1000000, .box (.dd lc)), (1000001, .box (.dd le))], s⟩
      fun ex st3 => (ex = .normal ∨ ex = .ret) ∧ EndD P T fn g c e r s .returning st3.env st3.heap st3.s)) : FnV P f ds r := by
 intro σ Y s
 unfold fnB at hok
 rw [hb] at hok
 simp only [Bool.and_eq_true, bne_iff_ne, ne_eq] at hok
 obtain ⟨⟨⟨⟨hcode, hdraws⟩, hnt⟩, hname⟩, hlen⟩ := hok
 have hnt := Nat.le_of_ble_eq_true hnt
 have hlen := Nat.le_of_ble_eq_true hlen
 refine ⟨fun vs w => by simp [callFunc, hf, hname, hb, Go.mark], fun cx hY L F vals w hh hr => ?_⟩
 have hvl : vals.size = ds.length := by
  have := hr.length
  rw [inj_length] at this
  simpa using this
 have hsz : (vals ++ Array.replicate (fn.ntmps - vals.size) undef).size = fn.ntmps := by simp; omega
 refine callsIn_of_wp_marks hf hb trivial ?_
 have hdr := drawsB_spec (P := P) hm hT hdraws
 obtain ⟨hdA, ⟨hdB, hdB2, _⟩, hdD, hdC⟩ := hdr
 simp only [codeOk, Bool.and_eq_true] at hcode
 obtain ⟨hcA, ⟨hcB, hcB2, _⟩, hcD, hcC⟩ := hcode
 have hg : Good { cx with pρ := L.ρ, pκ := L.κ, base := [] } none [] L F ⟨enterE 0 (inj ds), [], s⟩ { tmps := vals ++ Array.replicate (fn.ntmps - vals.size) undef, defers := [] } w := by
  refine ⟨⟨hh.hg, hh.csz, hh.fresh, hh.obj, hh.own, hh.inj⟩, fun t v ht => ?_, rfl, (fun b hb => by cases hb), List.nodup_nil, (fun l hl => by cases hl), fun _ _ => ⟨rfl, rfl⟩, by rw [hsz]; exact hnt⟩
  obtain ⟨k, hk, hv⟩ := get_enter ht
  rw [Nat.zero_add] at hk; subst hk
  obtain ⟨x, hx, hrx⟩ := hr.get t hv
  refine ⟨x, ?_, hrx⟩
  have hlt : t < vals.size := by
   have := (List.getElem?_eq_some_iff.1 hx).1
   simpa using this
  rw [Array.getElem?_append_left hlt]
  simpa using hx
 generalize hcx0 : ({ cx with pρ := L.ρ, pκ := L.κ, base := [] } : Cx σ) = cx0 at hg
 have e1 : cx0.C = cx.C := by rw [← hcx0]
 have e2 : cx0.HG = cx.HG := by rw [← hcx0]
 have e3 : cx0.yv = cx.yv := by rw [← hcx0]
 have e4 : cx0.base = [] := by rw [← hcx0]
 have hY0 : Handles P Y.np cx0 := hY.same e1 e2 e3 _
 have hwA := hA Y s
 show (Code.seq _ _).wpIn Fence.wide 0 P (bodyPostM Fence.wide 0 P fn (EndR P cx L F w r s)) _ w
 generalize ha0 : ({ tmps := vals ++ Array.replicate (fn.ntmps - vals.size) undef, defers := [] } : Act) = a0 at hg
 have hs0 : a0.tmps.size = fn.ntmps := by rw [← ha0]; exact hsz
 refine wpIn_seq (wpIn_mono (region_m hT hY0 hwA hg (by rw [hs0]; simpa [codeOk] using hcA)) fun ex a1 w1 hq => ?_)
 rcases hq with ⟨st1, L1, F1, rfl, hw1, hg1, tr1, hs1⟩ | ⟨v, e', h', s', m', L', F', _, hy, _⟩
 case inr => exact hy.elim
 refine wpIn_seq (wpIn_seq (wpIn_mono (region_m hT hY0 hw1 hg1 (by rw [hs1, hs0]; simpa [codeOk] using hcB)) fun ex a2 w2 hq => ?_))
 rcases hq with ⟨st2, L2, F2, rfl, hw2, hg2, tr2, hs2⟩ | ⟨v, e', h', s', m', L', F', _, hy, _⟩
 case inr => exact hy.elim
 have tr02 := Tr.trans tr1 tr2
 have hs02 : a2.tmps.size = fn.ntmps := by rw [hs2, hs1, hs0]
 obtain ⟨en2, hp2, s2⟩ := st2
 unfold condK at hw2
 split at hw2
 case h_2 => exact hw2.elim
 rename_i tb htb
 have hev : a2.eval cd = .bool tb := hg2.opnd htb
 rcases brk_t hw2 with ⟨rfl, hw2⟩ | ⟨rfl, hw2⟩
 ·-- the early end
  refine wpIn_cond hev ?_
  refine wpIn_mono (wpA_sound hT B hdB2 _ _ hw2 cx0 hY0 none [] L2 F2 a2 w2 hg2 (by rw [hs02]; exact hcB2)) fun ex a' w' hq => ?_
  rcases hq with ⟨e', st', m', L', F', rfl, ⟨rfl, hk⟩, hg', tr, hs⟩ | ⟨v, e', h', s', m', L', F', _, hy, _⟩
  case inr => exact hy.elim
  show LeavesInM Fence.wide 0 P fn a'.tmps _ a'.defers .returning w'
  rw [hg'.dfr, e4, List.append_nil]
  refine leaves_marks m' hg'.heap (Tr.trans tr02 tr) hg'.mks hg'.mnd fun w'' hh'' tr'' => ?_
  obtain ⟨en1, h1, s1⟩ := st'
  have hk : resK T en1 h1 fn.results.toList fun l => RetA l h1 s1 _ := hk
  obtain ⟨l, ⟨hret⟩, hrun⟩ := resK_t (P := P) hT hk
  have hg'' : Good { cx0 with base := [] } none [] L' F' ⟨en1, h1, s1⟩ { a' with defers := [] } w'' := by
   refine ⟨hh''.cxs rfl rfl rfl, fun t v ht => ?_, rfl, (fun b hb => by cases hb), List.nodup_nil, (fun l hl => by cases hl), hg'.pin, hg'.tsz⟩
   obtain ⟨x, hx, hrx⟩ := hg'.env t v ht
   exact ⟨x, hx, RepV.mono tr'' v x (fun _ _ => ⟨rfl, rfl⟩) hrx⟩
  obtain ⟨vals', hres, hrep⟩ := hrun hg''
  obtain ⟨v, h', L3, F3, ⟨⟨rfl, rfl⟩, rfl⟩, hh2, hr2, tr3, pin2⟩ := hret cx L' F' vals' w'' (hh''.cxs e1.symm e2.symm e3.symm) (by rw [← e3]; exact hrep)
  exact ⟨_, run_results hres, EndR.of hh2 hr2 (Tr.trans tr02 (Tr.trans tr (Tr.trans tr'' tr3)))⟩
 ·-- the closure is deferred
  obtain ⟨hwk, hwC⟩ := hw2
  refine wpIn_cond hev (wpIn_skip ?_)
  obtain ⟨L3, F3, hg3, tr3⟩ := hwk cx0 none [] L2 F2 a2 w2 hg2
  have tr03 := Tr.trans tr02 tr3
  have gc : get (enterE 0 (inj ds) ++ [(c, V.ptr c 0), (e, V.ptr e 0)]) c = some (.ptr c 0) := by rw [get_app, hAc]; simp [get]
  have ge : get (enterE 0 (inj ds) ++ [(c, V.ptr c 0), (e, V.ptr e 0)]) e = some (.ptr e 0) := by
   rw [get_app, hAe]
   have : Nat.beq c e = false := by rw [Bool.eq_false_iff]; intro h; exact hce (Nat.eq_of_beq_eq_true h)
   simp [get, this]
  obtain ⟨p, hp, rp⟩ := hg3.env c _ gc
  obtain ⟨q, hq, rq⟩ := hg3.env e _ ge
  have rp : p = .pointer (some ⟨L3.ρ c, 0, none⟩) := rp
  have rq : q = .pointer (some ⟨L3.ρ e, 0, none⟩) := rq
  refine wpIn_seq (hdef a2 w2 p q _ hp hq hs02 ?_)
  have hde : a2.defers = [] := by have := hg3.dfr; rw [e4] at this; simpa using this
  rw [hde]
  obtain ⟨L4, hL4⟩ : ∃ L4 : Loc, L4 = ⟨fun k => if k = 1000000 then L3.ρ c else if k = 1000001 then L3.ρ e else L3.ρ k, fun k => if k = 1000000 then L3.κ c else if k = 1000001 then L3.κ e else L3.κ k⟩ := ⟨_, rfl⟩
  have r0 : L4.ρ 1000000 = L3.ρ c := by rw [hL4]; rfl
  have r1 : L4.ρ 1000001 = L3.ρ e := by rw [hL4]; rfl
  obtain ⟨d, hd⟩ : ∃ d : Deferred, d = { target := .fn (.func g) #[p, q], args := #[] } := ⟨_, rfl⟩
  rw [← hd]
  obtain ⟨cx1, hcx1⟩ : ∃ cx1 : Cx σ, cx1 = { cx0 with pρ := L4.ρ, pκ := L4.κ, base := [d] } := ⟨_, rfl⟩
  have f1 : cx1.C = cx.C := by rw [hcx1]; exact e1
  have f2 : cx1.HG = cx.HG := by rw [hcx1]; exact e2
  have f3 : cx1.yv = cx.yv := by rw [hcx1]; exact e3
  have hbc := hg3.heap.obj c (.box (.dd lc)) (by simp [get])
  have hbe := hg3.heap.obj e (.box (.dd le)) (by
   have : Nat.beq c e = false := by rw [Bool.eq_false_iff]; intro h; exact hce (Nat.eq_of_beq_eq_true h)
   simp [get, this])
  have hoc := hg3.heap.own c (.box (.dd lc)) (by simp [get]) trivial
  have hoe := hg3.heap.own e (.box (.dd le)) (by
   have : Nat.beq c e = false := by rw [Bool.eq_false_iff]; intro h; exact hce (Nat.eq_of_beq_eq_true h)
   simp [get, this]) trivial
  have hne : L3.ρ c ≠ L3.ρ e := fun h => hce (hg3.heap.inj c e (.box (.dd lc)) (.box (.dd le)) (by simp [get]) (by
   have : Nat.beq c e = false := by rw [Bool.eq_false_iff]; intro h; exact hce (Nat.eq_of_beq_eq_true h)
   simp [get, this]) trivial trivial h)
  have key : ∀ i o, get [(1000000, Obj.box (.dd lc)), (1000001, Obj.box (.dd le))] i = some o → (i = 1000000 ∧ o = .box (.dd lc)) ∨ (i = 1000001 ∧ o = .box (.dd le)) := by
   intro i o hi
   simp only [get] at hi
   split at hi
   ·rename_i h; cases hi; exact .inl ⟨(Nat.eq_of_beq_eq_true h).symm, rfl⟩
   ·split at hi
    ·rename_i h; cases hi; exact .inr ⟨(Nat.eq_of_beq_eq_true h).symm, rfl⟩
    ·cases hi
  have hg4 : Good cx1 none [] L4 F3 ⟨enterE 0 (inj ds) ++ [(c, .ptr 1000000 0), (e, .ptr 1000001 0)], [(1000000, .box (.dd lc)), (1000001, .box (.dd le))], s⟩ { tmps := a2.tmps.setIfInBounds t (.func (.func g) #[] #[p, q]), defers := [d] } w2 := by
   refine ⟨⟨by rw [f2, ← e2]; exact hg3.heap.hg, fun b hb => hg3.heap.csz b (by rw [e1, ← f1]; exact hb), hg3.heap.fresh, fun i o hi => ?_, fun i o hi hbk => ?_, fun i j o o' hi hj hbi hbj he => ?_⟩, fun k v hk => ?_, by rw [hcx1]; rfl, (fun b hb => by cases hb), List.nodup_nil, (fun l hl => by cases hl), fun i hi => by rw [hcx1]; exact ⟨rfl, rfl⟩, by rw [Array.size_setIfInBounds]; exact hg3.tsz⟩
   ·rcases key i o hi with ⟨rfl, rfl⟩ | ⟨rfl, rfl⟩
    ·obtain ⟨cs, TT, h1, h2⟩ := hbc
     exact ⟨cs, TT, by rw [r0]; exact h1, RepVL.inj.2 (RepVL.inj.1 h2)⟩
    ·obtain ⟨cs, TT, h1, h2⟩ := hbe
     exact ⟨cs, TT, by rw [r1]; exact h1, RepVL.inj.2 (RepVL.inj.1 h2)⟩
   ·rw [f1, ← e1]
    rcases key i o hi with ⟨rfl, rfl⟩ | ⟨rfl, rfl⟩
    ·rw [r0]; exact hoc
    ·rw [r1]; exact hoe
   ·rcases key i o hi with ⟨rfl, rfl⟩ | ⟨rfl, rfl⟩ <;> rcases key j o' hj with ⟨rfl, rfl⟩ | ⟨rfl, rfl⟩
    ·rfl
    ·rw [r0, r1] at he; exact absurd he hne
    ·rw [r0, r1] at he; exact absurd he.symm hne
    ·rfl
   ·rw [get_app] at hk
    have hset : ∀ k, k ≠ t → (a2.tmps.setIfInBounds t (.func (.func g) #[] #[p, q]))[k]? = a2.tmps[k]? := fun k hkt => Array.getElem?_setIfInBounds_ne (Ne.symm hkt)
    split at hk
    ·rename_i u hu
     cases hk
     obtain ⟨dd, rfl⟩ := get_enterD hu
     obtain ⟨x, hx, hrx⟩ := hg3.env k (.d dd) (by rw [get_app, hu])
     refine ⟨x, ?_, hrx⟩
     show (a2.tmps.setIfInBounds t _)[k]? = _
     rw [hset k (by rintro rfl; rw [hAt] at hu; cases hu)]
     exact hx
    ·simp only [get] at hk
     split at hk
     ·rename_i h
      have := (Nat.eq_of_beq_eq_true h).symm; subst this
      cases hk
      refine ⟨p, ?_, ?_⟩
      ·show (a2.tmps.setIfInBounds t _)[k]? = _
       rw [hset k hct]; exact hp
      ·show p = _
       rw [rp, r0]
     ·split at hk
      ·rename_i h
       have := (Nat.eq_of_beq_eq_true h).symm; subst this
       cases hk
       refine ⟨q, ?_, ?_⟩
       ·show (a2.tmps.setIfInBounds t _)[k]? = _
        rw [hset k het]; exact hq
       ·show q = _
        rw [rq, r1]
      ·cases hk
  have hY1 : Handles P { y := Y.y, p := fun pv en h s' => EndD P T fn g c e r s (.panicking [{ v := pv, recovered := false }]) en h s' } cx1 := hY.same f1 f2 f3 _
  have hfin : ∀ {u : FrameMode} {st' : St σ} {m' : List Nat} {L' : Loc} {F' : Nat → Nat} {a' : Act} {w' : World}, u ≠ .run → EndD P T fn g c e r s u st'.env st'.heap st'.s → Good cx1 none m' L' F' st' a' w' → Tr F3 w2 F' w' → LeavesInM Fence.wide 0 P fn a'.tmps (EndR P cx L F w r s) a'.defers u w' := by
   rintro u st' m' L' F' a' w' hu ⟨ec, ee, u', hR, hset, hclo, hres⟩ hg' tr
   have hbs : cx1.base = [d] := by rw [hcx1]
   rw [hg'.dfr, hbs]
   refine leaves_marks_t hu m' hg'.heap (Tr.trans tr03 tr) hg'.mks hg'.mnd fun w'' hh'' tr'' => ?_
   have p0 : L'.ρ 1000000 = L3.ρ c := by
    have := (hg'.pin 1000000 (by unfold pinned; omega)).1
    rw [hcx1] at this
    exact this.trans r0
   have p1 : L'.ρ 1000001 = L3.ρ e := by
    have := (hg'.pin 1000001 (by unfold pinned; omega)).1
    rw [hcx1] at this
    exact this.trans r1
   refine ⟨hu, .inr ⟨by simp [Fence.wide], .func g, #[p, q], g, #[p, q], by rw [hd], ?_, fun _ _ => trivial, ?_⟩⟩
   ·rw [hd]; exact hinv p q w''
   have hlaid : LaidCx P cx1 := hY1.laid
   have hcall := hclo cx1 hlaid L' F' st'.s w'' hh''
   rw [p0, p1, ← rp, ← rq] at hcall
   refine hcall.mono ?_
   rintro en u2 w3 ⟨⟨x, rfl⟩, rfl, L5, F5, hh5, tr5, pin5⟩
   show LeavesInM Fence.wide 0 P fn a'.tmps _ [] (settle u2) w3
   rw [hset]
   simp only [LeavesInM, LeavesIn]
   obtain ⟨l, ⟨hret⟩, hrun⟩ := resK_t (P := P) hT hres
   have hg5 : Good { cx1 with pρ := L5.ρ, pκ := L5.κ, base := [] } none [] L5 F5 ⟨[(c, .ptr 1000000 0), (e, .ptr 1000001 0)], hR, st'.s⟩ { a' with defers := [] } w3 := by
    refine ⟨hh5.cxs rfl rfl rfl, fun k v hk => ?_, rfl, (fun b hb => by cases hb), List.nodup_nil, (fun l hl => by cases hl), fun _ _ => ⟨rfl, rfl⟩, hg'.tsz⟩
    simp only [get] at hk
    split at hk
    ·rename_i h
     have := (Nat.eq_of_beq_eq_true h).symm; subst this
     cases hk
     obtain ⟨x, hx, hrx⟩ := hg'.env _ _ ec
     refine ⟨x, hx, ?_⟩
     have hrx : x = .pointer (some ⟨L'.ρ 1000000, 0, none⟩) := hrx
     show x = _
     rw [hrx, (pin5 1000000 (by unfold pinned; omega)).1]
    ·split at hk
     ·rename_i h
      have := (Nat.eq_of_beq_eq_true h).symm; subst this
      cases hk
      obtain ⟨x, hx, hrx⟩ := hg'.env _ _ ee
      refine ⟨x, hx, ?_⟩
      have hrx : x = .pointer (some ⟨L'.ρ 1000001, 0, none⟩) := hrx
      show x = _
      rw [hrx, (pin5 1000001 (by unfold pinned; omega)).1]
     ·cases hk
   obtain ⟨vals', hres', hrep⟩ := hrun hg5
   obtain ⟨v, h', L6, F6, ⟨rfl, rfl, hss⟩, hh6, hr6, tr6, _⟩ := hret cx L5 F5 vals' w3 (hh5.cxs f1.symm f2.symm f3.symm) (by rw [← f3]; exact hrep)
   refine ⟨_, run_results hres', ?_⟩
   rw [hss] at hh6
   exact EndR.of hh6 hr6 (Tr.trans tr03 (Tr.trans tr (Tr.trans tr'' (Tr.trans tr5 tr6))))
  refine wpIn_mono (wpA_sound hT C hdC _ _ hwC cx1 hY1 none [] L4 F3 _ w2 hg4 (by simp only [Array.size_setIfInBounds]; rw [hs02]; exact hcC)) fun ex a' w' hq => ?_
  rcases hq with ⟨e', st', m', L', F', rfl, ⟨he, hk⟩, hg', tr, hs⟩ | ⟨pv, e', h', s', m', L', F', rfl, hy, hg', tr, hs⟩
  ·rcases he with rfl | rfl
   ·exact hfin (by simp) hk hg' tr
   ·exact hfin (by simp) hk hg' tr
  ·exact hfin (st' := ⟨e', h', s'⟩) (by simp) hy hg' tr
end
end Go.PX
namespace Go.PX
open Go.Proofs
open Go.RowKit
theorem res88 (l : Array Value) (w : World) : (results Tryz.f88 l).run Tryz.prog w = .ok (.tuple #[]) w := by
 have h : (([] : List ResultVar).mapM (resOne l)).run Tryz.prog w = .ok [] w := by simp
 exact run_results (fn := Tryz.f88) h
theorem clo88_idle (h : Heap) : CloD Tryz.prog 88 .returning .returning h h := by
 intro σ cx hl L F s w hh
 refine callsDIn_of_wpSIn Tryz.func88 rfl trivial fun c₀ cs hu => ?_
 apply wpSIn_seq
 apply wpSIn_region
 simp [wpOpsSIn, go_sem, recoverD, hu, Exit.thenS]
 refine wpSIn_of_wpIn rfl ?_
 refine clo_tail tysOk (ft := ft88) hl hh (n := 9) rfl (v := .nilIface) (d := .nili) rfl trivial (by simp) rfl (by rfl) (by rfl) (by rfl) (by decide +kernel) (by exact (drawsB_spec mixed tysOk (by decide +kernel))) rfl (h' := h) ?_ ?_
 ·intro a' w' L' F' hdf hh' tr pin
  refine ⟨hdf, .returning, by cases c₀; simp_all, .tuple #[], res88 _ _, ⟨⟨_, rfl⟩, rfl, L', F', hh', tr, pin⟩⟩
 ·conv=>whnf
  exact ⟨fun _ _ h => h, rfl⟩
theorem clo88_pan (i j n m : Nat) : CloD Tryz.prog 88 (.panicking [{ v := pan6, recovered := false }]) (.panicking [{ v := pan6, recovered := true }]) [(1000000, .box (.vv [.sl i 4 0 n, .sl j 6 0 m])), (1000001, .box (.dd [i64 0]))] [(1000000, .box (.vv [.d .nils, .d .nils])), (1000001, .box (.dd [i64 6]))] := by
 intro σ cx hl L F s w hh
 refine callsDIn_of_wpSIn Tryz.func88 rfl trivial fun c₀ cs hu => ?_
 apply wpSIn_seq
 apply wpSIn_region
 simp [wpOpsSIn, go_sem, recoverD, hu, Exit.thenS]
 refine wpSIn_of_wpIn rfl ?_
 refine clo_tail tysOk (ft := ft88) hl hh (n := 9) rfl (v := pan6) (d := .ifc 28 (i64 6)) ⟨_, rfl, rfl⟩ trivial (by simp) rfl (by rfl) (by rfl) (by rfl) (by decide +kernel) (by exact (drawsB_spec mixed tysOk (by decide +kernel))) rfl (h' := [(1000000, .box (.vv [.d .nils, .d .nils])), (1000001, .box (.dd [i64 6]))]) ?_ ?_
 ·intro a' w' L' F' hdf hh' tr pin
  refine ⟨hdf, .panicking [{ v := pan6, recovered := true }], rfl, .tuple #[], res88 _ _, ⟨⟨_, rfl⟩, rfl, L', F', hh', tr, pin⟩⟩
 ·conv=>whnf
  exact ⟨subHeap_t ⟨rfl, rfl, trivial⟩, rfl⟩
end Go.PX
namespace Go.PX
open Go.Proofs
open Go.RowKit
def readN : Nat → Cht → List UInt8 → Option Cht
 | 0, c, _ => some c
 | n + 1, c, l => if l = [] then some c else
  if (cut1 10 l).2.2 then
   match takeF c ⟨(cut1 10 l).1.toArray⟩ with
   | some c' => readN n c' (cut1 10 l).2.1
   | none => none
  else none
def chtO : Cht := ⟨[], []⟩
def readX (s : ByteArray) : Cht × Int :=
 if 4000 < s.size then (chtO, 3) else
 match readN s.size chtO s.data.toList with
 | some c => if (checkX c).2.2 = 0 ∧ chtT c = s then (c, 0) else (chtO, 6)
 | none => (chtO, 6)
theorem cut1_len (c : UInt8) : ∀ l : List UInt8, (cut1 c l).1.length + (cut1 c l).2.1.length ≤ l.length ∧ (l ≠ [] → (cut1 c l).2.1.length < l.length)
 | [] => by simp [cut1]
 | x :: r => by
  have ih := cut1_len c r
  rw [cut1]
  split
  ·simp
  ·simp only [List.length_cons]
   refine ⟨by omega, fun _ => ?_⟩
   omega
theorem readN_fuel : ∀ (n m : Nat) (c : Cht) (l : List UInt8), l.length ≤ n → l.length ≤ m → readN n c l = readN m c l
 | 0, 0, _, _, _, _ => rfl
 | 0, m + 1, c, l, hn, _ => by
  have : l = [] := List.length_eq_zero_iff.1 (by omega)
  rw [readN, readN, if_pos this]
 | n + 1, 0, c, l, _, hm => by
  have : l = [] := List.length_eq_zero_iff.1 (by omega)
  rw [readN, readN, if_pos this]
 | n + 1, m + 1, c, l, hn, hm => by
  rw [readN, readN]
  by_cases h : l = []
  ·rw [if_pos h, if_pos h]
  ·rw [if_neg h, if_neg h]
   have := (cut1_len 10 l).2 h
   split
   ·cases takeF c ⟨(cut1 10 l).1.toArray⟩ with
    | none => rfl
    | some c' => exact readN_fuel n m c' _ (by omega) (by omega)
   ·rfl
def readL (c : Cht) (l : List UInt8) : Option Cht := readN l.length c l
theorem readL_eq (c : Cht) (l : List UInt8) : readL c l = if l = [] then some c else
  if (cut1 10 l).2.2 then
   match takeF c ⟨(cut1 10 l).1.toArray⟩ with
   | some c' => readL c' (cut1 10 l).2.1
   | none => none
  else none := by
 unfold readL
 by_cases h : l = []
 ·subst h; rfl
 ·obtain ⟨x, r, rfl⟩ := List.exists_cons_of_ne_nil h
  rw [if_neg h]
  have hl := (cut1_len 10 (x :: r)).2 h
  show readN (r.length + 1) c (x :: r) = _
  rw [readN, if_neg h]
  split
  ·cases takeF c ⟨(cut1 10 (x :: r)).1.toArray⟩ with
   | none => rfl
   | some c' => exact readN_fuel _ _ c' _ (by simp at hl; omega) (Nat.le_refl _)
  ·rfl
def failD (e : Int) : D := .tup [.agg [.nils, .nils], i64 e]
theorem ch89L (l : List UInt8) (c : UInt8) (hs : l.length ≤ 1000000000) : FnV Tryz.prog 89 [.str ⟨l.toArray⟩, .str ⟨#[c]⟩] (.tup [.str ⟨(cut1 c l).1.toArray⟩, .str ⟨(cut1 c l).2.1.toArray⟩, .bool (cut1 c l).2.2]) := by
 have h := @ch89 ⟨l.toArray⟩ c (by show l.toArray.size ≤ _; simpa using hs)
 have e : (⟨l.toArray⟩ : ByteArray).data.toList = l := rfl
 rw [e] at h
 exact fun {σ} => h
theorem takeF_len {c c' : Cht} {row : ByteArray} (h : takeF c row = some c') : c'.marks.length + c'.sands.length = c.marks.length + c.sands.length + 1 := by
 unfold takeF at h
 split at h
 case h_2 => cases h
 split at h
 ·split at h
  case h_2 => cases h
  split at h
  case h_2 => cases h
  cases h
  simp; omega
 ·split at h
  case isFalse => cases h
  split at h
  case h_2 => cases h
  split at h
  case h_2 => cases h
  split at h
  case h_2 => cases h
  cases h
  simp; omega
theorem endPan {σ : Type} {st : σ} {en : Env} {h : Heap} {i j n m : Nat} (h2 : get en 2 = some (.ptr 1000000 0)) (h3 : get en 3 = some (.ptr 1000001 0)) (hh : subHeap h [(1000000, .box (.vv [.sl i 4 0 n, .sl j 6 0 m])), (1000001, .box (.dd [i64 0]))]) :
  EndD Tryz.prog tys Tryz.f38 88 2 3 (failD 6) st (.panicking [{ v := pan6, recovered := false }]) en h st := by
 refine ⟨h2, h3, .panicking [{ v := pan6, recovered := true }], _, rfl, CloD.sub (h0 := [(1000000, .box (.vv [.sl i 4 0 n, .sl j 6 0 m])), (1000001, .box (.dd [i64 0]))]) (fun {σ} => clo88_pan i j n m) hh, ?_⟩
 conv=>whnf
 exact RetA_view 1 rfl ⟨rfl, rfl, rfl⟩
theorem viewC {h : Heap} (c : Cht) (h1 : get h 900001 = some (.arr 4 (.dd (c.marks.map Mark.cells)))) (h2 : get h 900002 = some (.arr 6 (.dd (c.sands.map Sand.cells)))) : viewL (objD h 1) [.agg [.sl 900001 4 0 c.marks.length, .sl 900002 6 0 c.sands.length]] = some [c.d] := by
 have e1 : viewV (objD h 1) (.sl 900001 4 0 c.marks.length) = some (marksD c.marks) := viewV_sl h1 (by simp)
 have e2 : viewV (objD h 1) (.sl 900002 6 0 c.sands.length) = some (sandsD c.sands) := viewV_sl h2 (by simp)
 refine viewL_cons ?_ rfl
 have : viewL (objD h 1) [.sl 900001 4 0 c.marks.length, .sl 900002 6 0 c.sands.length] = some [marksD c.marks, sandsD c.sands] := viewL_cons e1 (viewL_cons e2 rfl)
 rw [viewV, this]; rfl
theorem viewC2 {h : Heap} (c : Cht) (h1 : get h 900001 = some (.arr 4 (.dd (c.marks.map Mark.cells)))) (h2 : get h 900002 = some (.arr 6 (.dd (c.sands.map Sand.cells)))) : viewL (objD h 1) [.agg [.sl 900001 4 0 c.marks.length, .sl 900002 6 0 c.sands.length], .d (i64 0)] = some [c.d, i64 0] := by
 have h := viewC c h1 h2
 rw [viewL] at h
 rw [viewL]
 cases hx : viewV (objD _ 1) (.agg [.sl 900001 4 0 c.marks.length, .sl 900002 6 0 c.sands.length]) with
 | none => rw [hx] at h; cases h
 | some d => rw [hx] at h; cases h; rfl
set_option maxHeartbeats 4000000 in
theorem ch38r (s : ByteArray) (r : D) (h3 : 4000 < s.size → r = failD 3) (h6 : s.size ≤ 4000 → readL chtO s.data.toList = none → r = failD 6)
  (h7 : s.size ≤ 4000 → ∀ c, readL chtO s.data.toList = some c → ((checkX c).2.2 = 0 ∧ chtT c = s → r = .tup [c.d, i64 0]) ∧ (¬ ((checkX c).2.2 = 0 ∧ chtT c = s) → r = failD 6)) : FnV Tryz.prog 38 [.str s] r := by
 refine fnV_defer (ds := [.str s]) (ft := ft38) (g := 88) mixed tysOk 2 3 15 (lc := [.nils, .nils]) (le := [i64 0]) Tryz.func38 rfl (show fnB ft38 Tryz.f38 1 = true from by decide +kernel) (by decide) (by decide) (by decide) rfl rfl rfl ?_ ?_ fun {σ} Y st => ?_
 ·intro a w p q Q hp hq hs h
  have hmf : ∀ (fn : Fn) (first cap : Array Value) (w : World), (Instr.makeFunc fn first cap).run Tryz.prog w = .ok (.func fn first cap) w := fun _ _ _ _ => rfl
  apply wpIn_region
  have e2 : a.tmps.getD 2 undef = p := by rw [Array.getD_eq_getD_getElem?, hp]; rfl
  have e3 : a.tmps.getD 3 undef = q := by rw [Array.getD_eq_getD_getElem?, hq]; rfl
  have hsz : 15 < a.tmps.size := by rw [hs]; decide
  simp [wpOpsIn, wpOpIn, go_sem, hmf, e2, e3, hsz, Oper.uponIn, Result.andThen]
  simpa using h
 ·intro p q w
  rfl
 conv=>whnf
 refine brk_i (fun hb => ?_) (fun hb => ?_)
 ·have h0 := h3 (by have := of_decide_eq_true hb; omega)
  subst h0
  conv=>whnf
  refine ⟨rfl, ?_⟩
  conv=>whnf
  exact RetA_view 0 rfl ⟨⟨rfl, rfl⟩, rfl⟩
 refine ⟨?_, ?_⟩
 ·exact Wk.sub ⟨rfl, rfl, rfl, trivial⟩ ⟨rfl, rfl, trivial⟩
 have hs4 : s.size ≤ 4000 := by have := of_decide_eq_false hb; omega
 have h6 := h6 hs4
 have h7 := h7 hs4
 conv=>whnf
 refine LoopA_p (T := tys) tysOk (by exact drawsB_spec mixed tysOk (by decide +kernel)) (fun x : Cht × List UInt8 => ⟨[(0, .d (.str s)), (2, .ptr 1000000 0), (3, .ptr 1000001 0), (4, .d (.str ⟨x.2.toArray⟩))], (1000001, .box (.dd [i64 0])) :: chtN 1000000 900001 900002 x.1, st⟩) (fun x => readL chtO s.data.toList = readL x.1 x.2 ∧ x.1.marks.length + x.1.sands.length + x.2.length ≤ 4000) (fun x => x.2.length) (chtO, s.data.toList) ?_ ?_ ?_
 ·refine ((Wk.bornAtD 1000000 900001 4 [] [.nils] rfl rfl rfl rfl rfl).trans (Wk.bornAt 1000000 900002 6 [.sl 900001 4 0 0] [] rfl rfl ?_ rfl)).trans ?_
  ·rfl
  ·exact Wk.sub ⟨rfl, rfl, rfl, congrArg (fun z => some (V.d (.str z))) (show s = ⟨s.data.toList.toArray⟩ from by cases s; simp), trivial⟩ ⟨rfl, rfl, rfl, rfl, trivial⟩
 ·exact ⟨rfl, by simp [chtO]; exact hs4⟩
 rintro ⟨c, l⟩ ⟨hl, hlen⟩
 have hl : readL chtO s.data.toList = readL c l := hl
 have hlen : c.marks.length + c.sands.length + l.length ≤ 4000 := hlen
 conv=>whnf
 refine brk_i (fun hb => ?_) (fun hb => ?_)
 ·have hne : l ≠ [] := by rintro rfl; simp at hb
  have hcl := cut1_len 10 l
  rw [readL_eq c l, if_neg hne] at hl
  conv=>whnf
  refine CallA_v (ch89L l 10 (by omega)) rfl rfl ?_
  conv=>whnf
  refine must_i rfl (fun ht => ?_) (fun ht => ?_)
  ·rw [ht, if_pos rfl] at hl
   conv=>whnf
   refine CallA_x (ch91 c ⟨(cut1 10 l).1.toArray⟩ (by show (cut1 10 l).1.toArray.size ≤ 4000; rw [List.size_toArray]; omega) (by omega) (by omega) _ _) [1000000, 900001, 900002] rfl ⟨_, _, rfl, rfl, _, _, rfl, rfl, _, _, rfl, rfl, rfl⟩ rfl rfl ?_ ?_
   ·rintro v h1 s' ⟨⟨c', htk, rfl, rfl | rfl⟩, rfl⟩
    ·refine ⟨rfl, ?_⟩
     rw [htk] at hl
     have hlt := takeF_len htk
     have hcl2 := hcl.2 hne
     conv=>whnf
     exact ⟨(c', (cut1 10 l).2.1), hcl2, ⟨hl, by show c'.marks.length + c'.sands.length + (cut1 10 l).2.1.length ≤ 4000; omega⟩, (Wk.move 101792 900001 rfl rfl).trans (Wk.sub ⟨(by first | rfl | (simp only [List.length_map]; rfl) | simp [PX.get]), (by first | rfl | (simp only [List.length_map]; rfl) | simp [PX.get]), (by first | rfl | (simp only [List.length_map]; rfl) | simp [PX.get]), (by first | rfl | (simp only [List.length_map]; rfl) | simp [PX.get]), trivial⟩ ⟨(by first | rfl | (simp only [List.length_map]; rfl) | simp [PX.get]), (by first | rfl | (simp only [List.length_map]; rfl) | simp [PX.get]), (by first | rfl | (simp only [List.length_map]; rfl) | simp [PX.get]), (by first | rfl | (simp only [List.length_map]; rfl) | simp [PX.get]), trivial⟩)⟩
    ·refine ⟨rfl, ?_⟩
     rw [htk] at hl
     have hlt := takeF_len htk
     have hcl2 := hcl.2 hne
     conv=>whnf
     exact ⟨(c', (cut1 10 l).2.1), hcl2, ⟨hl, by show c'.marks.length + c'.sands.length + (cut1 10 l).2.1.length ≤ 4000; omega⟩, (Wk.move 101792 900002 rfl rfl).trans (Wk.sub ⟨(by first | rfl | (simp only [List.length_map]; rfl) | simp [PX.get]), (by first | rfl | (simp only [List.length_map]; rfl) | simp [PX.get]), (by first | rfl | (simp only [List.length_map]; rfl) | simp [PX.get]), (by first | rfl | (simp only [List.length_map]; rfl) | simp [PX.get]), trivial⟩ ⟨(by first | rfl | (simp only [List.length_map]; rfl) | simp [PX.get]), (by first | rfl | (simp only [List.length_map]; rfl) | simp [PX.get]), (by first | rfl | (simp only [List.length_map]; rfl) | simp [PX.get]), (by first | rfl | (simp only [List.length_map]; rfl) | simp [PX.get]), trivial⟩)⟩
   ·rintro pv h1 s' ⟨⟨htk, rfl, rfl⟩, rfl⟩
    refine ⟨rfl, ?_⟩
    rw [htk] at hl
    have h0 := h6 hl
    subst h0
    conv=>whnf
    exact endPan rfl rfl ⟨rfl, rfl, trivial⟩
  ·rw [ht, if_neg (by simp)] at hl
   have h0 := h6 hl
   subst h0
   conv=>whnf
   exact endPan rfl rfl ⟨rfl, rfl, trivial⟩
 ·have hle : l = [] := by
   by_cases h : l = []
   ·exact h
   ·exact absurd hb (by simp [h])
  subst hle
  have hl : readL chtO s.data.toList = some c := hl
  obtain ⟨h7a, h7b⟩ := h7 c hl
  conv=>whnf
  refine CallA_view (ch20 c) rfl 1 (viewC c rfl rfl) ?_
  conv=>whnf
  refine brk_i (fun hb1 => ?_) (fun hb1 => ?_)
  ·have hk : (checkX c).2.2 = 0 := by simpa using hb1
   conv=>whnf
   refine CallA_view (ch86 c (checkX_ok hk) (checkX_names hk).nm) rfl 1 (viewC c rfl rfl) ?_
   conv=>whnf
   refine must_i rfl (fun ht => ?_) (fun ht => ?_)
   ·have h0 := h7a ⟨hk, of_decide_eq_true ht⟩
    subst h0
    conv=>whnf
    refine ⟨.inr rfl, rfl, rfl, .returning, _, rfl, fun {σ} => clo88_idle _, ?_⟩
    conv=>whnf
    exact RetA_view 1 (viewC2 c rfl rfl) ⟨rfl, rfl, rfl⟩
   ·have h0 := h7b fun h => absurd ht (by rw [decide_eq_true h.2]; simp)
    subst h0
    conv=>whnf
    exact endPan rfl rfl ⟨rfl, rfl, trivial⟩
  ·have hk : (checkX c).2.2 ≠ 0 := by simpa using hb1
   have h0 := h7b fun h => hk h.1
   subst h0
   conv=>whnf
   refine must_i rfl (fun h => by cases h) (fun _ => ?_)
   conv=>whnf
   exact endPan rfl rfl ⟨rfl, rfl, trivial⟩
theorem readX_cases (s : ByteArray) : ∃ r, (PX.relax r = .tup [(readX s).1.d, i64 (readX s).2] ∨ r = .tup [(readX s).1.d, i64 (readX s).2]) ∧ (4000 < s.size → r = failD 3) ∧ (s.size ≤ 4000 → readL chtO s.data.toList = none → r = failD 6) ∧
  (s.size ≤ 4000 → ∀ c, readL chtO s.data.toList = some c → ((checkX c).2.2 = 0 ∧ chtT c = s → r = .tup [c.d, i64 0]) ∧ (¬ ((checkX c).2.2 = 0 ∧ chtT c = s) → r = failD 6)) := by
 have hrx : readX s = if 4000 < s.size then (chtO, (3 : Int)) else
  match readL chtO s.data.toList with
  | some c => if (checkX c).2.2 = 0 ∧ chtT c = s then (c, 0) else (chtO, 6)
  | none => (chtO, 6) := by
  unfold readX readL
  have : s.data.toList.length = s.size := by simp
  rw [this]
 by_cases h3 : 4000 < s.size
 ·rw [hrx, if_pos h3]
  exact ⟨failD 3, .inl rfl, fun _ => rfl, fun h => absurd h (by omega), fun h => absurd h (by omega)⟩
 rw [hrx, if_neg h3]
 cases hl : readL chtO s.data.toList with
 | none => exact ⟨failD 6, .inl rfl, fun h => absurd h h3, fun _ _ => rfl, fun _ c h => by cases h⟩
 | some c =>
  by_cases hk : (checkX c).2.2 = 0 ∧ chtT c = s
  ·simp only [if_pos hk]
   refine ⟨.tup [c.d, i64 0], .inr rfl, fun h => absurd h h3, fun _ h => ?_, fun _ c' h => ?_⟩
   ·cases h
   ·cases h; exact ⟨fun _ => rfl, fun h => absurd hk h⟩
  ·simp only [if_neg hk]
   refine ⟨failD 6, .inl rfl, fun h => absurd h h3, fun _ _ => rfl, fun _ c' h => ?_⟩
   cases h; exact ⟨fun h => absurd h hk, fun _ => rfl⟩
theorem ch38 (s : ByteArray) : FnV Tryz.prog 38 [.str s] (.tup [(readX s).1.d, i64 (readX s).2]) := by
 obtain ⟨r, hr, h3, h6, h7⟩ := readX_cases s
 rcases hr with hr | rfl
 ·exact FnV.relax (fun {σ} => ch38r s r h3 h6 h7) hr
 ·exact ch38r s _ h3 h6 h7
end Go.PX
namespace Go.PX
open Go.Proofs
def ptsE (c : Cht) (day k : Int) (b : Box) : Int := if stdE c day k = 0 then boxE 30000 b else stdE c day k
theorem cntF_ge (v : Pt) : ∀ (l : List Pt) (n : Int), n ≤ cntF v l n ∧ cntF v l n ≤ n + l.length
 | [], n => by simp [cntF]
 | q :: r, n => by
  have := cntF_ge v r (if leftF q v ≤ 0 then n + 1 else n)
  rw [cntF, List.length_cons]
  split at this <;> split <;> first | omega | contradiction
theorem turnN_quad {v : Pt} (hz : NZ v) : 0 ≤ (turnN (quadN v) v).x := by
 unfold NZ at hz
 unfold quadN
 split
 ·show 0 ≤ v.x; omega
 ·split
  ·show 0 ≤ -v.y; omega
  ·split
   ·show 0 ≤ -v.x; omega
   ·show 0 ≤ - -v.y; omega
theorem towF_in {v : Pt} (hz : NZ v) : 0 ≤ towF v ∧ towF v ≤ 31 := by
 have hx := turnN_quad hz
 have hq := quad_le v
 unfold towF
 generalize turnN (quadN v) v = u at hx ⊢
 have h1 : leftF ⟨0, 1000⟩ u ≤ 0 := by
  unfold leftF
  simp only
  omega
 have h2 := cntF_ge u quarterL (8 * quadN v)
 have h3 : cntF u quarterL (8 * quadN v) = cntF u quarterL.tail (8 * quadN v + 1) := by
  show cntF u (⟨0, 1000⟩ :: quarterL.tail) _ = _
  rw [cntF, if_pos h1]
 have h4 := cntF_ge u quarterL.tail (8 * quadN v + 1)
 have h5 : quarterL.length = 8 := rfl
 omega
def cfD (f : Nat → Int) : List D := [i64 (f 0), i64 (f 1), i64 (f 2), i64 (f 3), i64 (f 4), i64 (f 5), i64 (f 6), i64 (f 7), i64 (f 8), i64 (f 9), i64 (f 10), i64 (f 11), i64 (f 12), i64 (f 13), i64 (f 14), i64 (f 15), i64 (f 16), i64 (f 17), i64 (f 18), i64 (f 19), i64 (f 20), i64 (f 21), i64 (f 22), i64 (f 23), i64 (f 24), i64 (f 25), i64 (f 26), i64 (f 27), i64 (f 28), i64 (f 29), i64 (f 30), i64 (f 31)]
def cntStep (m : Pt) (f : Nat → Int) (p : Pt) : Nat → Int := if p.x = m.x ∧ p.y = m.y then f else fun q => if q = (towF (m.sub p)).toNat then f q + 1 else f q
def colF (m : Pt) (x : Int) (ys : List Int) (f : Nat → Int) : Nat → Int := ys.foldl (fun f y => cntStep m f ⟨x, y⟩) f
def gridF (m : Pt) (ys : List Int) (xs : List Int) (f : Nat → Int) : Nat → Int := xs.foldl (fun f x => colF m x ys f) f
def spanL (s : Span) : List Int := upX (s.hi - s.lo + 1).toNat s.lo
def dirsL (f : Nat → Int) (l : List Nat) : List Int := (l.filter fun p => decide (0 < f p)).map fun (p : Nat) => (p : Int)
def ptsL (c : Cht) (day k : Int) (b : Box) : List Int := if ptsE c day k b = 0 then dirsL (gridF (marM c day k).at' (spanL b.y) (spanL b.x) fun _ => 0) (List.range 32) else []
theorem getC {f : Nat → Int} {o k : Nat} (hk : k < 32) (ho : o = k) {t : TyI} (ht : t.isAgg = false) {K : V → Prop} (h : K (.d (i64 (f k)))) : Cells.getK t (.dd (cfD f)) o K := by
 subst ho
 unfold Cells.getK
 rw [ht]
 match o, hk with
  | 0, _ => exact h
  | 1, _ => exact h
  | 2, _ => exact h
  | 3, _ => exact h
  | 4, _ => exact h
  | 5, _ => exact h
  | 6, _ => exact h
  | 7, _ => exact h
  | 8, _ => exact h
  | 9, _ => exact h
  | 10, _ => exact h
  | 11, _ => exact h
  | 12, _ => exact h
  | 13, _ => exact h
  | 14, _ => exact h
  | 15, _ => exact h
  | 16, _ => exact h
  | 17, _ => exact h
  | 18, _ => exact h
  | 19, _ => exact h
  | 20, _ => exact h
  | 21, _ => exact h
  | 22, _ => exact h
  | 23, _ => exact h
  | 24, _ => exact h
  | 25, _ => exact h
  | 26, _ => exact h
  | 27, _ => exact h
  | 28, _ => exact h
  | 29, _ => exact h
  | 30, _ => exact h
  | 31, _ => exact h
  | k + 32, hk => exact absurd hk (by omega)
set_option maxHeartbeats 4000000 in
theorem ch34 (c : Cht) (day k : Int) (b : Box) : FnV Tryz.prog 34 [c.d, i64 day, i64 k, b.d] (.tup [intsD (ptsL c day k b), i64 (ptsE c day k b)]) := by
 refine fnV_of mixed tysOk Tryz.func34 rfl (ft := ft34) 4 (by decide +kernel) (by rfl) fun {σ} Y st => ?_
 conv=>whnf
 refine CallA_v (ch79 c day k) rfl rfl ?_
 conv=>whnf
 by_cases h0 : stdE c day k = 0
 case neg =>
  have he : ptsE c day k b = stdE c day k := by unfold ptsE; rw [if_neg h0]
  have hL : ptsL c day k b = [] := by unfold ptsL; rw [if_neg (by rw [he]; exact h0)]
  rw [hL, he]
  rw [decide_eq_false h0]
  conv=>whnf
  refine brk_i (fun _ => ?_) (fun h1 => absurd h1 (by simp [h0]))
  conv=>whnf
  exact RetA_viewR 0 rfl rfl ⟨⟨rfl, rfl⟩, rfl⟩
 have he : ptsE c day k b = boxE 30000 b := by unfold ptsE; rw [if_pos h0]
 obtain ⟨hR, hmem⟩ := marM_ok (stdE_mar h0)
 have hmp := (hR.mark _ hmem).1
 rw [he, decide_eq_true h0]
 conv=>whnf
 refine CallA_v (ch85 b 30000 (by omega)) rfl rfl ?_
 conv=>whnf
 by_cases h1 : boxE 30000 b = 0
 case neg =>
  have hL : ptsL c day k b = [] := by unfold ptsL; rw [if_neg (by rw [he]; exact h1)]
  rw [hL]
  refine brk_i (fun _ => ?_) (fun h2 => absurd h2 (by simp [h1]))
  conv=>whnf
  exact RetA_viewR 0 rfl rfl ⟨⟨rfl, rfl⟩, rfl⟩
 have hL : ptsL c day k b = dirsL (gridF (marM c day k).at' (spanL b.y) (spanL b.x) fun _ => 0) (List.range 32) := by unfold ptsL; rw [if_pos (by rw [he]; exact h1)]
 rw [hL, h1]
 conv=>whnf
 generalize marM c day k = m at *
 clear hL he
 have hbx : (-30000 ≤ b.x.lo ∧ b.x.hi ≤ 30000 ∧ b.x.lo ≤ b.x.hi ∧ b.x.hi - b.x.lo ≤ 40) ∧ (-30000 ≤ b.y.lo ∧ b.y.hi ≤ 30000 ∧ b.y.lo ≤ b.y.hi ∧ b.y.hi - b.y.lo ≤ 40) := by
  unfold boxE at h1
  split at h1
  case isFalse => cases h1
  rename_i h5
  split at h1
  case isFalse => cases h1
  rename_i h6
  simp only [Bool.and_eq_true, inB_iff] at h5 h6
  omega
 generalize hG : gridF m.at' (spanL b.y) (spanL b.x) (fun _ => 0) = G
 have hlenx : (spanL b.x).length = (b.x.hi - b.x.lo + 1).toNat := upX_len _ _
 have hleny : (spanL b.y).length = (b.y.hi - b.y.lo + 1).toNat := upX_len _ _
 refine LoopA_i (T := tys) tysOk (by exact drawsB_spec mixed tysOk (by decide +kernel)) (spanL b.x) (fun i (f : Nat → Int) => ⟨[(7, .ptr 7 0), (8, .d .nils), (10, .ptr 10 0), (11, .ptr 11 0), (12, .d (i64 (b.x.lo + i)))], [(7, .box (.dd b.cells)), (10, .box (.dd m.cells)), (11, .box (.dd (cfD f)))], st⟩)
  (fun i xs f => G = gridF m.at' (spanL b.y) xs f ∧ ∀ q, q < 32 → 0 ≤ f q ∧ f q ≤ 41 * i) (fun _ => 0) (Wk.sub ⟨rfl, rfl, rfl, rfl, congrArg (fun z => some (V.d (i64 z))) (by simp), trivial⟩ ⟨rfl, rfl, rfl, trivial⟩) ⟨hG.symm, fun v hv => by simp⟩ ?_ ?_
 ·rintro i x xs f hxi hi hir ⟨hgf, hav⟩
  obtain ⟨hx1, hx2⟩ := upX_get hxi
  have hgf : G = gridF m.at' (spanL b.y) xs (colF m.at' x (spanL b.y) f) := hgf
  generalize hH : colF m.at' x (spanL b.y) f = H at hgf
  conv=>whnf
  refine brk_i (fun _ => ?_) (fun h => absurd h (by simp; omega))
  conv=>whnf
  refine LoopA_i (T := tys) tysOk (by exact drawsB_spec mixed tysOk (by decide +kernel)) (spanL b.y) (fun j (f : Nat → Int) => ⟨[(7, .ptr 7 0), (8, .d .nils), (10, .ptr 10 0), (11, .ptr 11 0), (12, .d (i64 (b.x.lo + i))), (13, .d (i64 (b.y.lo + j)))], [(7, .box (.dd b.cells)), (10, .box (.dd m.cells)), (11, .box (.dd (cfD f)))], st⟩)
   (fun j ys f => H = colF m.at' x ys f ∧ ∀ q, q < 32 → 0 ≤ f q ∧ f q ≤ 41 * i + j) f (Wk.sub ⟨rfl, rfl, rfl, rfl, rfl, congrArg (fun z => some (V.d (i64 z))) (by simp), trivial⟩ ⟨rfl, rfl, rfl, trivial⟩) ⟨hH.symm, fun v hv => by have := hav v hv; omega⟩ ?_ ?_
  ·rintro j y ys f hyj hj hjr ⟨hcf, hav⟩
   obtain ⟨hy1, hy2⟩ := upX_get hyj
   have hcf : H = colF m.at' x ys (cntStep m.at' f ⟨x, y⟩) := hcf
   subst hx1 hy1
   conv=>whnf
   refine brk_i (fun _ => ?_) (fun h => absurd h (by simp; omega))
   conv=>whnf
   refine brk_i (fun h3 => ?_) (fun h3 => ?_)
   ·have hq : Pin 30000 ⟨b.x.lo + i, b.y.lo + j⟩ := ⟨by simp only; omega, by simp only; omega⟩
    have hnz : NZ (m.at'.sub ⟨b.x.lo + i, b.y.lo + j⟩) := by
     show m.at'.x - (b.x.lo + i) ≠ 0 ∨ m.at'.y - (b.y.lo + j) ≠ 0
     simp at h3
     omega
    have hne : ¬ (b.x.lo + (i : Int) = m.at'.x ∧ b.y.lo + (j : Int) = m.at'.y) := by
     intro e
     have hnz : m.at'.x - (b.x.lo + i) ≠ 0 ∨ m.at'.y - (b.y.lo + j) ≠ 0 := hnz
     omega
    rw [cntStep, if_neg hne] at hcf
    conv=>whnf
    refine CallA_view (ds := [Pt.d ⟨b.x.lo + i, b.y.lo + j⟩, m.at'.d]) (ch81 ⟨b.x.lo + i, b.y.lo + j⟩ m.at' (hq.mono (by omega)) (hmp.mono (by omega))) rfl 1 rfl ?_
    conv=>whnf
    refine CallA_view (ds := [(m.at'.sub ⟨b.x.lo + i, b.y.lo + j⟩).d]) (ch80 (m.at'.sub ⟨b.x.lo + i, b.y.lo + j⟩) ((hmp.sub hq).mono (by omega)) hnz) rfl 1 rfl ?_
    have hti := towF_in hnz
    generalize hT : towF (m.at'.sub ⟨b.x.lo + i, b.y.lo + j⟩) = T at hti hcf ⊢
    obtain ⟨t, rfl⟩ : ∃ t : Nat, T = t := ⟨T.toNat, by omega⟩
    rw [Int.toNat_natCast] at hcf
    have ht : t < 32 := by omega
    have hb := hav t ht
    have hmore : ∀ q, q < 32 → 0 ≤ (if q = t then f q + 1 else f q) ∧ (if q = t then f q + 1 else f q) ≤ 41 * i + (j + 1) := by
     intro q hq
     have := hav q hq
     split <;> omega
    clear hT hti hnz hne hq
    have ht32 : t = 0 ∨ t = 1 ∨ t = 2 ∨ t = 3 ∨ t = 4 ∨ t = 5 ∨ t = 6 ∨ t = 7 ∨ t = 8 ∨ t = 9 ∨ t = 10 ∨ t = 11 ∨ t = 12 ∨ t = 13 ∨ t = 14 ∨ t = 15 ∨ t = 16 ∨ t = 17 ∨ t = 18 ∨ t = 19 ∨ t = 20 ∨ t = 21 ∨ t = 22 ∨ t = 23 ∨ t = 24 ∨ t = 25 ∨ t = 26 ∨ t = 27 ∨ t = 28 ∨ t = 29 ∨ t = 30 ∨ t = 31 := by omega
    clear ht
    rcases ht32 with rfl | rfl | rfl | rfl | rfl | rfl | rfl | rfl | rfl | rfl | rfl | rfl | rfl | rfl | rfl | rfl | rfl | rfl | rfl | rfl | rfl | rfl | rfl | rfl | rfl | rfl | rfl | rfl | rfl | rfl | rfl | rfl <;>
    ·conv=>whnf
     refine arith_in (wrap_i64 (by (try dsimp only); omega)) ?_
     conv=>whnf
     refine arith_in (wrap_i64 (by (try dsimp only); omega)) ?_
     conv=>whnf
     exact ⟨_, ⟨hcf, hmore⟩, Wk.sub ⟨rfl, rfl, rfl, rfl, rfl, congrArg (fun z => some (V.d (i64 z))) (by omega), trivial⟩ ⟨rfl, rfl, rfl, trivial⟩⟩
   ·have hne : b.x.lo + (i : Int) = m.at'.x ∧ b.y.lo + (j : Int) = m.at'.y := by
     simp at h3
     omega
    rw [cntStep, if_pos hne] at hcf
    conv=>whnf
    refine arith_in (wrap_i64 (by (try dsimp only); omega)) ?_
    conv=>whnf
    exact ⟨f, ⟨hcf, fun q hq => by have := hav q hq; omega⟩, Wk.sub ⟨rfl, rfl, rfl, rfl, rfl, congrArg (fun z => some (V.d (i64 z))) (by omega), trivial⟩ ⟨rfl, rfl, rfl, trivial⟩⟩
  ·rintro f ⟨hcf, hav⟩
   have hcf : H = f := hcf
   conv=>whnf
   refine brk_i (fun h => absurd h (by simp; omega)) (fun _ => ?_)
   conv=>whnf
   refine arith_in (wrap_i64 (by (try dsimp only); omega)) ?_
   conv=>whnf
   exact ⟨f, ⟨hcf ▸ hgf, fun q hq => by have := hav q hq; omega⟩, Wk.sub ⟨rfl, rfl, rfl, rfl, congrArg (fun z => some (V.d (i64 z))) (by omega), trivial⟩ ⟨rfl, rfl, rfl, trivial⟩⟩
 ·rintro f ⟨hgf, hav⟩
  have hgf : G = f := hgf
  subst hgf
  conv=>whnf
  refine brk_i (fun h => absurd h (by simp; omega)) (fun _ => ?_)
  conv=>whnf
  generalize hD : dirsL G (List.range 32) = DL
  refine LoopA_i (T := tys) tysOk (by exact drawsB_spec mixed tysOk (by decide +kernel)) (List.range 32) (fun i (acc : List Int) => ⟨[(8, .sl 77 1 0 acc.length), (67, .d (.agg (cfD G))), (68, .d (i64 i))], [(77, .arr 1 (.dd (acc.map fun n => [i64 n])))], st⟩)
   (fun i r acc => acc.length ≤ i ∧ DL = acc ++ dirsL G r) [] ((Wk.born 8 77 1 rfl rfl rfl).trans (Wk.sub ⟨(by first | rfl | (simp only [List.length_map]; rfl) | simp [PX.get]), (by first | rfl | (simp only [List.length_map]; rfl) | simp [PX.get]), (by first | rfl | (simp only [List.length_map]; rfl) | simp [PX.get]), trivial⟩ ⟨(by first | rfl | (simp only [List.length_map]; rfl) | simp [PX.get]), trivial⟩)) ⟨by simp, hD.symm⟩ ?_ ?_
  ·rintro i q r acc hqi hi hir ⟨hal, hDL⟩
   have hq : q = i := by
    rw [List.getElem?_range (by simpa using hi)] at hqi
    cases hqi; rfl
   subst hq
   have hi : q < 32 := by simpa using hi
   conv=>whnf
   refine brk_i (fun _ => ?_) (fun h => absurd h (by simp; omega))
   refine brk_i (fun _ => ?_) (fun h => absurd h (by simp; omega))
   refine getC hi (by show (q : Int).toNat * 1 = q; omega) rfl ?_
   conv=>whnf
   refine brk_i (fun h3 => ?_) (fun h3 => ?_)
   ·have h3 : 0 < G q := of_decide_eq_true h3
    have hDL : DL = (acc ++ [(q : Int)]) ++ dirsL G r := by rw [hDL]; simp [dirsL, h3]
    conv=>whnf
    refine ownK_whole rfl ?_
    conv=>whnf
    refine ownK_whole (by simp [Els.len]) ?_
    conv=>whnf
    refine chk_i (decide_eq_true (by show ((acc.map fun n => [i64 n]).length + 1) * 8 ≤ _; rw [List.length_map]; omega)) ?_
    conv=>whnf
    refine arith_in (wrap_i64 (by (try dsimp only); omega)) ?_
    conv=>whnf
    exact ⟨acc ++ [(q : Int)], ⟨by simp; omega, hDL⟩, Wk.sub ⟨congrArg (fun z : Nat => some (V.sl 77 1 0 z)) (by simp [Els.len]), rfl, congrArg (fun z => some (V.d (i64 z))) (by omega), trivial⟩ ⟨congrArg (fun z => some (Obj.arr 1 (.dd z))) (by simp), trivial⟩⟩
   ·have h3 : ¬ 0 < G q := of_decide_eq_false h3
    have hDL : DL = acc ++ dirsL G r := by rw [hDL]; simp [dirsL, h3]
    conv=>whnf
    refine arith_in (wrap_i64 (by (try dsimp only); omega)) ?_
    conv=>whnf
    exact ⟨acc, ⟨by omega, hDL⟩, Wk.sub ⟨rfl, rfl, congrArg (fun z => some (V.d (i64 z))) (by omega), trivial⟩ ⟨rfl, trivial⟩⟩
  ·rintro acc ⟨hal, hDL⟩
   have hDL : DL = acc := by rw [hDL]; simp [dirsL]
   rw [hDL]
   conv=>whnf
   refine RetA_view 1 (ds := [intsD acc, i64 0]) ?_ ⟨⟨rfl, rfl⟩, rfl⟩
   exact viewL_cons (viewV_sl rfl (by simp)) rfl
end Go.PX
namespace Go.PX
open Go.Proofs
deriving instance DecidableEq for Pt
deriving instance DecidableEq for Mark
deriving instance DecidableEq for Sand
deriving instance DecidableEq for Cht
theorem ch94 (a b : List Pt) (ha : a.length < 1000000) : FnV Tryz.prog 94 [ptsD a, ptsD b] (.bool (decide (a = b))) := by
 refine fnV_of mixed tysOk Tryz.func94 rfl (ft := ft94) 2 (by decide +kernel) (by rfl) fun {σ} Y st => ?_
 conv=>whnf
 refine brk_i (fun h0 => ?_) (fun h0 => ?_)
 ·have h0 : a.length ≠ b.length := by
   intro e; simp [e] at h0
  conv=>whnf
  rw [decide_eq_false (by rintro rfl; exact h0 rfl)]
  exact RetA_view 0 rfl ⟨⟨rfl, rfl⟩, rfl⟩
 ·have h0 : a.length = b.length := by
   have := h0
   simp at this; omega
  conv=>whnf
  refine LoopA_p (T := tys) tysOk (by exact drawsB_spec mixed tysOk (by decide +kernel)) (α := Nat) (fun i => ⟨[(0, .d (ptsD a)), (1, .d (ptsD b)), (5, .d (i64 i))], [], st⟩) (fun i => i ≤ a.length ∧ a.take i = b.take i) (fun i => a.length - i) 0
   (Wk.sub ⟨rfl, rfl, rfl, trivial⟩ trivial) (by simp) ?_
  rintro i ⟨hi, he⟩
  conv=>whnf
  refine brk_i (fun hc => ?_) (fun hc => ?_)
  ·have hc : i < a.length := by simpa using hc
   have hc' : i < b.length := by omega
   conv=>whnf
   refine elemK_i a[i].cells (by simp [hc]) ?_
   conv=>whnf
   refine elemK_i b[i].cells (by simp [hc']) ?_
   conv=>whnf
   refine brk_i (fun h1 => ?_) (fun h1 => ?_)
   ·conv=>whnf
    have h1 : a[i] ≠ b[i] := by
     intro e
     rw [e] at h1
     simp at h1
    rw [decide_eq_false (by rintro rfl; exact h1 rfl)]
    exact RetA_view 0 rfl ⟨⟨rfl, rfl⟩, rfl⟩
   ·have h1 : a[i] = b[i] := by
     cases hx : a[i] with
     | mk x y =>
      cases hy : b[i] with
      | mk u v =>
       rw [hx, hy] at h1
       simpa using h1
    refine arith_in (wrap_i64 (by (try dsimp only); omega)) ?_
    conv=>whnf
    exact ⟨i + 1, by omega, ⟨hc, by rw [List.take_succ_eq_append_getElem hc, List.take_succ_eq_append_getElem hc', he, h1]⟩, Wk.sub ⟨rfl, rfl, rfl, trivial⟩ trivial⟩
  ·have hc : ¬ i < a.length := by simpa using hc
   conv=>whnf
   rw [List.take_of_length_le (by omega), List.take_of_length_le (by omega)] at he
   rw [decide_eq_true he]
   exact RetA_view 0 rfl ⟨⟨rfl, rfl⟩, rfl⟩
theorem ch52 (a b c d : Int) : FnV Tryz.prog 52 [i64 a, i64 b, i64 c, i64 d] (Box.d ⟨⟨a, b⟩, ⟨c, d⟩⟩) := by
 refine fnV_of mixed tysOk Tryz.func52 rfl (ft := ft52) 4 (by decide +kernel) (by rfl) fun {σ} Y st => ?_
 conv=>whnf
 exact RetA_view 0 rfl ⟨⟨rfl, rfl⟩, rfl⟩
def exT : ByteArray := ⟨#[109, 97, 114, 107, 32, 99, 104, 117, 114, 99, 104, 32, 51, 48, 48, 48, 32, 52, 48, 48, 48, 32, 48, 32, 49, 32, 53, 48, 32, 50, 10, 109, 97, 114, 107, 32, 109, 105, 108, 108, 32, 45, 50, 48, 48, 48, 32, 48, 32, 49, 48, 32, 51, 32, 57, 48, 32, 48, 10, 115, 97, 110, 100, 32, 107, 110, 111, 108, 108, 32, 48, 32, 49, 48, 32, 45, 53, 32, 53, 32, 49, 48, 48, 32, 48, 32, 50, 48, 48, 32, 48, 32, 50, 48, 48, 32, 49, 48, 48, 32, 49, 48, 48, 32, 49, 48, 48, 10, 115, 97, 110, 100, 32, 115, 112, 105, 116, 32, 48, 32, 48, 32, 48, 32, 48, 32, 45, 51, 48, 48, 32, 45, 51, 48, 48, 32, 45, 49, 48, 48, 32, 45, 52, 48, 48, 32, 45, 50, 48, 48, 32, 45, 50, 48, 48, 10]⟩
def exC : Cht := ⟨[⟨⟨#[99, 104, 117, 114, 99, 104]⟩, ⟨3000, 4000⟩, [⟨0, 1⟩, ⟨50, 2⟩]⟩, ⟨⟨#[109, 105, 108, 108]⟩, ⟨-2000, 0⟩, [⟨10, 3⟩, ⟨90, 0⟩]⟩],
 [⟨⟨#[107, 110, 111, 108, 108]⟩, [⟨100, 0⟩, ⟨200, 0⟩, ⟨200, 100⟩, ⟨100, 100⟩], ⟨⟨0, 10⟩, ⟨-5, 5⟩⟩⟩, ⟨⟨#[115, 112, 105, 116]⟩, [⟨-300, -300⟩, ⟨-100, -400⟩, ⟨-200, -200⟩], ⟨⟨0, 0⟩, ⟨0, 0⟩⟩⟩]⟩
theorem ch69 : FnV Tryz.prog 69 [] (.str exT) := by
 refine fnV_of mixed tysOk Tryz.func69 rfl (ft := ft69) 0 (by decide +kernel) (by rfl) fun {σ} Y st => ?_
 conv=>whnf
 exact RetA_view 0 rfl ⟨⟨rfl, rfl⟩, rfl⟩
theorem ch41 : FnV Tryz.prog 41 [] exC.d := by
 refine fnV_of mixed tysOk Tryz.func41 rfl (ft := ft41) 0 (by decide +kernel) (by rfl) fun {σ} Y st => ?_
 conv=>whnf
 repeat' (first
  | (refine CallA_v (ch42 _ _) rfl rfl ?_; conv=>whnf)
  | (refine CallA_view (ch42 _ _) rfl 1 rfl ?_; conv=>whnf)
  | (refine DrawCall_v (ch42 _ _) rfl rfl ?_; conv=>whnf)
  | (refine DrawCall_view (ch42 _ _) rfl 1 rfl ?_; conv=>whnf)
  | (refine CallA_v (ch52 _ _ _ _) rfl rfl ?_; conv=>whnf)
  | (refine CallA_view (ch52 _ _ _ _) rfl 1 rfl ?_; conv=>whnf)
  | (refine DrawCall_v (ch52 _ _ _ _) rfl rfl ?_; conv=>whnf)
  | (refine DrawCall_view (ch52 _ _ _ _) rfl 1 rfl ?_; conv=>whnf)
  | (refine arith_in (wrap_i64 (by (try dsimp only); omega)) ?_; conv=>whnf)
  | (refine elemK_nat (by assumption) ?_; conv=>whnf)
  | (refine ownK_whole (by first | rfl | assumption | (simp [Els.len]; done) | (simp [Els.len]; omega)) ?_; conv=>whnf)
  | (refine chk_i (by first | (exact decide_eq_true (by (try simp only [List.length_map]); omega)) | (simp [Els.len, Els.cons, V.cells, Els.toV, injL]; done) | (simp [Els.len, Els.cons, V.cells, Els.toV, injL]; omega)) ?_; conv=>whnf)
  | fail)
 exact RetA_view 3 rfl ⟨⟨rfl, rfl⟩, rfl⟩
end Go.PX
