import Derived.Test.YtpocldjdlookjaaPxQ
import Derived.Test.YtpocldjdlookjaaPxN
set_option linter.all false
set_option maxRecDepth 10000
namespace Go.PX
open Go.Proofs
theorem relax_if {p : Prop} [Decidable p] (l : List (List Int)) (a : D) (h : relax a = rotaD l) : relax (if p then a else .nils) = rotaD (if p then l else []) := by
 split
 ·exact h
 ·rfl
theorem relax_ifI {p : Prop} [Decidable p] (l : List Int) (a : D) (h : relax a = intsD l) : relax (if p then a else .nils) = intsD (if p then l else []) := by
 split
 ·exact h
 ·rfl
end Go.PX
namespace Go.PX
open Go.Proofs
theorem size_set {c : WCase} (hR : WR c) {l : List Int} (hl : l ∈ sizeL c.men.length) : SameSet c l (setOf l) := by
 have hO := ord_ok hR.men.2
 intro m h0 h1
 have h := hO.set l hl m.toNat (by omega)
 have e : ((m.toNat : Nat) : Int) = m := by omega
 rw [e] at h
 exact h.symm
theorem dead_all {c : WCase} (hR : WR c) (ha : endB c (allMen c) .zero = false) (S : Int) : endB c S .zero = false := by
 cases hb : endB c S .zero with
 | false => rfl
 | true =>
  have := set_mono hR (S := S) (S' := allMen c) (fun k hk _ => by
   have hk2 : ((k.toNat : Nat) : Int) = k := by omega
   refine (othersR_set hR k (by omega) (by omega)).1 ?_
   unfold othersR
   exact List.mem_map.2 ⟨k.toNat, List.mem_filter.2 ⟨List.mem_range.2 (by omega), by simp; omega⟩, hk2⟩) hb
  rw [ha] at this; cases this
theorem few_dead {c : WCase} (hR : WR c) (ha : endB c (allMen c) .zero = false) : fewL c = [] := by
 rcases first_law (fun S => endB c S .zero) c.men.length with ⟨h1, _⟩ | ⟨_, h2, _⟩
 ·unfold fewL
  rw [h1]
  unfold menOf
  rw [List.filter_eq_nil_iff.2 (by intro m _; simp)]
  rfl
 ·rw [dead_all hR ha] at h2; cases h2
theorem wa33 (c : WCase) : FnV Try.prog 33 [c.d] (.tup [if entE c [] = 0 then intsN (fewL c) else .nils, i64 (if entE c [] = 0 then (if fewL c = [] then 9 else 0) else entE c [])]) := by
 refine fnV_of mixed tysOk Try.func33 rfl (ft := ft33) 1 (by decide +kernel) (by rfl) fun {σ} Y st => ?_
 conv=>whnf
 refine CallA_v (wa81 c) rfl rfl ?_
 conv=>whnf
 by_cases h0 : entE c [] = 0
 ·obtain ⟨hR, _, _⟩ := ent_ok h0
  have hm := hR.men
  rw [h0]
  simp only [if_true]
  cases ha : endB c (allMen c) .zero with
  | false =>
   rw [few_dead hR ha]
   simp only [if_true, if_false, Bool.false_eq_true]
   refine LoopA_p (T := tys) tysOk (by exact drawsB_spec mixed tysOk (by decide +kernel)) (α := Unit) (fun _ => ⟨[(1, .ptr 1 0), (4, .d (i64 9)), (5, .d (i64 1))], [(1, .box (.dd c.cells))], st⟩)
    (fun _ => True) (fun _ => 0) () (Wk.sub (by repeat' first|exact trivial|refine⟨?_,?_⟩|rfl|(simp only[List.length_map];rfl)|simp[PX.get]) ⟨(by first | rfl | (simp only [List.length_map]; rfl) | simp [PX.get]), trivial⟩) trivial ?_
   rintro _ _
   conv=>whnf
   refine brk_i (fun _ => ?_) (fun h => absurd h (by simp; omega))
   conv=>whnf
   exact RetA_view 0 rfl ⟨⟨rfl, rfl⟩, rfl⟩
  | true =>
   simp only [if_true]
   generalize hM : fewL c = M
   refine LoopA_p (T := tys) tysOk (by exact drawsB_spec mixed tysOk (by decide +kernel)) (α := Nat) (fun many => ⟨[(1, .ptr 1 0), (4, .d (i64 0)), (5, .d (i64 many))], [(1, .box (.dd c.cells))], st⟩)
    (fun many => 1 ≤ many ∧ many ≤ c.men.length + 1 ∧ ∀ x ∈ (List.range' 1 (many - 1)).flatMap fun k => listsF c.men.length k [], endB c (setOf x) .zero = false) (fun many => c.men.length + 1 - many) 1 (Wk.sub (by repeat' first|exact trivial|refine⟨?_,?_⟩|rfl|(simp only[List.length_map];rfl)|simp[PX.get]) ⟨(by first | rfl | (simp only [List.length_map]; rfl) | simp [PX.get]), trivial⟩) ⟨Nat.le_refl _, by omega, fun x hx => by simp at hx⟩ ?_
   rintro many ⟨h1, h2, hpre⟩
   conv=>whnf
   refine brk_i (fun h3 => ?_) (fun h3 => ?_)
   ·have h3 : many ≤ c.men.length := by have := of_decide_eq_true h3; simp at this; omega
    conv=>whnf
    refine CallA_rep (args' := [.d (intsD []), .d (i64 (many : Nat)), .d (i64 c.men.length)]) (fun yv L F w l h => by
     obtain ⟨x1, l1, rfl, h1, x2, l2, rfl, h2, x3, l3, rfl, h3, h4⟩ := h
     refine ⟨x1, _, rfl, RepD.relax .nils x1 h1, x2, _, rfl, h2, x3, _, rfl, ?_, h4⟩
     have h3 : RepD F w (.int .i64 ((List.map Man.cells c.men).length : Int)) x3 := h3
     rw [List.length_map] at h3; exact h3) ?_
    refine CallA_v (ds := [intsD [], i64 (many : Nat), i64 c.men.length]) (wa70 c.men.length hm.2 many (by omega) [] (fun x hx => by cases hx) (by simp; omega)) rfl rfl ?_
    have hsplit := size_split (n := c.men.length) h1 h3
    have hLok := lists_ok (below := c.men.length) (many := many) (p := []) (fun x hx => by cases hx)
    have hLn : (listsF c.men.length many []).length ≤ 5 ^ 5 := Nat.le_trans (listsF_many hm.2) (Nat.pow_le_pow_right (by omega) (by omega))
    have hLm : ∀ x ∈ listsF c.men.length many [], x ∈ sizeL c.men.length := fun x hx => by rw [hsplit]; simp [hx]
    generalize hLs : listsF c.men.length many [] = Ls at hsplit hLok hLn hLm ⊢
    conv=>whnf
    refine LoopA_i (T := tys) tysOk (by exact drawsB_spec mixed tysOk (by decide +kernel)) Ls (fun i (_ : Unit) => ⟨[(1, .ptr 1 0), (4, .d (i64 0)), (5, .d (i64 many)), (6, .d (rotaD Ls)), (7, .d (i64 i))], [(1, .box (.dd c.cells))], st⟩)
     (fun i r _ => ∃ pre, Ls = pre ++ r ∧ ∀ x ∈ pre, endB c (setOf x) .zero = false) () (Wk.sub (by repeat' first|exact trivial|refine⟨?_,?_⟩|rfl|(simp only[List.length_map];rfl)|simp[PX.get]) ⟨(by first | rfl | (simp only [List.length_map]; rfl) | simp [PX.get]), trivial⟩) ⟨[], rfl, fun x hx => by cases hx⟩ ?_ ?_
    ·rintro i x r _ hx hi hr2 ⟨pre, hpr, hpf⟩
     have hxm := List.mem_of_getElem? hx
     have hx1 := (hLok x hxm).1
     conv=>whnf
     refine brk_i (fun _ => ?_) (fun h => absurd hi (by have := of_decide_eq_false h; simp at this; omega))
     conv=>whnf
     refine elemK_nat hx ?_
     conv=>whnf
     refine DrawCall_v (ds := [c.d, intsD x]) (wa82 c hR x (by rw [hx1]; simp; omega) (size_set hR (hLm x hxm))) rfl rfl ?_
     cases hw : endB c (setOf x) .zero with
     | true =>
      conv=>whnf
      refine elemK_nat hx ?_
      conv=>whnf
      obtain ⟨hf1, hf2⟩ := few_ref hm.2 (fun S => endB c S .zero) (pre := ((List.range' 1 (many - 1)).flatMap fun k => listsF c.men.length k []) ++ pre) (l := x) (post := r ++ (List.range' (many + 1) (c.men.length - many)).flatMap fun k => listsF c.men.length k []) (by rw [hsplit, hpr]; simp) (fun y hy => by
       rcases List.mem_append.1 hy with hy | hy
       ·exact hpre y hy
       ·exact hpf y hy) hw
      have hM2 : M = x := by rw [← hM]; exact hf1
      subst hM2
      rw [if_neg hf2]
      have : intsN M = intsD M := by
       cases M with
       | nil => exact absurd rfl hf2
       | cons a l => rfl
      rw [this]
      exact RetA_view 0 rfl ⟨⟨rfl, rfl⟩, rfl⟩
     | false =>
      conv=>whnf
      refine arith_in (wrap_i64 (by (try dsimp only); omega)) ?_
      conv=>whnf
      exact ⟨(), ⟨pre ++ [x], by rw [hpr]; simp, fun y hy => by
       rcases List.mem_append.1 hy with hy | hy
       ·exact hpf y hy
       ·rw [List.mem_singleton] at hy
        subst hy; exact hw⟩, (Wk.sub (by repeat' first|exact trivial|refine⟨?_,?_⟩|rfl|(simp only[List.length_map];rfl)|simp[PX.get]) ⟨(by first | rfl | (simp only [List.length_map]; rfl) | simp [PX.get]), trivial⟩)⟩
    ·rintro _ ⟨pre, hpr, hpf⟩
     rw [List.append_nil] at hpr
     subst hpr
     conv=>whnf
     refine brk_i (fun h => absurd h (by simp)) (fun _ => ?_)
     conv=>whnf
     refine arith_to ((many + 1 : Nat) : Int) (by omega) (wrap_i64 (by omega)) ?_
     conv=>whnf
     refine ⟨many + 1, by omega, ⟨by omega, by omega, fun x hx => ?_⟩, (Wk.sub (by repeat' first|exact trivial|refine⟨?_,?_⟩|rfl|(simp only[List.length_map];rfl)|simp[PX.get]) ⟨(by first | rfl | (simp only [List.length_map]; rfl) | simp [PX.get]), trivial⟩)⟩
     rw [show many + 1 - 1 = (many - 1) + 1 by omega, List.range'_1_concat, List.flatMap_append, show 1 + (many - 1) = many by omega] at hx
     rcases List.mem_append.1 hx with hx | hx
     ·exact hpre x hx
     ·rw [List.flatMap_singleton, hLs] at hx
      exact hpf x hx
   ·have h3 : ¬ many ≤ c.men.length := by have := of_decide_eq_false h3; simp at this; omega
    exfalso
    have hme : many = c.men.length + 1 := by omega
    subst hme
    have hall : allMen c ∈ setsL c.men.length := by
     refine sets_mem ?_
     unfold allMen
     have h2 : ((2 : Int) ^ c.men.length) = ((2 ^ c.men.length : Nat) : Int) := by simp
     have h3 : 2 ≤ 2 ^ c.men.length := by
      calc 2 = 2 ^ 1 := rfl
       _ ≤ 2 ^ c.men.length := Nat.pow_le_pow_right (by omega) hm.1
     omega
    obtain ⟨l, hl, he⟩ := List.mem_map.1 (((ord_ok hm.2).sub _).2 hall)
    have := hpre l (by rw [show c.men.length + 1 - 1 = c.men.length by omega]; exact hl)
    rw [he, ha] at this
    cases this
 ·rw [if_neg h0, if_neg h0]
  refine LoopA_p (T := tys) tysOk (by exact drawsB_spec mixed tysOk (by decide +kernel)) (α := Unit) (fun _ => ⟨[(1, .ptr 1 0), (4, .d (i64 (entE c []))), (5, .d (i64 1))], [(1, .box (.dd c.cells))], st⟩)
   (fun _ => True) (fun _ => 0) () (Wk.sub (by repeat' first|exact trivial|refine⟨?_,?_⟩|rfl|(simp only[List.length_map];rfl)|simp[PX.get]) ⟨(by first | rfl | (simp only [List.length_map]; rfl) | simp [PX.get]), trivial⟩) trivial ?_
  rintro _ _
  conv=>whnf
  refine brk_i (fun _ => ?_) (fun h => ?_)
  ·conv=>whnf
   refine brk_i (fun h1 => absurd (of_decide_eq_true h1) h0) (fun _ => ?_)
   conv=>whnf
   rw [if_neg h0]
   exact RetA_view 0 rfl ⟨⟨rfl, rfl⟩, rfl⟩
  ·conv=>whnf
   rw [if_neg h0]
   exact RetA_view 0 rfl ⟨⟨rfl, rfl⟩, rfl⟩
theorem wa35 (c : WCase) : FnV Try.prog 35 [c.d] (.tup [intsD (if entE c [] = 0 ∧ endB c (allMen c) .zero = true then needL c else []), i64 (if entE c [] = 0 then (if endB c (allMen c) .zero = true then 0 else 9) else entE c [])]) := by
 refine fnV_of mixed tysOk Try.func35 rfl (ft := ft35) 1 (by decide +kernel) (by rfl) fun {σ} Y st => ?_
 conv=>whnf
 refine CallA_v (wa81 c) rfl rfl ?_
 conv=>whnf
 generalize hE : (if entE c [] = 0 then (if endB c (allMen c) .zero = true then (0 : Int) else 9) else entE c []) = E
 by_cases h0 : E = 0
 ·have hE2 : entE c [] = 0 ∧ endB c (allMen c) .zero = true := by
   rw [h0] at hE
   split at hE
   ·rename_i h1
    split at hE
    ·rename_i h2; exact ⟨h1, h2⟩
    ·cases hE
   ·rename_i h1; exact absurd hE h1
  rw [if_pos hE2]
  obtain ⟨hR, _, _⟩ := ent_ok hE2.1
  have hm := hR.men
  subst h0
  generalize hM : needL c = M
  unfold needL at hM
  refine LoopA_i (T := tys) tysOk (by exact drawsB_spec mixed tysOk (by decide +kernel)) (List.range c.men.length) (fun i (acc : List Int) => ⟨[(1, .ptr 1 0), (4, .d (i64 0)), (5, .sl 29 1 0 acc.length), (6, .d (i64 i))], [(1, .box (.dd c.cells)), (29, .arr 1 (.dd (intsC acc)))], st⟩)
   (fun i r acc => acc.length ≤ i ∧ M = acc ++ (r.filter fun (m : Nat) => !endB c (butSet c m) .zero).map fun (m : Nat) => (m : Int)) [] ((Wk.born 5 29 1 rfl rfl rfl).trans (Wk.sub (by repeat' first|exact trivial|refine⟨?_,?_⟩|rfl|(simp only[List.length_map];rfl)|simp[PX.get]) (by repeat' first|exact trivial|refine⟨?_,?_⟩|rfl|(simp only[List.length_map];rfl)|simp[PX.get]))) ⟨by simp, hM.symm⟩ ?_ ?_
  ·rintro i m r acc hx hi hr ⟨hal, he⟩
   have hme : m = i := by
    rw [List.getElem?_range (by simpa using hi)] at hx
    exact (Option.some.inj hx).symm
   subst hme
   have hi2 : m < c.men.length := by simpa using hi
   rw [List.filter_cons] at he
   conv=>whnf
   refine brk_i (fun _ => ?_) (fun h => absurd hi2 (by have := of_decide_eq_false h; simp at this; omega))
   conv=>whnf
   refine DrawCall_v (ds := [c.d, i64 (m : Nat)]) (wa50 c hm.2 m) rfl rfl ?_
   conv=>whnf
   refine DrawCall_v (ds := [c.d, intsD (othersR c m)]) (wa82 c hR _ (others_len hR _) (othersR_but hR hi2)) rfl rfl ?_
   cases hw : endB c (butSet c m) .zero with
   | true =>
    rw [hw] at he
    conv=>whnf
    refine arith_in (wrap_i64 (by (try dsimp only); omega)) ?_
    conv=>whnf
    exact ⟨acc, ⟨by omega, by simpa using he⟩, (Wk.sub (by repeat' first|exact trivial|refine⟨?_,?_⟩|rfl|(simp only[List.length_map];rfl)|simp[PX.get]) (by repeat' first|exact trivial|refine⟨?_,?_⟩|rfl|(simp only[List.length_map];rfl)|simp[PX.get]))⟩
   | false =>
    rw [hw] at he
    conv=>whnf
    refine ownK_whole rfl ?_
    conv=>whnf
    refine ownK_whole (by simp [Els.len, intsC]) ?_
    conv=>whnf
    refine chk_i (decide_eq_true (by
     show ((intsC acc).length + 1) * 8 ≤ 140737488355328
     simp [intsC]; omega)) ?_
    conv=>whnf
    refine arith_in (wrap_i64 (by (try dsimp only); omega)) ?_
    conv=>whnf
    refine ⟨acc ++ [(m : Int)], ⟨by simp; omega, by simpa using he⟩, Wk.sub ⟨rfl, rfl, ?_, rfl, trivial⟩ ⟨rfl, ?_, trivial⟩⟩
    ·show some (V.sl 29 1 0 ((intsC acc).length + 1)) = _
     simp [intsC]
    ·show some (Obj.arr 1 (Els.dd (intsC acc ++ [[i64 (m : Int)]]))) = _
     simp [intsC]
  ·rintro acc ⟨_, he⟩
   have he : M = acc := by simpa using he
   rw [he]
   conv=>whnf
   refine brk_i (fun h => absurd h (by simp)) (fun _ => ?_)
   conv=>whnf
   refine RetA_view 1 (ds := [intsD acc, i64 0]) ?_ ⟨⟨rfl, rfl⟩, rfl⟩
   exact viewL_cons (viewV_sl (es := intsC acc) rfl (by simp [intsC])) rfl
 ·have hE2 : ¬ (entE c [] = 0 ∧ endB c (allMen c) .zero = true) := fun h => h0 (by rw [← hE, if_pos h.1, if_pos h.2])
  rw [if_neg hE2]
  refine LoopA_p (T := tys) tysOk (by exact drawsB_spec mixed tysOk (by decide +kernel)) (α := Unit) (fun _ => ⟨[(1, .ptr 1 0), (4, .d (i64 E)), (5, .sl 29 1 0 0), (6, .d (i64 0))], [(1, .box (.dd c.cells)), (29, .arr 1 (.dd []))], st⟩)
   (fun _ => True) (fun _ => 0) () ((Wk.born 5 29 1 rfl rfl rfl).trans (Wk.sub (by repeat' first|exact trivial|refine⟨?_,?_⟩|rfl|(simp only[List.length_map];rfl)|simp[PX.get]) (by repeat' first|exact trivial|refine⟨?_,?_⟩|rfl|(simp only[List.length_map];rfl)|simp[PX.get]))) trivial ?_
  rintro _ _
  conv=>whnf
  refine brk_i (fun _ => ?_) (fun h => ?_)
  ·conv=>whnf
   refine brk_i (fun h1 => absurd (of_decide_eq_true h1) h0) (fun _ => ?_)
   conv=>whnf
   exact RetA_view 1 (ds := [intsD [], i64 E]) (viewL_cons (viewV_sl (es := []) rfl rfl) rfl) ⟨⟨rfl, rfl⟩, rfl⟩
  ·conv=>whnf
   exact RetA_view 1 (ds := [intsD [], i64 E]) (viewL_cons (viewV_sl (es := []) rfl rfl) rfl) ⟨⟨rfl, rfl⟩, rfl⟩
theorem relax_intsN (l : List Int) : relax (intsN l) = intsD l := by
 cases l with
 | nil => rfl
 | cons a r => exact relax_ints (a :: r)
theorem few_len (c : WCase) : (fewL c).length ≤ c.men.length := by
 unfold fewL menOf
 rw [List.length_map]
 exact Nat.le_trans (List.length_filter_le _ _) (by rw [List.length_range]; exact Nat.le_refl _)
theorem wa4 (c : WCase) : FnV Try.prog 4 [c.d] (.bool true) := by
 refine fnV_of mixed tysOk Try.func4 rfl (ft := ft4) 1 (by decide +kernel) (by rfl) fun {σ} Y st => ?_
 conv=>whnf
 have hA : ∃ A, (if entE c [] = 0 ∧ endB c (allMen c) .zero = true then (endlW c).1 else []) = A ∧ A.length < 1000000 ∧ ∀ r ∈ A, r.length < 1000000 := by
  refine ⟨_, rfl, ?_⟩
  split
  ·rename_i h
   obtain ⟨hR, _, _⟩ := ent_ok h.1
   obtain ⟨_, _, _, hrows, hlen⟩ := endlW_ok hR h.2
   have hfW : fuelW = 46656 := rfl
   exact ⟨by have : (endlW c).1.length ≤ 46656 := hlen; omega, fun r hr => by have := (hrows r hr).2; omega⟩
  ·exact ⟨by simp, fun r hr => by cases hr⟩
 have hF : ∃ A, (if entE c [] = 0 then fewL c else []) = A ∧ A.length < 1000000 := by
  refine ⟨_, rfl, ?_⟩
  split
  ·rename_i h
   obtain ⟨hR, _, _⟩ := ent_ok h
   have := few_len c
   have := hR.men
   omega
  ·simp
 have hN : ∃ A, (if entE c [] = 0 ∧ endB c (allMen c) .zero = true then needL c else []) = A ∧ A.length < 1000000 := by
  refine ⟨_, rfl, ?_⟩
  split
  ·rename_i h
   obtain ⟨hR, _, _⟩ := ent_ok h.1
   have := need_len c
   have := hR.men
   omega
  ·simp
 obtain ⟨A1, e1, c1, c2⟩ := hA
 obtain ⟨A2, e2, c3⟩ := hF
 obtain ⟨A3, e3, c4⟩ := hN
 have h30 : FnV Try.prog 30 [c.d] (.tup [rotaD A1, i64 (if entE c [] = 0 ∧ endB c (allMen c) .zero = true then (endlW c).2 else 0), i64 (if entE c [] = 0 then (if endB c (allMen c) .zero = true then 0 else 9) else entE c [])]) :=
  FnV.relax (fun {σ} => wa30 c) (by show D.tup [relax _, _, _] = _; rw [relax_if _ _ (relax_rota _), e1]; rfl)
 have h31 : FnV Try.prog 31 [c.d] (.tup [rotaD A1, i64 (if entE c [] = 0 ∧ endB c (allMen c) .zero = true then (endlW c).2 else 0), i64 (if entE c [] = 0 then (if endB c (allMen c) .zero = true then 0 else 9) else entE c [])]) :=
  FnV.relax (fun {σ} => wa31 c) (by show D.tup [relax _, _, _] = _; rw [relax_if _ _ (relax_rota _), e1]; rfl)
 have h32 : FnV Try.prog 32 [c.d] (.tup [intsD A2, i64 (if entE c [] = 0 then (if fewL c = [] then 9 else 0) else entE c [])]) :=
  FnV.relax (fun {σ} => wa32 c) (by show D.tup [relax _, _] = _; rw [relax_ifI _ _ (relax_intsN _), e2]; rfl)
 have h33 : FnV Try.prog 33 [c.d] (.tup [intsD A2, i64 (if entE c [] = 0 then (if fewL c = [] then 9 else 0) else entE c [])]) :=
  FnV.relax (fun {σ} => wa33 c) (by show D.tup [relax _, _] = _; rw [relax_ifI _ _ (relax_intsN _), e2]; rfl)
 have h34 : FnV Try.prog 34 [c.d] (.tup [intsD A3, i64 (if entE c [] = 0 then (if endB c (allMen c) .zero = true then 0 else 9) else entE c [])]) :=
  FnV.relax (fun {σ} => wa34 c) (by show D.tup [relax _, _] = _; rw [relax_ifI _ _ (relax_intsN _), e3]; rfl)
 have h35 : FnV Try.prog 35 [c.d] (.tup [intsD A3, i64 (if entE c [] = 0 then (if endB c (allMen c) .zero = true then 0 else 9) else entE c [])]) := by
  rw [← e3]; exact fun {σ} => wa35 c
 generalize (if entE c [] = 0 ∧ endB c (allMen c) .zero = true then (endlW c).2 else 0) = B1 at h30 h31
 generalize (if entE c [] = 0 then (if endB c (allMen c) .zero = true then (0 : Int) else 9) else entE c []) = B2 at h30 h31 h34 h35
 generalize (if entE c [] = 0 then (if fewL c = [] then (9 : Int) else 0) else entE c []) = B3 at h32 h33
 have h28 : FnV Try.prog 28 [c.d] _ := fun {σ} => wa28 c
 have h29 : FnV Try.prog 29 [c.d] _ := fun {σ} => wa29 c
 generalize (if entE c [] = 0 then lonW c else 0) = B4 at h28 h29
 generalize entE c [] = B5 at h28 h29
 repeat' (first
  | (refine CallA_v (h28) rfl rfl ?_; conv=>whnf)
  | (refine CallA_view (h28) rfl 1 rfl ?_; conv=>whnf)
  | (refine DrawCall_v (h28) rfl rfl ?_; conv=>whnf)
  | (refine DrawCall_view (h28) rfl 1 rfl ?_; conv=>whnf)
  | (refine CallA_v (h29) rfl rfl ?_; conv=>whnf)
  | (refine CallA_view (h29) rfl 1 rfl ?_; conv=>whnf)
  | (refine DrawCall_v (h29) rfl rfl ?_; conv=>whnf)
  | (refine DrawCall_view (h29) rfl 1 rfl ?_; conv=>whnf)
  | (refine CallA_v (h30) rfl rfl ?_; conv=>whnf)
  | (refine CallA_view (h30) rfl 1 rfl ?_; conv=>whnf)
  | (refine DrawCall_v (h30) rfl rfl ?_; conv=>whnf)
  | (refine DrawCall_view (h30) rfl 1 rfl ?_; conv=>whnf)
  | (refine CallA_v (h31) rfl rfl ?_; conv=>whnf)
  | (refine CallA_view (h31) rfl 1 rfl ?_; conv=>whnf)
  | (refine DrawCall_v (h31) rfl rfl ?_; conv=>whnf)
  | (refine DrawCall_view (h31) rfl 1 rfl ?_; conv=>whnf)
  | (refine CallA_v (h32) rfl rfl ?_; conv=>whnf)
  | (refine CallA_view (h32) rfl 1 rfl ?_; conv=>whnf)
  | (refine DrawCall_v (h32) rfl rfl ?_; conv=>whnf)
  | (refine DrawCall_view (h32) rfl 1 rfl ?_; conv=>whnf)
  | (refine CallA_v (h33) rfl rfl ?_; conv=>whnf)
  | (refine CallA_view (h33) rfl 1 rfl ?_; conv=>whnf)
  | (refine DrawCall_v (h33) rfl rfl ?_; conv=>whnf)
  | (refine DrawCall_view (h33) rfl 1 rfl ?_; conv=>whnf)
  | (refine CallA_v (h34) rfl rfl ?_; conv=>whnf)
  | (refine CallA_view (h34) rfl 1 rfl ?_; conv=>whnf)
  | (refine DrawCall_v (h34) rfl rfl ?_; conv=>whnf)
  | (refine DrawCall_view (h34) rfl 1 rfl ?_; conv=>whnf)
  | (refine CallA_v (h35) rfl rfl ?_; conv=>whnf)
  | (refine CallA_view (h35) rfl 1 rfl ?_; conv=>whnf)
  | (refine DrawCall_v (h35) rfl rfl ?_; conv=>whnf)
  | (refine DrawCall_view (h35) rfl 1 rfl ?_; conv=>whnf)
  | (refine CallA_v (fn19 A2 A2 c3) rfl rfl ?_; conv=>whnf)
  | (refine CallA_view (fn19 A2 A2 c3) rfl 1 rfl ?_; conv=>whnf)
  | (refine DrawCall_v (fn19 A2 A2 c3) rfl rfl ?_; conv=>whnf)
  | (refine DrawCall_view (fn19 A2 A2 c3) rfl 1 rfl ?_; conv=>whnf)
  | (refine CallA_v (fn19 A3 A3 c4) rfl rfl ?_; conv=>whnf)
  | (refine CallA_view (fn19 A3 A3 c4) rfl 1 rfl ?_; conv=>whnf)
  | (refine DrawCall_v (fn19 A3 A3 c4) rfl rfl ?_; conv=>whnf)
  | (refine DrawCall_view (fn19 A3 A3 c4) rfl 1 rfl ?_; conv=>whnf)
  | (refine CallA_v (wa24 A1 A1 c1 c2) rfl rfl ?_; conv=>whnf)
  | (refine CallA_view (wa24 A1 A1 c1 c2) rfl 1 rfl ?_; conv=>whnf)
  | (refine DrawCall_v (wa24 A1 A1 c1 c2) rfl rfl ?_; conv=>whnf)
  | (refine DrawCall_view (wa24 A1 A1 c1 c2) rfl 1 rfl ?_; conv=>whnf)
  | (refine CallA_v (wa27) rfl rfl ?_; conv=>whnf)
  | (refine CallA_view (wa27) rfl 1 rfl ?_; conv=>whnf)
  | (refine DrawCall_v (wa27) rfl rfl ?_; conv=>whnf)
  | (refine DrawCall_view (wa27) rfl 1 rfl ?_; conv=>whnf)
  | (simp only [eq_self, decide_true, Bool.not_true]; conv=>whnf)
  | (refine arith_in (wrap_i64 (by (try dsimp only); omega)) ?_; conv=>whnf)
  | (refine elemK_nat (by assumption) ?_; conv=>whnf)
  | (refine ownK_whole (by first | rfl | assumption | (simp [Els.len]; done) | (simp [Els.len]; omega)) ?_; conv=>whnf)
  | (refine chk_i (by first | (exact decide_eq_true (by (try simp only [List.length_map]); omega)) | (simp [Els.len, Els.cons, V.cells, Els.toV, injL]; done) | (simp [Els.len, Els.cons, V.cells, Els.toV, injL]; omega)) ?_; conv=>whnf)
  | fail)
 all_goals exact RetA_view 0 rfl ⟨⟨rfl, rfl⟩, rfl⟩
end Go.PX
