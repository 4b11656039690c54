import Derived.Test.YtpocldjdlookjaaPxL
set_option linter.all false
set_option maxRecDepth 10000
namespace Go.PX
open Go.Proofs
theorem alive_step {c : WCase} {set : Int} {t : Tired} (h : alive c set t) : ∃ u ∈ succF c set t, alive c set u := by
 refine Classical.byContradiction fun hn => ?_
 have h1 : ∀ u ∈ succF c set t, ∃ n, deadN c set n u := fun u hu => Classical.byContradiction fun h2 => hn ⟨u, hu, fun n hd => h2 ⟨n, hd⟩⟩
 have h2 : ∀ l : List Tired, (∀ u ∈ l, ∃ n, deadN c set n u) → ∃ n, ∀ u ∈ l, deadN c set n u := by
  intro l
  induction l with
  | nil => exact fun _ => ⟨0, fun u hu => by cases hu⟩
  | cons a r ih =>
   intro hl
   obtain ⟨n, hn⟩ := ih fun u hu => hl u (by simp [hu])
   obtain ⟨m, hm⟩ := hl a (by simp)
   refine ⟨max n m, fun u hu => ?_⟩
   rcases List.mem_cons.1 hu with rfl | hu
   ·exact deadN_le hm (by omega)
   ·exact deadN_le (hn u hu) (by omega)
 obtain ⟨n, hn'⟩ := h2 _ h1
 exact h (n + 1) hn'
def firstF (c : WCase) (t : Tired) : Option (List Int × Tired) := (groupsF c (allMen c) t).find? fun p => endB c (allMen c) p.2
theorem first_some {c : WCase} (hR : WR c) {t : Tired} (ht : InU c t) (h : endB c (allMen c) t = true) : ∃ p, firstF c t = some p := by
 obtain ⟨u, hu, hua⟩ := alive_step ((endB_iff hR ht).1 h)
 obtain ⟨p, hp, rfl⟩ := List.mem_map.1 hu
 cases hf : firstF c t with
 | some q => exact ⟨q, rfl⟩
 | none =>
  have := List.find?_eq_none.1 hf p hp
  exact absurd ((endB_iff hR (groups_InU hR ht hp)).2 hua) this
def endlF (c : WCase) : Nat → Kn → List (List Int) → Tired → List (List Int) × Int
 | 0, _, _, _ => ([], 0)
 | n + 1, seen, rota, t => match getK seen t with
  | some i => (rota, i)
  | none => match firstF c t with
   | some p => endlF c n (putK seen t rota.length) (rota ++ [p.1]) p.2
   | none => ([], 0)
def endlW (c : WCase) : List (List Int) × Int := endlF c (fuelW + 1) [] [] .zero
def cntN (c : WCase) (kn : Kn) : Nat := ((univ c).filter fun t => getK kn t == none).length
theorem cntN_put {c : WCase} {kn : Kn} {t : Tired} (ht : InU c t) (h : getK kn t = none) (y : Int) : cntN c (putK kn t y) < cntN c kn := by
 refine filter_lt (fun u hu => ?_) ht.mem (by simp [h]) (by simp [get_put_kn])
 simp only [get_put_kn, beq_iff_eq] at hu ⊢
 split at hu
 ·cases hu
 ·exact hu
def endlH (c : WCase) (seen kn : Kn) (rota : List (List Int)) (t : Tired) : Heap :=
 [(2, .box (.vv [.sl 900000 1 0 rota.length])), (900000, .arr 1 (.dd (rota.map fun r => [intsD r]))), (27, .map (knD seen)), (8, .box (.dd t.cells)), (101408, .map (knD kn)), (101409, .map []), (101410, .box (.vv [.d (crewD c (allMen c)), .mp 101408, .mp 101409])), (6, .box (.vv [.ptr 101410 0]))]
theorem wa30 (c : WCase) : FnV Try.prog 30 [c.d] (.tup [if entE c [] = 0 ∧ endB c (allMen c) .zero = true then rotaD (endlW c).1 else .nils, i64 (if entE c [] = 0 ∧ endB c (allMen c) .zero = true then (endlW c).2 else 0), i64 (if entE c [] = 0 then (if endB c (allMen c) .zero = true then 0 else 9) else entE c [])]) := by
 refine fnV_of mixed tysOk Try.func30 rfl (ft := (ft30.more 17 [103328])) 1 (by decide +kernel) (by rfl) fun {σ} Y st => ?_
 conv=>whnf
 refine CallA_nil1 ?_
 refine CallA_v (ds := [c.d, rotaD []]) (wa63 c []) rfl rfl ?_
 conv=>whnf
 by_cases h0 : entE c [] = 0
 ·obtain ⟨hR, hl, _⟩ := ent_ok h0
  rw [h0]
  simp only [if_true, true_and]
  conv=>whnf
  refine CallA_fn (wa72 c (allMen c)) [] rfl rfl rfl ?_
  conv=>whnf
  obtain ⟨kn1, hk1, hE⟩ := end_call hR (set := allMen c) .nil [] (InU.zero hR)
  refine CallA_fn hE [101410, 101408, 101409] rfl ?lent rfl ?_
  case lent => exact ⟨_, _, rfl, box_same rfl ⟨rfl, rfl, rfl, trivial⟩, _, _, rfl, rfl, _, _, rfl, rfl, rfl⟩
  cases hb : endB c (allMen c) .zero with
  | false =>
   conv=>whnf
   exact RetA_view 0 rfl ⟨⟨rfl, rfl⟩, rfl⟩
  | true =>
   simp only [if_true]
   conv=>whnf
   unfold endlW
   generalize hres : endlF c (fuelW + 1) [] [] .zero = res
   refine LoopA_p (T := tys) tysOk (by exact drawsB_spec mixed tysOk (by decide +kernel)) (α := Kn × Kn × List (List Int) × Tired) (fun x => ⟨[(2, .ptr 2 0), (3, .d (i64 0)), (4, .d (i64 0)), (5, .d (crewD c (allMen c))), (6, .ptr 6 0), (7, .mp 27), (8, .ptr 8 0)], endlH c x.1 x.2.1 x.2.2.1 x.2.2.2, st⟩)
    (fun x => InU c x.2.2.2 ∧ KnGood c (allMen c) x.2.1 ∧ endB c (allMen c) x.2.2.2 = true ∧ x.2.2.1.length + cntN c x.1 ≤ fuelW ∧ ∃ n, cntN c x.1 < n ∧ endlF c n x.1 x.2.2.1 x.2.2.2 = res) (fun x => cntN c x.1) ([], kn1, [], .zero)
    ((Wk.bornBox 2 900000 1 rfl rfl rfl rfl).trans (Wk.sub (by repeat' first|exact trivial|refine⟨?_,?_⟩|rfl|(simp only[List.length_map];rfl)|simp[PX.get]) (by repeat' first|exact trivial|refine⟨?_,?_⟩|rfl|(simp only[List.length_map];rfl)|simp[PX.get]))) ⟨InU.zero hR, hk1, hb, ?_, fuelW + 1, ?_, hres⟩ ?_
   ·have h1 : cntN c [] ≤ (univ c).length := List.length_filter_le ..
    have := univ_fuel hR
    simp; omega
   ·have h1 : cntN c [] ≤ (univ c).length := List.length_filter_le ..
    have := univ_fuel hR
    show cntN c [] < fuelW + 1
    omega
   rintro ⟨seen, kn, rota, t⟩ ⟨ht, hk, ha, hlen, n, hn, hr⟩
   simp only at ht hk ha hlen hn hr
   conv=>whnf
   cases hs : getK seen t with
   | some v =>
    obtain ⟨ix, hx1, hx2⟩ := find_kn_some hs 0
    refine ⟨_, hx1, ?_⟩
    conv=>whnf
    obtain ⟨m, rfl⟩ : ∃ m, n = m + 1 := ⟨n - 1, by omega⟩
    rw [endlF, hs] at hr
    rw [← hr]
    refine RetA_view 1 (ds := [rotaD rota, i64 v, i64 0]) ?_ ⟨⟨rfl, rfl⟩, rfl⟩
    exact viewL_cons (viewV_sl (es := rota.map fun r => [intsD r]) rfl (by simp)) rfl
   | none =>
    refine ⟨none, find_kn_none hs 0, ?_⟩
    conv=>whnf
    refine ⟨none, find_kn_none hs 0, ?_⟩
    conv=>whnf
    refine CallA_v (wa68 c (allMen c) t) rfl rfl ?_
    conv=>whnf
    obtain ⟨m, rfl⟩ : ∃ m, n = m + 1 := ⟨n - 1, by omega⟩
    rw [endlF, hs] at hr
    obtain ⟨⟨g0, u0⟩, hf⟩ := first_some hR ht ha
    rw [hf] at hr
    simp only at hr
    have hcn := cntN_put ht hs rota.length
    have hp0 : (g0, u0) ∈ groupsF c (allMen c) t := List.mem_of_find?_eq_some hf
    have ha0 : endB c (allMen c) u0 = true := by have := List.find?_some hf; exact this
    obtain ⟨hto, hts⟩ := ht.tok hR
    refine RangeA.wk (st' := ⟨[(2, .ptr 2 0), (3, .d (i64 0)), (4, .d (i64 0)), (5, .d (crewD c (allMen c))), (6, .ptr 6 0), (7, .mp 27), (8, .ptr 8 0), (44, .d (.clo 93 [.ref [crewD c (allMen c)], .ref t.cells]))], endlH c (putK seen t rota.length) kn rota t, st⟩) (Wk.sub ⟨rfl, rfl, rfl, rfl, rfl, rfl, rfl, rfl, trivial⟩ ⟨rfl, rfl, by rw [← put_kn_none hs]; rfl, rfl, rfl, rfl, rfl, rfl, trivial⟩) ?_
    refine RangeA_list tysOk (by exact drawsB_spec mixed tysOk (by decide +kernel)) (by exact drawsB_spec mixed tysOk (by decide +kernel)) rfl 1500000 1600000 [2, 900000, 27, 8, 101408, 101409, 101410, 6] (by exact yields93 c hR (allMen c) t hto hts)
     (fun (x : Kn) => ([(1500000, .box (.vv [.sl 1500001 1 0 rota.length])), (1500001, .arr 1 (.dd (rota.map fun r => [intsD r]))), (1500002, .map (knD (putK seen t rota.length))), (1500003, .box (.dd t.cells)), (1500004, .map (knD x)), (1500005, .map []), (1500006, .box (.vv [.d (crewD c (allMen c)), .mp 1500004, .mp 1500005])), (1500007, .box (.vv [.ptr 1500006 0]))], st))
     (fun (rest : List (List Int × Tired)) x => (rest.find? fun p => endB c (allMen c) p.2) = some (g0, u0) ∧ KnGood c (allMen c) x ∧ ∀ p ∈ rest, p.1.length ≤ 2 ∧ InU c p.2) kn rfl rfl rfl ⟨hf, hk, fun p hp => ⟨groups_len hR hp, groups_InU hR ht hp⟩⟩ ?_ ?_
    ·rintro ⟨g, u⟩ rest x ⟨he, hx, hgs⟩ Q hQ1 hQ
     obtain ⟨hg2, hu⟩ := hgs (g, u) (by simp)
     have hgl : g.length ≤ 1000 := by simp only at hg2; omega
     refine ⟨⟨rfl, item_okL _⟩, ?_⟩
     obtain ⟨kn', hk', hE⟩ := end_call hR hx [] hu
     conv=>whnf
     refine CallA_fn hE [1500006, 1500004, 1500005] rfl ?lent rfl ?_
     case lent => exact ⟨_, _, rfl, box_same rfl ⟨rfl, rfl, rfl, trivial⟩, _, _, rfl, rfl, _, _, rfl, rfl, rfl⟩
     cases hb2 : endB c (allMen c) u with
     | false =>
      rw [List.find?_cons_of_neg (by simp [hb2])] at he
      conv=>whnf
      exact ⟨kn', (Wk.sub trivial (by repeat' first|exact trivial|refine⟨?_,?_⟩|rfl|(simp only[List.length_map];rfl)|simp[PX.get])), rfl, hQ1 _ ⟨he, hk', fun p hp => hgs p (by simp [hp])⟩⟩
     | true =>
      rw [List.find?_cons_of_pos (by simp [hb2])] at he
      cases he
      conv=>whnf
      refine DrawCall_fn (wa69o g0 hgl) [1600000] rfl ⟨_, _, rfl, rfl, rfl⟩ rfl ?_
      conv=>whnf
      refine ownK_whole rfl ?_
      conv=>whnf
      refine ownK_whole (by simp [Els.len]) ?_
      conv=>whnf
      have hfree : (true && !nameBL 54 ((injL (rota.map fun r => [intsD r]) ++ [[V.sl 103328 1 0 g0.length]]).flatten)) = true := by
       rw [nameBL_injL]; rfl
      refine chk_i hfree ?_
      conv=>whnf
      refine chk_i (decide_eq_true (by
       show ((rota.map fun r => [intsD r]).length + 1) * 24 ≤ 140737488355328
       unfold fuelW at hlen
       rw [List.length_map]; omega)) ?_
      conv=>whnf
      refine forceN_to [103328, 54] (by
       show namesOfL ((injL (rota.map fun r => [intsD r]) ++ [[V.sl 103328 1 0 g0.length]]).flatten) ++ ([54] ++ []) = _
       rw [namesOfL_injL]; rfl) ?_
      conv=>whnf
      refine ⟨[(1500000, .box (.vv [.sl 54 1 0 (rota ++ [g0]).length])), (54, .arr 1 (.dd ((rota ++ [g0]).map fun r => [intsD r]))), (1500002, .map (knD (putK seen t rota.length))), (1500003, .box (.dd u0.cells)), (1500004, .map (knD kn')), (1500005, .map []), (1500006, .box (.vv [.d (crewD c (allMen c)), .mp 1500004, .mp 1500005])), (1500007, .box (.vv [.ptr 1500006 0]))], st, (Wk.frzArr 1 [103328] 54 (sz := 1) (vs := injL (rota.map fun r => [intsD r]) ++ [[.sl 103328 1 0 g0.length]]) (ds := (rota.map fun r => [intsD r]) ++ [[intsD g0]]) ?_ (viewLL_app (viewLL_one (viewL_cons (viewV_sl rfl (by simp [intsC])) rfl)) _)).trans ?_, rfl, hQ _ _ _ ?_⟩
      ·rfl
      ·refine Wk.sub trivial ⟨?_, ?_, rfl, rfl, rfl, rfl, rfl, rfl, rfl, trivial⟩
       ·show some (Obj.box (Cells.vv [V.sl 54 1 0 ((rota.map fun r => [intsD r]).length + 1)])) = some (Obj.box (Cells.vv [V.sl 54 1 0 (rota ++ [g0]).length]))
        simp
       ·show some (Obj.arr 1 (Els.dd ((rota.map fun r => [intsD r]) ++ [[intsD g0]]))) = some (Obj.arr 1 (Els.dd ((rota ++ [g0]).map fun r => [intsD r])))
        simp
      ·conv=>whnf
       refine ⟨(putK seen t rota.length, kn', rota ++ [g0], u0), by simp only; omega, ⟨hu, hk', ha0, by simp only [List.length_append, List.length_singleton]; omega, m, by simp only; omega, hr⟩, (Wk.move 54 900000 rfl rfl).trans (Wk.sub (by repeat' first|exact trivial|refine⟨?_,?_⟩|rfl|(simp only[List.length_map];rfl)|simp[PX.get]) (by repeat' first|exact trivial|refine⟨?_,?_⟩|rfl|(simp only[List.length_map];rfl)|simp[PX.get]))⟩
    ·rintro x ⟨he, _, _⟩
     simp at he
 ·simp only [h0, false_and, if_false]
  conv=>whnf
  exact RetA_view 0 rfl ⟨⟨rfl, rfl⟩, rfl⟩
end Go.PX
namespace Go.PX
open Go.Proofs
def shrU (n k : Int) : Int := n.fdiv (2 ^ min k.toNat IntKind.u64.bits)
def shlU (n k : Int) : Int := IntKind.u64.wrap (n * 2 ^ min k.toNat IntKind.u64.bits)
def andU (a b : Int) : Int := bitsI .and .u64 a b
def orU (a b : Int) : Int := bitsI .or .u64 a b
def addU (a b : Int) : Int := IntKind.u64.wrap (a + b)
def pop1 (n : Int) : Int := addU (andU (shrU n 1) 6148914691236517205) (andU n 6148914691236517205)
def pop2 (n : Int) : Int := addU (andU (shrU n 2) 3689348814741910323) (andU n 3689348814741910323)
def pop3 (n : Int) : Int := andU (addU (shrU n 4) n) 1085102592571150095
def pop4 (k n : Int) : Int := addU n (shrU n k)
def pop64 (n : Int) : Int := bitsI .and .i64 (IntKind.i64.wrap (pop4 32 (pop4 16 (pop4 8 (pop3 (pop2 (pop1 n))))))) 127
theorem wa110 (n : Int) : FnV Try.prog 110 [.int .u64 n] (i64 (pop64 n)) := by
 refine fnV_of mixed tysOk Try.func110 rfl (ft := ft110) 1 (by decide +kernel) (by rfl) fun {σ} Y st => ?_
 conv=>whnf
 repeat' (first | (refine arith.mk ?_; conv=>whnf) | fail)
 exact RetA_view 0 rfl ⟨⟨rfl, rfl⟩, rfl⟩
def rev1 (k m n : Int) : Int := orU (andU (shrU n k) m) (shlU (andU n m) k)
def revB (n : Int) : Int := orU (shrU (rev1 16 281470681808895 (rev1 8 71777214294589695 n)) 32) (shlU (rev1 16 281470681808895 (rev1 8 71777214294589695 n)) 32)
def rev64 (n : Int) : Int := revB (rev1 4 1085102592571150095 (rev1 2 3689348814741910323 (rev1 1 6148914691236517205 n)))
theorem wa115 (n : Int) : FnV Try.prog 115 [.int .u64 n] (.int .u64 (revB n)) := by
 refine fnV_of mixed tysOk Try.func115 rfl (ft := ft115) 1 (by decide +kernel) (by rfl) fun {σ} Y st => ?_
 conv=>whnf
 repeat' (first | (refine arith.mk ?_; conv=>whnf) | fail)
 exact RetA_view 0 rfl ⟨⟨rfl, rfl⟩, rfl⟩
theorem wa112 (n : Int) : FnV Try.prog 112 [.int .u64 n] (.int .u64 (rev64 n)) := by
 refine fnV_of mixed tysOk Try.func112 rfl (ft := ft112) 1 (by decide +kernel) (by rfl) fun {σ} Y st => ?_
 conv=>whnf
 repeat' (first | (refine arith.mk ?_; conv=>whnf) | fail)
 refine CallA_v (ds := [.int .u64 (rev1 4 1085102592571150095 (rev1 2 3689348814741910323 (rev1 1 6148914691236517205 n)))]) (wa115 _) rfl rfl ?_
 conv=>whnf
 exact RetA_view 0 rfl ⟨⟨rfl, rfl⟩, rfl⟩
theorem wa99 (n : Int) : FnV Try.prog 99 [.int .u64 n] (i64 (pop64 n)) := by
 refine fnV_of mixed tysOk Try.func99 rfl (ft := ft99) 1 (by decide +kernel) (by rfl) fun {σ} Y st => ?_
 conv=>whnf
 refine CallA_v (ds := [.int .u64 n]) (wa110 n) rfl rfl ?_
 conv=>whnf
 exact RetA_view 0 rfl ⟨⟨rfl, rfl⟩, rfl⟩
theorem wa100 (n : Int) : FnV Try.prog 100 [.int .u64 n] (.int .u64 (rev64 n)) := by
 refine fnV_of mixed tysOk Try.func100 rfl (ft := ft100) 1 (by decide +kernel) (by rfl) fun {σ} Y st => ?_
 conv=>whnf
 refine CallA_v (ds := [.int .u64 n]) (wa112 n) rfl rfl ?_
 conv=>whnf
 exact RetA_view 0 rfl ⟨⟨rfl, rfl⟩, rfl⟩
def popC (n : Int) : Int := pop64 (IntKind.u64.wrap n)
def revC (n : Int) : Int := rev64 (IntKind.u64.wrap n)
def beforeB (set best : Int) : Bool := decide (best < 0) || decide (popC set < popC best) || (decide (popC set = popC best) && decide (revC best < revC set))
end Go.PX
namespace Go.PX
open Go.Proofs
theorem wa72o (c : WCase) (set : Int) : FnU Try.prog 72 [.ptr 1000000 0] [(1000000, .box (.dd (crewCells c set)))] fun v h' => v = .ptr 2000002 0 ∧ h' = [(2000000, .map []), (2000001, .map []), (2000002, .box (.vv [.d (crewD c set), .mp 2000000, .mp 2000001]))] := by
 intro σ Y s
 refine fnC_of mixed tysOk Try.func72 rfl (ft := ft72) (args := [.ptr 1000000 0]) (show fnB ft72 Try.f72 1 = true from by decide +kernel) ?_
 conv=>whnf
 refine RetA_wk ((Wk.frz 1 [1000000]).trans (Wk.sub (e' := enterE 0 [.ptr 7 0]) (h' := [(4, .map []), (5, .map []), (7, .box (.vv [.d (crewD c set), .mp 4, .mp 5]))]) ⟨rfl, trivial⟩ ⟨rfl, rfl, rfl, trivial⟩)) rfl rfl ?_
 exact RetA_hand [4, 5, 7] [.ptr 2000002 0] [(2000000, .map []), (2000001, .map []), (2000002, .box (.vv [.d (crewD c set), .mp 2000000, .mp 2000001]))] rfl ⟨rfl, rfl, rfl, trivial⟩ rfl ⟨⟨rfl, rfl⟩, rfl⟩
theorem wa80 (c : WCase) (hR : WR c) (set : Int) : FnV Try.prog 80 [i64 set, .ref c.cells] (.bool (endB c set .zero)) := by
 refine fnV_of mixed tysOk Try.func80 rfl (ft := ft80) 2 (by decide +kernel) (by rfl) fun {σ} Y st => ?_
 conv=>whnf
 refine CallA_fn (wa72o c set) [7] rfl ⟨_, _, rfl, rfl, rfl⟩ rfl ?_
 conv=>whnf
 obtain ⟨kn1, hk1, hE⟩ := end_call hR (set := set) .nil [] (InU.zero hR)
 refine CallA_fn hE [100514, 100512, 100513] rfl ?lent rfl ?_
 case lent => exact ⟨_, _, rfl, box_same rfl ⟨rfl, rfl, rfl, trivial⟩, _, _, rfl, rfl, _, _, rfl, rfl, rfl⟩
 conv=>whnf
 exact RetA_view 0 rfl ⟨⟨rfl, rfl⟩, rfl⟩
def bestF (w : Int → Bool) (best : Int) (set : Int) : Int := if beforeB set best && w set then set else best
def setsL (many : Nat) : List Int := (List.range' 1 (2 ^ many - 1)).map fun (i : Nat) => (i : Int)
def firstS (w : Int → Bool) (many : Nat) : Int := (setsL many).foldl (bestF w) (-1)
def menOf (set : Int) (many : Nat) : List Int := ((List.range many).filter fun (i : Nat) => decide (set ≥ 0) && inSet set i).map fun (i : Nat) => (i : Int)
def intsN (l : List Int) : D := match l with
 | [] => .nils
 | x :: r => intsD (x :: r)
theorem bit_one (set : Int) (j : Nat) : bitsI .and .i64 (set.fdiv (2 ^ min (j : Int).toNat IntKind.i64.bits)) 1 = 0 ∨ bitsI .and .i64 (set.fdiv (2 ^ min (j : Int).toNat IntKind.i64.bits)) 1 = 1 := by
 generalize (set.fdiv (2 ^ min (j : Int).toNat IntKind.i64.bits)) = a
 show IntKind.i64.wrap (BitVec.ofInt 64 a &&& BitVec.ofInt 64 1).toNat = 0 ∨ IntKind.i64.wrap (BitVec.ofInt 64 a &&& BitVec.ofInt 64 1).toNat = 1
 have h : (BitVec.ofInt 64 a &&& BitVec.ofInt 64 1).toNat = (BitVec.ofInt 64 a).toNat % 2 := by
  rw [BitVec.toNat_and]
  exact Nat.and_one_is_mod _
 rw [h]
 have h2 : (BitVec.ofInt 64 a).toNat % 2 = 0 ∨ (BitVec.ofInt 64 a).toNat % 2 = 1 := by omega
 rcases h2 with h2 | h2 <;> rw [h2]
 ·left; decide
 ·right; decide
theorem wa79 (many : Nat) (hm : many ≤ 5) (g : FuncId) (caps : List D) (w : Int → Bool) (hw : ∀ set, FnV Try.prog g (i64 set :: caps) (.bool (w set))) :
  FnV Try.prog 79 [i64 many, .clo g caps] (intsN (menOf (firstS w many) many)) := by
 refine fnV_of mixed tysOk Try.func79 rfl (ft := ft79) 2 (by decide +kernel) (by rfl) fun {σ} Y st => ?_
 conv=>whnf
 have hp : (2 : Int) ^ many ≤ 32 := by
  have : many = 0 ∨ many = 1 ∨ many = 2 ∨ many = 3 ∨ many = 4 ∨ many = 5 := by omega
  rcases this with rfl | rfl | rfl | rfl | rfl | rfl <;> decide
 have hpn : (2 : Nat) ^ many ≤ 32 := by
  have : many = 0 ∨ many = 1 ∨ many = 2 ∨ many = 3 ∨ many = 4 ∨ many = 5 := by omega
  rcases this with rfl | rfl | rfl | rfl | rfl | rfl <;> decide
 have hp1 : 1 ≤ (2 : Nat) ^ many := Nat.one_le_two_pow
 have hpc : (2 : Int) ^ many = ((2 ^ many : Nat) : Int) := by simp
 generalize hres : firstS w many = res
 refine LoopA_p (T := tys) tysOk (by exact drawsB_spec mixed tysOk (by decide +kernel)) (α := Nat × Int) (fun x => ⟨[(0, .d (i64 many)), (1, .d (.clo g caps)), (4, .d .nils), (5, .d (i64 x.2)), (6, .d (i64 x.1))], [], st⟩)
  (fun x => 1 ≤ x.1 ∧ x.1 ≤ 2 ^ many ∧ (-1 ≤ x.2 ∧ x.2 < 32) ∧ ((List.range' x.1 (2 ^ many - x.1)).map fun (i : Nat) => (i : Int)).foldl (bestF w) x.2 = res) (fun x => 2 ^ many - x.1) (1, -1)
  (Wk.sub (by repeat' first|exact trivial|refine⟨?_,?_⟩|rfl|(simp only[List.length_map];rfl)|simp[PX.get]) trivial) ⟨by simp, hp1, by simp, hres⟩ ?_
 clear hres
 rintro ⟨i, best⟩ ⟨h1, h2, hb, hr⟩
 simp only at h1 h2 hb hr
 conv=>whnf
 refine arith_to ((2 ^ many : Nat) : Int) (by
  rw [show min (many : Int).toNat IntKind.i64.bits = many by show min many 64 = many; omega, Int.one_mul, hpc]) (wrap_i64 (by omega)) ?_
 conv=>whnf
 refine brk_i (fun hlt => ?_) (fun hlt => ?_)
 ·have hlt : i < 2 ^ many := by have := of_decide_eq_true hlt; simp at this; omega
  obtain ⟨k, hk⟩ : ∃ k, 2 ^ many - i = k + 1 := ⟨2 ^ many - i - 1, by omega⟩
  have hk2 : 2 ^ many - (i + 1) = k := by omega
  rw [hk, List.range'_succ, List.map_cons, List.foldl_cons] at hr
  conv=>whnf
  refine arith.mk ?_
  conv=>whnf
  refine CallA_v (ds := [.int .u64 (IntKind.u64.wrap i)]) (wa99 _) rfl rfl ?_
  conv=>whnf
  refine arith.mk ?_
  conv=>whnf
  refine CallA_v (ds := [.int .u64 (IntKind.u64.wrap best)]) (wa99 _) rfl rfl ?_
  conv=>whnf
  refine brk_i (fun hA => ?_) (fun hA => ?_)
  ·have hB : beforeB i best = true := by unfold beforeB; rw [show decide (best < 0) = true from hA]; rfl
   conv=>whnf
   refine CallA_v (ds := i64 i :: caps) (hw i) rfl rfl ?_
   conv=>whnf
   refine brk_i (fun hW => ?_) (fun hW => ?_)
   ·have hW : w i = true := hW
    have hbf : bestF w best i = i := by unfold bestF; rw [hB, hW]; rfl
    rw [hbf] at hr
    conv=>whnf
    refine arith_to (((i + 1 : Nat) : Int)) (by (try dsimp only); omega) (wrap_i64 (by (try dsimp only); omega)) ?_
    conv=>whnf
    exact ⟨(i + 1, (i : Int)), by simp only; omega, ⟨by simp only; omega, by simp only; omega, by simp only; omega, by simp only; rw [hk2]; exact hr⟩, (Wk.sub (by repeat' first|exact trivial|refine⟨?_,?_⟩|rfl|(simp only[List.length_map];rfl)|simp[PX.get]) trivial)⟩
   ·have hW : w i = false := hW
    have hbf : bestF w best i = best := by unfold bestF; rw [hB, hW]; rfl
    rw [hbf] at hr
    conv=>whnf
    refine arith_to (((i + 1 : Nat) : Int)) (by (try dsimp only); omega) (wrap_i64 (by (try dsimp only); omega)) ?_
    conv=>whnf
    exact ⟨(i + 1, best), by simp only; omega, ⟨by simp only; omega, by simp only; omega, hb, by simp only; rw [hk2]; exact hr⟩, (Wk.sub (by repeat' first|exact trivial|refine⟨?_,?_⟩|rfl|(simp only[List.length_map];rfl)|simp[PX.get]) trivial)⟩
  have hA : decide (best < 0) = false := hA
  conv=>whnf
  refine brk_i (fun hB1 => ?_) (fun hB1 => ?_)
  ·have hB1 : decide (popC i < popC best) = true := hB1
   have hB : beforeB i best = true := by unfold beforeB; rw [hA, hB1]; rfl
   conv=>whnf
   refine CallA_v (ds := i64 i :: caps) (hw i) rfl rfl ?_
   conv=>whnf
   refine brk_i (fun hW => ?_) (fun hW => ?_)
   ·have hW : w i = true := hW
    have hbf : bestF w best i = i := by unfold bestF; rw [hB, hW]; rfl
    rw [hbf] at hr
    conv=>whnf
    refine arith_to (((i + 1 : Nat) : Int)) (by (try dsimp only); omega) (wrap_i64 (by (try dsimp only); omega)) ?_
    conv=>whnf
    exact ⟨(i + 1, (i : Int)), by simp only; omega, ⟨by simp only; omega, by simp only; omega, by simp only; omega, by simp only; rw [hk2]; exact hr⟩, (Wk.sub (by repeat' first|exact trivial|refine⟨?_,?_⟩|rfl|(simp only[List.length_map];rfl)|simp[PX.get]) trivial)⟩
   ·have hW : w i = false := hW
    have hbf : bestF w best i = best := by unfold bestF; rw [hB, hW]; rfl
    rw [hbf] at hr
    conv=>whnf
    refine arith_to (((i + 1 : Nat) : Int)) (by (try dsimp only); omega) (wrap_i64 (by (try dsimp only); omega)) ?_
    conv=>whnf
    exact ⟨(i + 1, best), by simp only; omega, ⟨by simp only; omega, by simp only; omega, hb, by simp only; rw [hk2]; exact hr⟩, (Wk.sub (by repeat' first|exact trivial|refine⟨?_,?_⟩|rfl|(simp only[List.length_map];rfl)|simp[PX.get]) trivial)⟩
  have hB1 : decide (popC i < popC best) = false := hB1
  conv=>whnf
  refine brk_i (fun hC => ?_) (fun hC => ?_)
  ·have hC : decide (popC i = popC best) = true := hC
   conv=>whnf
   refine arith.mk ?_
   conv=>whnf
   refine CallA_v (ds := [.int .u64 (IntKind.u64.wrap i)]) (wa100 _) rfl rfl ?_
   conv=>whnf
   refine arith.mk ?_
   conv=>whnf
   refine CallA_v (ds := [.int .u64 (IntKind.u64.wrap best)]) (wa100 _) rfl rfl ?_
   conv=>whnf
   refine brk_i (fun hD => ?_) (fun hD => ?_)
   ·have hD : decide (revC best < revC i) = true := hD
    have hB : beforeB i best = true := by unfold beforeB; rw [hA, hB1, hC, hD]; rfl
    conv=>whnf
    refine CallA_v (ds := i64 i :: caps) (hw i) rfl rfl ?_
    conv=>whnf
    refine brk_i (fun hW => ?_) (fun hW => ?_)
    ·have hW : w i = true := hW
     have hbf : bestF w best i = i := by unfold bestF; rw [hB, hW]; rfl
     rw [hbf] at hr
     conv=>whnf
     refine arith_to (((i + 1 : Nat) : Int)) (by (try dsimp only); omega) (wrap_i64 (by (try dsimp only); omega)) ?_
     conv=>whnf
     exact ⟨(i + 1, (i : Int)), by simp only; omega, ⟨by simp only; omega, by simp only; omega, by simp only; omega, by simp only; rw [hk2]; exact hr⟩, (Wk.sub (by repeat' first|exact trivial|refine⟨?_,?_⟩|rfl|(simp only[List.length_map];rfl)|simp[PX.get]) trivial)⟩
    ·have hW : w i = false := hW
     have hbf : bestF w best i = best := by unfold bestF; rw [hB, hW]; rfl
     rw [hbf] at hr
     conv=>whnf
     refine arith_to (((i + 1 : Nat) : Int)) (by (try dsimp only); omega) (wrap_i64 (by (try dsimp only); omega)) ?_
     conv=>whnf
     exact ⟨(i + 1, best), by simp only; omega, ⟨by simp only; omega, by simp only; omega, hb, by simp only; rw [hk2]; exact hr⟩, (Wk.sub (by repeat' first|exact trivial|refine⟨?_,?_⟩|rfl|(simp only[List.length_map];rfl)|simp[PX.get]) trivial)⟩
   ·have hD : decide (revC best < revC i) = false := hD
    have hB : beforeB i best = false := by unfold beforeB; rw [hA, hB1, hC, hD]; rfl
    conv=>whnf
    refine arith_to (((i + 1 : Nat) : Int)) (by (try dsimp only); omega) (wrap_i64 (by (try dsimp only); omega)) ?_
    conv=>whnf
    have hbf : bestF w best i = best := by unfold bestF; rw [hB]; rfl
    rw [hbf] at hr
    exact ⟨(i + 1, best), by simp only; omega, ⟨by simp only; omega, by simp only; omega, hb, by simp only; rw [hk2]; exact hr⟩, (Wk.sub (by repeat' first|exact trivial|refine⟨?_,?_⟩|rfl|(simp only[List.length_map];rfl)|simp[PX.get]) trivial)⟩
  ·have hC : decide (popC i = popC best) = false := hC
   have hB : beforeB i best = false := by unfold beforeB; rw [hA, hB1, hC]; rfl
   conv=>whnf
   refine arith_to (((i + 1 : Nat) : Int)) (by (try dsimp only); omega) (wrap_i64 (by (try dsimp only); omega)) ?_
   conv=>whnf
   have hbf : bestF w best i = best := by unfold bestF; rw [hB]; rfl
   rw [hbf] at hr
   exact ⟨(i + 1, best), by simp only; omega, ⟨by simp only; omega, by simp only; omega, hb, by simp only; rw [hk2]; exact hr⟩, (Wk.sub (by repeat' first|exact trivial|refine⟨?_,?_⟩|rfl|(simp only[List.length_map];rfl)|simp[PX.get]) trivial)⟩
 ·have hlt : ¬ i < 2 ^ many := by have := of_decide_eq_false hlt; simp at this; omega
  rw [show 2 ^ many - i = 0 by omega] at hr
  have hr : best = res := hr
  subst hr
  conv=>whnf
  generalize hM : menOf best many = M
  refine LoopA_i (T := tys) tysOk (by exact drawsB_spec mixed tysOk (by decide +kernel)) (List.range many) (fun j (acc : List Int) => ⟨[(4, match acc with
    | [] => .d .nils
    | x :: r => .sl 67 1 0 (x :: r).length), (5, .d (i64 best)), (51, .d (i64 many)), (52, .d (i64 j))], match acc with
    | [] => []
    | x :: r => [(67, .arr 1 (.dd (intsC (x :: r))))], st⟩)
   (fun j r acc => acc.length ≤ j ∧ M = acc ++ (r.filter fun (i : Nat) => decide (best ≥ 0) && inSet best i).map fun (i : Nat) => (i : Int)) [] (Wk.sub (by repeat' first|exact trivial|refine⟨?_,?_⟩|rfl|(simp only[List.length_map];rfl)|simp[PX.get]) trivial) ⟨by simp, hM.symm⟩ ?_ ?_
  ·intro j x r acc hx hj hr2 hi
   obtain ⟨hal, he⟩ := hi
   have hxj : j = x := by
    rw [List.getElem?_range (by simpa using hj)] at hx
    exact Option.some.inj hx
   subst hxj
   have hjm : j < many := by simpa using hj
   have hbit := bit_one best j
   have hfl : ∀ b : Bool, (decide (best ≥ 0) && inSet best j) = b → ((j :: r).filter fun (i : Nat) => decide (best ≥ 0) && inSet best i) = (if b then [j] else []) ++ r.filter fun (i : Nat) => decide (best ≥ 0) && inSet best i := by
    intro b hb
    rw [List.filter_cons, hb]
    cases b <;> rfl
   cases acc with
   | nil =>
    conv=>whnf
    refine brk_i (fun _ => ?_) (fun h => absurd hjm (by have := of_decide_eq_false h; omega))
    conv=>whnf
    refine brk_i (fun h0 => ?_) (fun h0 => ?_)
    ·have h0 : decide (best ≥ 0) = true := h0
     conv=>whnf
     refine brk_i (fun h3 => ?_) (fun h3 => ?_)
     ·have h3 : bitsI .and .i64 (best.fdiv (2 ^ min (j : Int).toNat IntKind.i64.bits)) 1 = 1 := of_decide_eq_true h3
      have h4 : inSet best j = true := by
       show (!decide (bitsI .and .i64 (best.fdiv (2 ^ min (j : Int).toNat IntKind.i64.bits)) 1 = 0)) = true
       rw [h3]; rfl
      rw [hfl true (by rw [h0, h4]; rfl)] at he
      conv=>whnf
      refine ownK_whole rfl ?_
      conv=>whnf
      refine arith_in (wrap_i64 (by (try dsimp only); omega)) ?_
      conv=>whnf
      refine ⟨[(j : Int)], ⟨by simp, by simpa using he⟩, (Wk.sub (by repeat' first|exact trivial|refine⟨?_,?_⟩|rfl|(simp only[List.length_map];rfl)|simp[PX.get]) ⟨(by first | rfl | (simp only [List.length_map]; rfl) | simp [PX.get]), trivial⟩)⟩
     ·have h3 : ¬ bitsI .and .i64 (best.fdiv (2 ^ min (j : Int).toNat IntKind.i64.bits)) 1 = 1 := of_decide_eq_false h3
      have h4 : inSet best j = false := by
       show (!decide (bitsI .and .i64 (best.fdiv (2 ^ min (j : Int).toNat IntKind.i64.bits)) 1 = 0)) = false
       rcases hbit with hb0 | hb0
       ·rw [hb0]; rfl
       ·exact absurd hb0 h3
      rw [hfl false (by rw [h4, Bool.and_false])] at he
      conv=>whnf
      refine arith_in (wrap_i64 (by (try dsimp only); omega)) ?_
      conv=>whnf
      refine ⟨[], ⟨by simp, by simpa using he⟩, (Wk.sub (by repeat' first|exact trivial|refine⟨?_,?_⟩|rfl|(simp only[List.length_map];rfl)|simp[PX.get]) trivial)⟩
    ·have h0 : decide (best ≥ 0) = false := h0
     rw [hfl false (by rw [h0]; rfl)] at he
     conv=>whnf
     refine arith_in (wrap_i64 (by (try dsimp only); omega)) ?_
     conv=>whnf
     refine ⟨[], ⟨by simp, by simpa using he⟩, (Wk.sub (by repeat' first|exact trivial|refine⟨?_,?_⟩|rfl|(simp only[List.length_map];rfl)|simp[PX.get]) trivial)⟩
   | cons a l =>
    conv=>whnf
    refine brk_i (fun _ => ?_) (fun h => absurd hjm (by have := of_decide_eq_false h; omega))
    conv=>whnf
    refine brk_i (fun h0 => ?_) (fun h0 => ?_)
    ·have h0 : decide (best ≥ 0) = true := h0
     conv=>whnf
     refine brk_i (fun h3 => ?_) (fun h3 => ?_)
     ·have h3 : bitsI .and .i64 (best.fdiv (2 ^ min (j : Int).toNat IntKind.i64.bits)) 1 = 1 := of_decide_eq_true h3
      have h4 : inSet best j = true := by
       show (!decide (bitsI .and .i64 (best.fdiv (2 ^ min (j : Int).toNat IntKind.i64.bits)) 1 = 0)) = true
       rw [h3]; rfl
      rw [hfl true (by rw [h0, h4]; rfl)] at he
      conv=>whnf
      refine ownK_whole rfl ?_
      conv=>whnf
      refine ownK_whole (by simp [Els.len, intsC]) ?_
      conv=>whnf
      refine chk_i (decide_eq_true (by
       show ((intsC (a :: l)).length + 1) * 8 ≤ 140737488355328
       simp [intsC] at hal ⊢; omega)) ?_
      conv=>whnf
      refine arith_in (wrap_i64 (by (try dsimp only); omega)) ?_
      conv=>whnf
      refine ⟨a :: l ++ [(j : Int)], ⟨by simp at hal ⊢; omega, by simpa using he⟩, Wk.sub ⟨?_, rfl, rfl, rfl, trivial⟩ ⟨?_, trivial⟩⟩
      ·show some (V.sl 67 1 0 ((intsC (a :: l)).length + 1)) = some (V.sl 67 1 0 (a :: (l ++ [(j : Int)])).length)
       simp [intsC]
      ·show some (Obj.arr 1 (Els.dd (intsC (a :: l) ++ [[i64 (j : Int)]]))) = some (Obj.arr 1 (Els.dd (intsC (a :: (l ++ [(j : Int)])))))
       simp [intsC]
     ·have h3 : ¬ bitsI .and .i64 (best.fdiv (2 ^ min (j : Int).toNat IntKind.i64.bits)) 1 = 1 := of_decide_eq_false h3
      have h4 : inSet best j = false := by
       show (!decide (bitsI .and .i64 (best.fdiv (2 ^ min (j : Int).toNat IntKind.i64.bits)) 1 = 0)) = false
       rcases hbit with hb0 | hb0
       ·rw [hb0]; rfl
       ·exact absurd hb0 h3
      rw [hfl false (by rw [h4, Bool.and_false])] at he
      conv=>whnf
      refine arith_in (wrap_i64 (by (try dsimp only); omega)) ?_
      conv=>whnf
      refine ⟨a :: l, ⟨by simp at hal ⊢; omega, by simpa using he⟩, (Wk.sub (by repeat' first|exact trivial|refine⟨?_,?_⟩|rfl|(simp only[List.length_map];rfl)|simp[PX.get]) ⟨(by first | rfl | (simp only [List.length_map]; rfl) | simp [PX.get]), trivial⟩)⟩
    ·have h0 : decide (best ≥ 0) = false := h0
     rw [hfl false (by rw [h0]; rfl)] at he
     conv=>whnf
     refine arith_in (wrap_i64 (by (try dsimp only); omega)) ?_
     conv=>whnf
     refine ⟨a :: l, ⟨by simp at hal ⊢; omega, by simpa using he⟩, (Wk.sub (by repeat' first|exact trivial|refine⟨?_,?_⟩|rfl|(simp only[List.length_map];rfl)|simp[PX.get]) ⟨(by first | rfl | (simp only [List.length_map]; rfl) | simp [PX.get]), trivial⟩)⟩
  ·rintro acc ⟨_, he⟩
   have he : M = acc := by simpa using he
   rw [he]
   cases acc with
   | nil =>
    conv=>whnf
    refine brk_i (fun h => absurd h (by simp)) (fun _ => ?_)
    conv=>whnf
    exact RetA_view 0 rfl ⟨⟨rfl, rfl⟩, rfl⟩
   | cons a l =>
    conv=>whnf
    refine brk_i (fun h => absurd h (by simp)) (fun _ => ?_)
    conv=>whnf
    refine RetA_view 1 (ds := [intsD (a :: l)]) ?_ ⟨⟨rfl, rfl⟩, rfl⟩
    exact viewL_cons (viewV_sl (es := intsC (a :: l)) rfl (by simp [intsC])) rfl
end Go.PX
namespace Go.PX
open Go.Proofs
def fewL (c : WCase) : List Int := menOf (firstS (fun set => endB c set .zero) c.men.length) c.men.length
theorem wa32 (c : WCase) : FnV Try.prog 32 [c.d] (.tup [if entE c [] = 0 then intsN (fewL c) else .nils, i64 (if entE c [] = 0 then (if fewL c = [] then 9 else 0) else entE c [])]) := by
 refine fnV_of mixed tysOk Try.func32 rfl (ft := ft32) 1 (by decide +kernel) (by rfl) fun {σ} Y st => ?_
 conv=>whnf
 refine CallA_nil1 ?_
 refine CallA_v (ds := [c.d, rotaD []]) (wa63 c []) rfl rfl ?_
 conv=>whnf
 by_cases h0 : entE c [] = 0
 ·obtain ⟨hR, hl, _⟩ := ent_ok h0
  have hm := hR.men
  rw [h0]
  simp only [if_true]
  conv=>whnf
  refine CallA_fz (ds := [i64 c.men.length, .clo 80 [.ref c.cells]]) (wa79 c.men.length hm.2 80 [.ref c.cells] (fun set => endB c set .zero) fun set => wa80 c hR set) 2 [1] ?_ rfl ?_
  ·show some [D.int .i64 ((List.map Man.cells c.men).length : Int), .clo 80 [.ref c.cells]] = _
   rw [List.length_map]
  have hf : menOf (firstS (fun set => endB c set Tired.zero) c.men.length) c.men.length = fewL c := rfl
  rw [hf]
  cases hL : fewL c with
  | nil =>
   conv=>whnf
   refine ⟨fun b hb => ?_⟩
   cases hb trivial
   conv=>whnf
   exact RetA_view 0 rfl ⟨⟨rfl, rfl⟩, rfl⟩
  | cons a l =>
   conv=>whnf
   refine ⟨fun b hb => ?_⟩
   cases hb (by simp)
   conv=>whnf
   exact RetA_view 0 rfl ⟨⟨rfl, rfl⟩, rfl⟩
 ·simp only [h0, if_false]
  conv=>whnf
  exact RetA_view 0 rfl ⟨⟨rfl, rfl⟩, rfl⟩
def butSet (c : WCase) (m : Int) : Int := bitsI .andNot .i64 (allMen c) (2 ^ m.toNat)
def needL (c : WCase) : List Int := ((List.range c.men.length).filter fun (i : Nat) => !endB c (butSet c i) .zero).map fun (i : Nat) => (i : Int)
theorem wa34 (c : WCase) : FnV Try.prog 34 [c.d] (.tup [if entE c [] = 0 ∧ endB c (allMen c) .zero = true then intsN (needL c) else .nils, i64 (if entE c [] = 0 then (if endB c (allMen c) .zero = true then 0 else 9) else entE c [])]) := by
 refine fnV_of mixed tysOk Try.func34 rfl (ft := (ft34.more 9 [102240, 102241, 102242])) 1 (by decide +kernel) (by rfl) fun {σ} Y st => ?_
 conv=>whnf
 refine CallA_nil1 ?_
 refine CallA_v (ds := [c.d, rotaD []]) (wa63 c []) rfl rfl ?_
 conv=>whnf
 by_cases h0 : entE c [] = 0
 ·obtain ⟨hR, hl, _⟩ := ent_ok h0
  have hm := hR.men
  rw [h0]
  simp only [if_true, true_and]
  conv=>whnf
  refine CallA_fn (wa72 c (allMen c)) [] rfl rfl rfl ?_
  conv=>whnf
  obtain ⟨kn1, hk1, hE⟩ := end_call hR (set := allMen c) .nil [] (InU.zero hR)
  refine CallA_fn hE [100962, 100960, 100961] rfl ?lent rfl ?_
  case lent => exact ⟨_, _, rfl, box_same rfl ⟨rfl, rfl, rfl, trivial⟩, _, _, rfl, rfl, _, _, rfl, rfl, rfl⟩
  cases hb : endB c (allMen c) .zero with
  | false =>
   conv=>whnf
   exact RetA_view 0 rfl ⟨⟨rfl, rfl⟩, rfl⟩
  | true =>
   simp only [if_true]
   conv=>whnf
   generalize hM : needL c = M
   rw [List.length_map]
   refine LoopA_i (T := tys) tysOk (by exact drawsB_spec mixed tysOk (by decide +kernel)) (List.range c.men.length) (fun j (acc : List Int) => ⟨[(1, .ptr 1 0), (2, match acc with
     | [] => .d .nils
     | x :: r => .sl 42 1 0 (x :: r).length), (4, .d (crewD c (allMen c))), (21, .d (i64 c.men.length)), (22, .d (i64 j))], match acc with
     | [] => [(1, .box (.dd c.cells))]
     | x :: r => [(1, .box (.dd c.cells)), (42, .arr 1 (.dd (intsC (x :: r))))], st⟩)
    (fun j r acc => acc.length ≤ j ∧ M = acc ++ (r.filter fun (i : Nat) => !endB c (butSet c i) .zero).map fun (i : Nat) => (i : Int)) [] (Wk.sub (by repeat' first|exact trivial|refine⟨?_,?_⟩|rfl|(simp only[List.length_map];rfl)|simp[PX.get]) ⟨(by first | rfl | (simp only [List.length_map]; rfl) | simp [PX.get]), trivial⟩) ⟨by simp, hM.symm⟩ ?_ ?_
   ·intro j x r acc hx hj hr2 hi
    obtain ⟨hal, he⟩ := hi
    have hxj : j = x := by
     rw [List.getElem?_range (by simpa using hj)] at hx
     exact Option.some.inj hx
    subst hxj
    have hjm : j < c.men.length := by simpa using hj
    have hpw : (1 : Int) * 2 ^ min (j : Int).toNat IntKind.i64.bits = 2 ^ ((j : Int).toNat) := by
     rw [show min (j : Int).toNat IntKind.i64.bits = j by show min j 64 = j; omega, Int.one_mul]; rfl
    have hpb : (2 : Int) ^ ((j : Int).toNat) ≤ 32 ∧ 0 ≤ (2 : Int) ^ ((j : Int).toNat) := by
     have : j = 0 ∨ j = 1 ∨ j = 2 ∨ j = 3 ∨ j = 4 := by omega
     rcases this with rfl | rfl | rfl | rfl | rfl <;> decide
    have hfl : ∀ b : Bool, endB c (butSet c j) .zero = b → ((j :: r).filter fun (i : Nat) => !endB c (butSet c i) .zero) = (if b then [] else [j]) ++ r.filter fun (i : Nat) => !endB c (butSet c i) .zero := by
     intro b hb
     rw [List.filter_cons, hb]
     cases b <;> rfl
    cases acc with
    | nil =>
     conv=>whnf
     refine brk_i (fun _ => ?_) (fun h => absurd hjm (by have := of_decide_eq_false h; omega))
     conv=>whnf
     refine arith_to (2 ^ ((j : Int).toNat)) hpw (wrap_i64 (by omega)) ?_
     conv=>whnf
     refine DrawCall_fn (wa72o c (butSet c j)) [34] rfl ⟨_, _, rfl, rfl, rfl⟩ rfl ?_
     conv=>whnf
     obtain ⟨kn2, hk2, hE2⟩ := end_call hR (set := butSet c j) .nil [] (InU.zero hR)
     refine DrawCall_fn hE2 [102242, 102240, 102241] rfl ?lent rfl ?_
     case lent => exact ⟨_, _, rfl, box_same rfl ⟨rfl, rfl, rfl, trivial⟩, _, _, rfl, rfl, _, _, rfl, rfl, rfl⟩
     cases he3 : endB c (butSet c j) .zero with
     | true =>
      rw [hfl true he3] at he
      conv=>whnf
      refine arith_in (wrap_i64 (by (try dsimp only); omega)) ?_
      conv=>whnf
      refine ⟨[], ⟨by simp, by simpa using he⟩, (Wk.sub (by repeat' first|exact trivial|refine⟨?_,?_⟩|rfl|(simp only[List.length_map];rfl)|simp[PX.get]) ⟨(by first | rfl | (simp only [List.length_map]; rfl) | simp [PX.get]), trivial⟩)⟩
     | false =>
      rw [hfl false he3] at he
      conv=>whnf
      refine ownK_whole rfl ?_
      conv=>whnf
      refine arith_in (wrap_i64 (by (try dsimp only); omega)) ?_
      conv=>whnf
      refine ⟨[(j : Int)], ⟨by simp, by simpa using he⟩, (Wk.sub (by repeat' first|exact trivial|refine⟨?_,?_⟩|rfl|(simp only[List.length_map];rfl)|simp[PX.get]) (by repeat' first|exact trivial|refine⟨?_,?_⟩|rfl|(simp only[List.length_map];rfl)|simp[PX.get]))⟩
    | cons a l =>
     conv=>whnf
     refine brk_i (fun _ => ?_) (fun h => absurd hjm (by have := of_decide_eq_false h; omega))
     conv=>whnf
     refine arith_to (2 ^ ((j : Int).toNat)) hpw (wrap_i64 (by omega)) ?_
     conv=>whnf
     refine DrawCall_fn (wa72o c (butSet c j)) [34] rfl ⟨_, _, rfl, rfl, rfl⟩ rfl ?_
     conv=>whnf
     obtain ⟨kn2, hk2, hE2⟩ := end_call hR (set := butSet c j) .nil [] (InU.zero hR)
     refine DrawCall_fn hE2 [102242, 102240, 102241] rfl ?lent rfl ?_
     case lent => exact ⟨_, _, rfl, box_same rfl ⟨rfl, rfl, rfl, trivial⟩, _, _, rfl, rfl, _, _, rfl, rfl, rfl⟩
     cases he3 : endB c (butSet c j) .zero with
     | true =>
      rw [hfl true he3] at he
      conv=>whnf
      refine arith_in (wrap_i64 (by (try dsimp only); omega)) ?_
      conv=>whnf
      refine ⟨a :: l, ⟨by simp at hal ⊢; omega, by simpa using he⟩, (Wk.sub (by repeat' first|exact trivial|refine⟨?_,?_⟩|rfl|(simp only[List.length_map];rfl)|simp[PX.get]) (by repeat' first|exact trivial|refine⟨?_,?_⟩|rfl|(simp only[List.length_map];rfl)|simp[PX.get]))⟩
     | false =>
      rw [hfl false he3] at he
      conv=>whnf
      refine ownK_whole rfl ?_
      conv=>whnf
      refine ownK_whole (by simp [Els.len, intsC]) ?_
      conv=>whnf
      refine chk_i (decide_eq_true (by
       show ((intsC (a :: l)).length + 1) * 8 ≤ 140737488355328
       simp [intsC] at hal ⊢; omega)) ?_
      conv=>whnf
      refine arith_in (wrap_i64 (by (try dsimp only); omega)) ?_
      conv=>whnf
      refine ⟨a :: l ++ [(j : Int)], ⟨by simp at hal ⊢; omega, by simpa using he⟩, Wk.sub ⟨rfl, ?_, rfl, rfl, rfl, trivial⟩ ⟨rfl, ?_, trivial⟩⟩
      ·show some (V.sl 42 1 0 ((intsC (a :: l)).length + 1)) = some (V.sl 42 1 0 (a :: (l ++ [(j : Int)])).length)
       simp [intsC]
      ·show some (Obj.arr 1 (Els.dd (intsC (a :: l) ++ [[i64 (j : Int)]]))) = some (Obj.arr 1 (Els.dd (intsC (a :: (l ++ [(j : Int)])))))
       simp [intsC]
   ·rintro acc ⟨_, he⟩
    have he : M = acc := by simpa using he
    rw [he]
    cases acc with
    | nil =>
     conv=>whnf
     refine brk_i (fun h => absurd h (by simp)) (fun _ => ?_)
     conv=>whnf
     exact RetA_view 0 rfl ⟨⟨rfl, rfl⟩, rfl⟩
    | cons a l =>
     conv=>whnf
     refine brk_i (fun h => absurd h (by simp)) (fun _ => ?_)
     conv=>whnf
     refine RetA_view 1 (ds := [intsD (a :: l), i64 0]) ?_ ⟨⟨rfl, rfl⟩, rfl⟩
     exact viewL_cons (viewV_sl (es := intsC (a :: l)) rfl (by simp [intsC])) rfl
 ·simp only [h0, false_and, if_false]
  conv=>whnf
  exact RetA_view 0 rfl ⟨⟨rfl, rfl⟩, rfl⟩
end Go.PX
namespace Go.PX
open Go.Proofs
structure Gap where
 row : Int
 t : Tired
 deriving DecidableEq
def Gap.cells (g : Gap) : List D := i64 g.row :: g.t.cells
def Gap.d (g : Gap) : D := .agg g.cells
abbrev Kg := List (Gap × Int)
def kgD (kn : Kg) : List (D × D) := kn.map fun p => (p.1.d, i64 p.2)
def getG : Kg → Gap → Option Int
 | [], _ => none
 | (u, x) :: r, t => if t = u then some x else getG r t
def putG : Kg → Gap → Int → Kg
 | [], t, v => [(t, v)]
 | (u, x) :: r, t, v => if t = u then (t, v) :: r else (u, x) :: putG r t v
theorem same_gap (t u : Gap) : sameD t.d u.d = some (decide (t = u)) := by
 have h1 := same_tired t.t u.t
 have h1 : sameL t.t.cells u.t.cells = some (decide (t.t = u.t)) := h1
 show (match sameI (i64 t.row) (i64 u.row), sameL t.t.cells u.t.cells with
  | some p, some q => some (p && q)
  | _, _ => none) = _
 rw [h1]
 show some (decide (t.row = u.row) && decide (t.t = u.t)) = _
 congr 1
 cases t; cases u
 simp
theorem find_kg_none {kn : Kg} {t : Gap} (h : getG kn t = none) : ∀ n, findD t.d (kgD kn) n = some none := by
 induction kn with
 | nil => intro n; rfl
 | cons p r ih =>
  obtain ⟨u, x⟩ := p
  intro n
  rw [getG] at h
  split at h
  ·cases h
  ·rename_i hu
   show (match sameD t.d u.d with
    | some true => some (some (n, i64 x))
    | some false => findD t.d (kgD r) (n + 1)
    | none => none) = _
   rw [same_gap, decide_eq_false hu]
   exact ih h (n + 1)
theorem find_kg_some {kn : Kg} {t : Gap} {v : Int} (h : getG kn t = some v) : ∀ n, ∃ i, findD t.d (kgD kn) n = some (some (n + i, i64 v)) ∧ ∀ y, (kgD kn).set i (t.d, i64 y) = kgD (putG kn t y) := by
 induction kn with
 | nil => cases h
 | cons p r ih =>
  obtain ⟨u, x⟩ := p
  intro n
  rw [getG] at h
  split at h
  ·rename_i hu
   cases h
   refine ⟨0, ?_, fun y => ?_⟩
   ·show (match sameD t.d u.d with
     | some true => some (some (n, i64 v))
     | some false => findD t.d (kgD r) (n + 1)
     | none => none) = _
    rw [same_gap, decide_eq_true hu]; rfl
   ·rw [putG, if_pos hu]; rfl
  ·rename_i hu
   obtain ⟨i, h1, h2⟩ := ih h (n + 1)
   refine ⟨i + 1, ?_, fun y => ?_⟩
   ·show (match sameD t.d u.d with
     | some true => some (some (n, i64 x))
     | some false => findD t.d (kgD r) (n + 1)
     | none => none) = _
    rw [same_gap, decide_eq_false hu]
    show findD t.d (kgD r) (n + 1) = _
    rw [h1, show n + 1 + i = n + (i + 1) by omega]
   ·rw [putG, if_neg hu]
    show (u.d, i64 x) :: (kgD r).set i (t.d, i64 y) = (u.d, i64 x) :: kgD (putG r t y)
    rw [h2 y]
theorem put_kg_none {kn : Kg} {t : Gap} (h : getG kn t = none) (y : Int) : kgD kn ++ [(t.d, i64 y)] = kgD (putG kn t y) := by
 induction kn with
 | nil => rfl
 | cons p r ih =>
  obtain ⟨u, x⟩ := p
  rw [getG] at h
  split at h
  ·cases h
  ·rename_i hu
   rw [putG, if_neg hu]
   show (u.d, i64 x) :: (kgD r ++ [(t.d, i64 y)]) = _
   rw [ih h]; rfl
theorem get_put_kg (kn : Kg) (t u : Gap) (y : Int) : getG (putG kn t y) u = if u = t then some y else getG kn u := by
 induction kn with
 | nil => rfl
 | cons p r ih =>
  obtain ⟨w, x⟩ := p
  rw [putG]
  split
  ·rename_i h
   subst h
   simp only [getG]
   split <;> rfl
  ·rename_i h
   simp only [getG]
   split
   ·rename_i h2
    subst h2
    rw [if_neg (fun e => h e.symm)]
   ·exact ih
def fitsG (R g : List Int) : Bool := decide (R.length = 0) || decide (R = g)
def tryG (R : List Int) (f : Kg → Tired → Option (List (List Int)) × Kg) : Kg → List (List Int × Tired) → Option (List (List Int)) × Kg
 | kg, [] => (none, kg)
 | kg, p :: r => if fitsG R p.1 then
   match (f kg p.2).1 with
   | some l => (some (p.1 :: l), (f kg p.2).2)
   | none => tryG R f (f kg p.2).2 r
  else tryG R f kg r
def fillW (c : WCase) (set : Int) : List (List Int) → Int → Tired → Kg → Option (List (List Int)) × Kg
 | [], _, _, kg => (some [], kg)
 | R :: rest, row, t, kg => if (getG kg ⟨row, t⟩).isSome then (none, kg) else
  match (tryG R (fun kg u => fillW c set rest (row + 1) u kg) kg (groupsF c set t)).1 with
  | some l => (some l, (tryG R (fun kg u => fillW c set rest (row + 1) u kg) kg (groupsF c set t)).2)
  | none => (none, putG (tryG R (fun kg u => fillW c set rest (row + 1) u kg) kg (groupsF c set t)).2 ⟨row, t⟩ 1)
def KgOk (kg : Kg) : Prop := ∀ g v, getG kg g = some v → v = 1
def Below (row : Int) (a b : Kg) : Prop := ∀ g : Gap, g.row < row → getG b g = getG a g
theorem tryG_ok {R : List Int} {f : Kg → Tired → Option (List (List Int)) × Kg} {row : Int} (hf : ∀ kg u, KgOk kg → KgOk (f kg u).2 ∧ Below row kg (f kg u).2) : ∀ (l : List (List Int × Tired)) (kg : Kg), KgOk kg → KgOk (tryG R f kg l).2 ∧ Below row kg (tryG R f kg l).2
 | [], kg, h => ⟨h, fun _ _ => rfl⟩
 | p :: r, kg, h => by
  obtain ⟨h1, h2⟩ := hf kg p.2 h
  rw [tryG]
  split
  ·split
   ·exact ⟨h1, h2⟩
   ·obtain ⟨h3, h4⟩ := tryG_ok hf r (f kg p.2).2 h1
    exact ⟨h3, fun g hg => (h4 g hg).trans (h2 g hg)⟩
  ·exact tryG_ok hf r kg h
theorem fillW_ok {c : WCase} {set : Int} : ∀ (rows : List (List Int)) (row : Int) (t : Tired) (kg : Kg), KgOk kg → KgOk (fillW c set rows row t kg).2 ∧ Below row kg (fillW c set rows row t kg).2
 | [], row, t, kg, h => ⟨h, fun _ _ => rfl⟩
 | R :: rest, row, t, kg, h => by
  obtain ⟨h1, h2⟩ := tryG_ok (R := R) (f := fun kg u => fillW c set rest (row + 1) u kg) (row := row + 1) (fun kg u hk => fillW_ok rest (row + 1) u kg hk) (groupsF c set t) kg h
  rw [fillW]
  split
  ·exact ⟨h, fun _ _ => rfl⟩
  split
  ·exact ⟨h1, fun g hg => h2 g (by omega)⟩
  ·refine ⟨fun g v hv => ?_, fun g hg => ?_⟩
   ·simp only at hv
    rw [get_put_kg] at hv
    split at hv
    ·cases hv; rfl
    ·exact h1 g v hv
   ·show getG (putG _ _ _) g = _
    rw [get_put_kg, if_neg (by rintro rfl; simp at hg)]
    exact h2 g (by omega)
def fillV (n : Nat) (r : Option (List (List Int)) × Kg) : V := match r.1 with
 | some _ => .tup [.sl 2000000 1 0 n, .d (.bool true)]
 | none => .d (.tup [.nils, .bool false])
def fillHp (row : Nat) (r : Option (List (List Int)) × Kg) : Heap := match r.1 with
 | some l => [(1000000, .map (kgD r.2)), (2000000, .arr 1 (.dd (List.replicate row [.nils] ++ l.map fun r => [intsD r])))]
 | none => [(1000000, .map (kgD r.2))]
theorem wa101 (a b : List Int) (ha : a.length < 4000000000000000000) (hb : b.length < 4000000000000000000) : FnV Try.prog 101 [intsD a, intsD b] (.bool (decide (a = b))) := by
 refine fnV_of mixed tysOk Try.func101 rfl (ft := ft101) 2 (by decide +kernel) (by rfl) fun {σ} Y st => ?_
 conv=>whnf
 refine brk_i (fun h0 => ?_) (fun h0 => ?_)
 ·have h0 : ¬ a.length = b.length := by
   have : ¬ ((a.length : Int) = b.length) := by simpa using h0
   omega
  conv=>whnf
  rw [decide_eq_false (fun e => h0 (by rw [e]))]
  exact RetA_view 0 rfl ⟨⟨rfl, rfl⟩, rfl⟩
 have h0 : a.length = b.length := by
  have : ((a.length : Int) = b.length) := by simpa using h0
  omega
 conv=>whnf
 refine LoopA_i (T := tys) tysOk (by exact drawsB_spec mixed tysOk (by decide +kernel)) a (fun i (_ : Unit) => ⟨[(0, .d (intsD a)), (1, .d (intsD b)), (4, .d (.bool false)), (12, .d (i64 a.length)), (13, .d (i64 i))], [], st⟩)
  (fun i r _ => (decide (a = b)) = decide (r = b.drop i)) () (Wk.sub (by repeat' first|exact trivial|refine⟨?_,?_⟩|rfl|(simp only[List.length_map];rfl)|simp[PX.get]) trivial) rfl ?_ ?_
 ·intro i x r _ hx hi hr he
  have hib : i < b.length := by omega
  have hdb : b.drop i = b[i] :: b.drop (i + 1) := by rw [List.drop_eq_getElem_cons hib]
  rw [hdb] at he
  have hgb : b[i]? = some b[i] := List.getElem?_eq_getElem hib
  conv=>whnf
  refine brk_i (fun _ => ?_) (fun h => absurd hi (by have := of_decide_eq_false h; omega))
  conv=>whnf
  refine elemK_nat hx ?_
  conv=>whnf
  refine elemK_nat hgb ?_
  conv=>whnf
  refine brk_i (fun h1 => ?_) (fun h1 => ?_)
  ·have h1 : ¬ x = b[i] := by simpa using h1
   conv=>whnf
   rw [he, decide_eq_false (fun e => h1 (List.cons.inj e).1)]
   exact RetA_view 0 rfl ⟨⟨rfl, rfl⟩, rfl⟩
  ·have h1 : x = b[i] := by simpa using h1
   conv=>whnf
   refine arith_in (wrap_i64 (by (try dsimp only); omega)) ?_
   conv=>whnf
   refine ⟨(), ?_, (Wk.sub (by repeat' first|exact trivial|refine⟨?_,?_⟩|rfl|(simp only[List.length_map];rfl)|simp[PX.get]) trivial)⟩
   rw [he]
   exact decide_eq_decide.2 ⟨fun e => (List.cons.inj e).2, fun e => by rw [h1, e]⟩
 ·intro _ he
  conv=>whnf
  refine brk_i (fun h => absurd h (by simp)) (fun _ => ?_)
  conv=>whnf
  have hd : b.drop a.length = [] := by rw [h0]; simp
  rw [he, hd]
  exact RetA_view 0 rfl ⟨⟨rfl, rfl⟩, rfl⟩
theorem viewLL_inj {g : Nat → Option DO} (B : List (List D)) : viewLL g (injL B) = some B := by
 have := viewLL_app (g := g) (vs := []) (ds := []) rfl B
 simpa using this
theorem viewLL_mid {g : Nat → Option DO} {v : List V} {d : List D} (h : viewL g v = some d) (A B : List (List D)) : viewLL g (injL A ++ v :: injL B) = some (A ++ d :: B) := by
 refine viewLL_app ?_ A
 show (match viewL g v, viewLL g (injL B) with
  | some a, some l => some (a :: l)
  | _, _ => none) = _
 rw [h, viewLL_inj B]
theorem namesOfL_mid (A B : List (List D)) (v : List V) : namesOfL (injL A ++ v :: injL B).flatten = namesOfL v := by
 rw [namesOfL_injL, List.flatten_cons, namesOfL_app, injL_flatten, namesOfL_inj, List.append_nil]
theorem injL_mid (B : List (List D)) (x : List D) (y : List V) : ∀ A : List (List D), (injL (A ++ x :: B)).set A.length y = injL A ++ y :: injL B
 | [] => rfl
 | a :: A => by
  show inj a :: (injL (A ++ x :: B)).set A.length y = inj a :: (injL A ++ y :: injL B)
  rw [injL_mid B x y A]
def FillOk (c : WCase) (set : Int) (rota : List (List Int)) (rows : List (List Int)) : Prop :=
 ∀ (row : Nat) (t : Tired) (kg : Kg), InU c t → KgOk kg → rota.drop row = rows → row + rows.length = rota.length → FnU Try.prog 83 [.d (crewD c set), .d (Gap.d ⟨row, t⟩), .d (rotaD rota), .mp 1000000] [(1000000, .map (kgD kg))] fun v h' =>
  v = fillV rota.length (fillW c set rows row t kg) ∧ h' = fillHp row (fillW c set rows row t kg)
theorem fill_nil {c : WCase} {set : Int} {rota : List (List Int)} (hl : rota.length ≤ 100) : FillOk c set rota [] := by
 intro row t kg ht hk hd hlen σ Y s
 refine fnC_of mixed tysOk Try.func83 rfl (ft := ft83) (args := [.d (crewD c set), .d (Gap.d ⟨row, t⟩), .d (rotaD rota), .mp 1000000]) (show fnB ft83 Try.f83 4 = true from by decide +kernel) ?_
 conv=>whnf
 have hrl : row = rota.length := by simpa using hlen
 refine brk_i (fun h0 => ?_) (fun h0 => absurd h0 (by simp [hrl]))
 conv=>whnf
 refine chk_i (by simp; rfl) ?_
 conv=>whnf
 refine chk_i (decide_eq_true (by dsimp only; simp; omega)) ?_
 conv=>whnf
 have hn : ((rota.map fun r => [intsD r]).length : Int).toNat = rota.length := by simp
 rw [hn]
 refine RetA_hand [22] [.sl 2000000 1 0 rota.length, .d (.bool true)] [(1000000, .map (kgD kg)), (2000000, .arr 1 (.dd (List.replicate rota.length [.nils])))] rfl ⟨rfl, rfl, trivial⟩ rfl ⟨⟨rfl, ?_⟩, rfl⟩
 rw [fillW, ← hrl]
 simp [fillHp]
end Go.PX
namespace Go.PX
open Go.Proofs
theorem replicate_mid (row : Nat) (l : List (List D)) : List.replicate (row + 1) [D.nils] ++ l = List.replicate row [.nils] ++ [.nils] :: l := by
 rw [List.replicate_succ']; simp
theorem find_kg_last {kg : Kg} {g : Gap} (h : getG kg g = none) : findD g.d (kgD kg ++ [(g.d, i64 0)]) 0 = some (some ((kgD kg).length, i64 0)) := by
 have key : ∀ (kg : Kg) (n : Nat), getG kg g = none → findD g.d (kgD kg ++ [(g.d, i64 0)]) n = some (some (n + (kgD kg).length, i64 0)) := by
  intro kg
  induction kg with
  | nil =>
   intro n _
   show (match sameD g.d g.d with
    | some true => some (some (n, i64 0))
    | some false => findD g.d [] (n + 1)
    | none => none) = _
   rw [same_gap, decide_eq_true rfl]; rfl
  | cons p r ih =>
   obtain ⟨u, v⟩ := p
   intro n h
   rw [getG] at h
   split at h
   ·cases h
   ·rename_i hu
    show (match sameD g.d u.d with
     | some true => some (some (n, i64 v))
     | some false => findD g.d (kgD r ++ [(g.d, i64 0)]) (n + 1)
     | none => none) = _
    rw [same_gap, decide_eq_false hu]
    show findD g.d (kgD r ++ [(g.d, i64 0)]) (n + 1) = _
    rw [ih (n + 1) h]
    simp [kgD]; omega
 have := key kg 0 h
 rwa [Nat.zero_add] at this
theorem setVal_last (k : D) (v w : D) : ∀ l : List (D × D), setVal (l ++ [(k, v)]) l.length w = l ++ [(k, w)]
 | [] => rfl
 | (a, b) :: r => by
  show (a, b) :: setVal (r ++ [(k, v)]) r.length w = _
  rw [setVal_last k v w r]; rfl
set_option maxHeartbeats 4000000 in
theorem fill_cons {c : WCase} (hR : WR c) {set : Int} {rota : List (List Int)} (hl : rota.length ≤ 100) (hrows : ∀ r ∈ rota, r.length < 1000) {R : List Int} {rest : List (List Int)} (ih : FillOk c set rota rest) : FillOk c set rota (R :: rest) := by
 intro row t kg ht hk hd hlen σ Y s
 refine fnC_of mixed tysOk Try.func83 rfl (ft := (ft83.more 12 [104096]).less 14) (args := [.d (crewD c set), .d (Gap.d ⟨row, t⟩), .d (rotaD rota), .mp 1000000]) (show fnB ((ft83.more 12 [104096]).less 14) Try.f83 4 = true from by decide +kernel) ?_
 conv=>whnf
 have hrl : row < rota.length := by simp at hlen; omega
 have hRat : rota[row]? = some R := by
  have := List.getElem?_drop (xs := rota) (i := row) (j := 0)
  rw [hd] at this
  simpa using this.symm
 have hRm : R.length < 1000 := hrows R (List.mem_of_getElem? hRat)
 have hd2 : rota.drop (row + 1) = rest := by
  rw [← List.drop_drop, hd]; rfl
 have hlen2 : row + 1 + rest.length = rota.length := by simp at hlen; omega
 refine brk_i (fun h0 => absurd h0 (by simp; omega)) (fun _ => ?_)
 conv=>whnf
 have hrowi : ((row : Int) + 1) = ((row + 1 : Nat) : Int) := by omega
 cases hg : getG kg ⟨row, t⟩ with
 | some v =>
  cases hk _ v hg
  obtain ⟨ix, hx1, hx2⟩ := find_kg_some hg 0
  refine ⟨_, hx1, ?_⟩
  conv=>whnf
  have hF : fillW c set (R :: rest) row t kg = (none, kg) := by rw [fillW, hg]; rfl
  rw [hF]
  exact RetA_hand [] [.d .nils, .d (.bool false)] [(1000000, .map (kgD kg))] rfl ⟨rfl, trivial⟩ rfl ⟨⟨rfl, rfl⟩, rfl⟩
 | none =>
  refine ⟨none, find_kg_none hg 0, ?_⟩
  conv=>whnf
  refine CallA_v (wa68 c set t) rfl rfl ?_
  conv=>whnf
  obtain ⟨hto, hts⟩ := ht.tok hR
  generalize hT : tryG R (fun kg u => fillW c set rest (row + 1) u kg) kg (groupsF c set t) = T
  have hF : fillW c set (R :: rest) row t kg = (match T.1 with
   | some l => (some l, T.2)
   | none => (none, putG T.2 ⟨row, t⟩ 1)) := by
   rw [fillW, hg]
   simp only [Option.isSome_none, Bool.false_eq_true, if_false]
   rw [hT]
   all_goals (obtain ⟨a, b⟩ := T; cases a <;> rfl)
  rw [hF]
  refine RangeA.wk (st' := ⟨[(4, .ptr 4 0), (5, .ptr 5 0), (6, .ptr 6 0), (7, .ptr 7 0), (8, .ptr 8 0), (9, .ptr 9 0), (30, .d (.clo 93 [.ref [crewD c set], .ref t.cells]))], [(1000000, .map (kgD kg)), (4, .box (.dd [crewD c set])), (5, .box (.dd (Gap.cells ⟨row, t⟩))), (6, .box (.dd [rotaD rota])), (7, .box (.vv [.mp 1000000])), (8, .box (.dd [.nils])), (9, .box (.dd [.bool false]))], s⟩) (Wk.sub (by repeat' first|exact trivial|refine⟨?_,?_⟩|rfl|(simp only[List.length_map];rfl)|simp[PX.get]) (by repeat' first|exact trivial|refine⟨?_,?_⟩|rfl|(simp only[List.length_map];rfl)|simp[PX.get])) ?_
  refine RangeA_list tysOk (by exact drawsB_spec mixed tysOk (by decide +kernel)) (by exact drawsB_spec mixed tysOk (by decide +kernel)) rfl 1500000 1600000 [4, 5, 6, 7, 8, 9] (by exact yields93 c hR set t hto hts)
   (fun (x : Kg) => ([(1000000, .map (kgD x)), (1500000, .box (.dd [crewD c set])), (1500001, .box (.dd (Gap.cells ⟨row, t⟩))), (1500002, .box (.dd [rotaD rota])), (1500003, .box (.vv [.mp 1000000])), (1500004, .box (.dd [.nils])), (1500005, .box (.dd [.bool false]))], s))
   (fun (l : List (List Int × Tired)) x => tryG R (fun kg u => fillW c set rest (row + 1) u kg) x l = T ∧ KgOk x ∧ getG x ⟨row, t⟩ = none ∧ ∀ p ∈ l, p.1.length ≤ 2 ∧ InU c p.2) kg rfl rfl rfl ⟨hT, hk, hg, fun p hp => ⟨groups_len hR hp, groups_InU hR ht hp⟩⟩ ?_ ?_
  ·rintro ⟨g, u⟩ l x ⟨he, hkx, hgx, hgs⟩ Q hQ1 hQ
   clear hF
   obtain ⟨hg2, hu⟩ := hgs (g, u) (by simp)
   have hgl : g.length ≤ 1000 := by simp only at hg2; omega
   have hrestg : ∀ p ∈ l, p.1.length ≤ 2 ∧ InU c p.2 := fun p hp => hgs p (by simp [hp])
   refine ⟨⟨rfl, item_okL _⟩, ?_⟩
   rw [tryG] at he
   conv=>whnf
   refine elemK_nat hRat ?_
   conv=>whnf
   have hf1 := fillW_ok (c := c) (set := set) rest ((row + 1 : Nat) : Int) u x hkx
   rw [← hrowi] at hf1
   have hI : FnU Try.prog 83 [.d (crewD c set), .d (Gap.d ⟨(row + 1 : Nat), u⟩), .d (rotaD rota), .mp 1000000] [(1000000, .map (kgD x))] (fun v h' => v = fillV rota.length (fillW c set rest ((row : Int) + 1) u x) ∧ h' = fillHp (row + 1) (fillW c set rest ((row : Int) + 1) u x)) := by
    rw [hrowi]
    exact fun {σ} => ih (row + 1) u x hu hkx hd2 hlen2
   simp only at he
   refine brk_i (fun h1 => ?_) (fun h1 => ?_)
   ·have h1 : 0 < R.length := by simpa using h1
    conv=>whnf
    refine CallA_view (ds := [intsD R, intsD g]) (wa101 R g (by omega) (by omega)) rfl 1 (viewL_cons rfl (viewL_cons (viewV_sl rfl (by simp [intsC])) rfl)) ?_
    conv=>whnf
    refine brk_i (fun h2 => ?_) (fun h2 => ?_)
    ·have h2 : ¬ R = g := by simpa using h2
     have hfit : fitsG R g = false := by unfold fitsG; rw [decide_eq_false (by omega), decide_eq_false h2]; rfl
     rw [hfit] at he
     conv=>whnf
     exact ⟨x, (Wk.sub trivial (by repeat' first|exact trivial|refine⟨?_,?_⟩|rfl|(simp only[List.length_map];rfl)|simp[PX.get])), rfl, hQ1 x ⟨he, hkx, hgx, hrestg⟩⟩
    ·have h2 : R = g := by simpa using h2
     have hfit : fitsG R g = true := by unfold fitsG; rw [decide_eq_true h2, Bool.or_true]
     rw [hfit] at he
     simp only [if_true] at he
     generalize hF2 : fillW c set rest ((row : Int) + 1) u x = r2 at he hI hf1
     obtain ⟨o, kg2⟩ := r2
     obtain ⟨hk2, hb2⟩ := hf1
     cases o with
     | none =>
      conv=>whnf
      refine arith_to (((row + 1 : Nat) : Int)) (by (try dsimp only); omega) (wrap_i64 (by (try dsimp only); omega)) ?_
      conv=>whnf
      refine CallA_fn hI [1000000] rfl ⟨_, _, rfl, rfl, rfl⟩ rfl ?_
      conv=>whnf
      exact ⟨kg2, (Wk.sub trivial (by repeat' first|exact trivial|refine⟨?_,?_⟩|rfl|(simp only[List.length_map];rfl)|simp[PX.get])), rfl, hQ1 kg2 ⟨he, hk2, (hb2 ⟨row, t⟩ (by simp only; omega)).trans hgx, hrestg⟩⟩
     | some l2 =>
      simp only at he
      subst he
      conv=>whnf
      refine arith_to (((row + 1 : Nat) : Int)) (by (try dsimp only); omega) (wrap_i64 (by (try dsimp only); omega)) ?_
      conv=>whnf
      refine CallA_fn hI [1000000] rfl ⟨_, _, rfl, rfl, rfl⟩ rfl ?_
      conv=>whnf
      refine DrawCall_fn (wa69o g hgl) [1600000] rfl ⟨_, _, rfl, rfl, rfl⟩ rfl ?_
      conv=>whnf
      refine chk_i (by simp; omega) ?_
      conv=>whnf
      have hrn : 0 + ((row : Int)).toNat = row := by simp
      have hel : (List.replicate (row + 1) [D.nils] ++ l2.map fun r => [intsD r])[0 + ((row : Int)).toNat]? = some [.nils] := by
       rw [hrn, replicate_mid, List.getElem?_append_right (by simp)]
       simp
      have hset : ∀ y : List V, (injL (List.replicate (row + 1) [D.nils] ++ l2.map fun r => [intsD r])).set (0 + ((row : Int)).toNat) y = injL (List.replicate row [D.nils]) ++ y :: injL (l2.map fun r => [intsD r]) := by
       intro y
       have h1 := injL_mid (l2.map fun r => [intsD r]) [D.nils] y (List.replicate row [D.nils])
       rw [List.length_replicate] at h1
       rw [hrn, replicate_mid]
       exact h1
      refine cellK_i [.nils] hel ?_
      conv=>whnf
      refine forceN_to [104096] (by
       show namesOfL (((injL (List.replicate (row + 1) [D.nils] ++ l2.map fun r => [intsD r])).set (0 + ((row : Int)).toNat) [V.sl 104096 1 0 g.length]).flatten) ++ [] = _
       rw [hset, namesOfL_mid]; rfl) ?_
      conv=>whnf
      refine ⟨[(1000000, .map (kgD kg2)), (1500000, .box (.dd [crewD c set])), (1500001, .box (.dd (Gap.cells ⟨row, t⟩))), (1500002, .box (.dd [rotaD rota])), (1500003, .box (.vv [.mp 1000000])), (1500004, .box (.vv [.sl 103584 1 0 rota.length])), (1500005, .box (.dd [.bool true])), (103584, .arr 1 (.dd (List.replicate row [D.nils] ++ [intsD g] :: l2.map fun r => [intsD r])))], s, (Wk.frzArr 1 [104096] 103584 (sz := 1) (vs := injL (List.replicate row [D.nils]) ++ [.sl 104096 1 0 g.length] :: injL (l2.map fun r => [intsD r])) (ds := List.replicate row [D.nils] ++ [intsD g] :: l2.map fun r => [intsD r]) ?_ (viewLL_mid (viewL_cons (viewV_sl rfl (by simp [intsC])) rfl) _ _)).trans ?_, rfl, hQ _ _ _ ?_⟩
      ·show some (Obj.arr 1 (Els.vv ((injL (List.replicate (row + 1) [D.nils] ++ l2.map fun r => [intsD r])).set (0 + ((row : Int)).toNat) [V.sl 104096 1 0 g.length]))) = _
       rw [hset]
      ·exact (Wk.sub trivial (by repeat' first|exact trivial|refine⟨?_,?_⟩|rfl|(simp only[List.length_map];rfl)|simp[PX.get]))
      ·clear hQ hQ1
       conv=>whnf
       refine RetA_wk (l' := [.sl 103584 1 0 rota.length, .d (.bool true)]) (h' := [(1000000, .map (kgD kg2)), (103584, .arr 1 (.dd (List.replicate row [D.nils] ++ [intsD g] :: l2.map fun r => [intsD r])))]) (Wk.sub ⟨rfl, rfl, trivial⟩ ⟨rfl, rfl, trivial⟩) rfl rfl ?_
       refine RetA_hand [103584] [.sl 2000000 1 0 rota.length, .d (.bool true)] [(1000000, .map (kgD kg2)), (2000000, .arr 1 (.dd (List.replicate row [.nils] ++ (g :: l2).map fun r => [intsD r])))] rfl ⟨rfl, rfl, trivial⟩ rfl ⟨⟨rfl, rfl⟩, rfl⟩
   ·have h1 : R.length = 0 := by
     have : ¬ 0 < R.length := by simpa using h1
     omega
    have hfit : fitsG R g = true := by unfold fitsG; rw [decide_eq_true h1]; rfl
    rw [hfit] at he
    simp only [if_true] at he
    generalize hF2 : fillW c set rest ((row : Int) + 1) u x = r2 at he hI hf1
    obtain ⟨o, kg2⟩ := r2
    obtain ⟨hk2, hb2⟩ := hf1
    cases o with
    | none =>
     conv=>whnf
     refine arith_to (((row + 1 : Nat) : Int)) (by (try dsimp only); omega) (wrap_i64 (by (try dsimp only); omega)) ?_
     conv=>whnf
     refine CallA_fn hI [1000000] rfl ⟨_, _, rfl, rfl, rfl⟩ rfl ?_
     conv=>whnf
     exact ⟨kg2, (Wk.sub trivial (by repeat' first|exact trivial|refine⟨?_,?_⟩|rfl|(simp only[List.length_map];rfl)|simp[PX.get])), rfl, hQ1 kg2 ⟨he, hk2, (hb2 ⟨row, t⟩ (by simp only; omega)).trans hgx, hrestg⟩⟩
    | some l2 =>
     simp only at he
     subst he
     conv=>whnf
     refine arith_to (((row + 1 : Nat) : Int)) (by (try dsimp only); omega) (wrap_i64 (by (try dsimp only); omega)) ?_
     conv=>whnf
     refine CallA_fn hI [1000000] rfl ⟨_, _, rfl, rfl, rfl⟩ rfl ?_
     conv=>whnf
     refine DrawCall_fn (wa69o g hgl) [1600000] rfl ⟨_, _, rfl, rfl, rfl⟩ rfl ?_
     conv=>whnf
     refine chk_i (by simp; omega) ?_
     conv=>whnf
     have hrn : 0 + ((row : Int)).toNat = row := by simp
     have hel : (List.replicate (row + 1) [D.nils] ++ l2.map fun r => [intsD r])[0 + ((row : Int)).toNat]? = some [.nils] := by
      rw [hrn, replicate_mid, List.getElem?_append_right (by simp)]
      simp
     have hset : ∀ y : List V, (injL (List.replicate (row + 1) [D.nils] ++ l2.map fun r => [intsD r])).set (0 + ((row : Int)).toNat) y = injL (List.replicate row [D.nils]) ++ y :: injL (l2.map fun r => [intsD r]) := by
      intro y
      have h1 := injL_mid (l2.map fun r => [intsD r]) [D.nils] y (List.replicate row [D.nils])
      rw [List.length_replicate] at h1
      rw [hrn, replicate_mid]
      exact h1
     refine cellK_i [.nils] hel ?_
     conv=>whnf
     refine forceN_to [104096] (by
      show namesOfL (((injL (List.replicate (row + 1) [D.nils] ++ l2.map fun r => [intsD r])).set (0 + ((row : Int)).toNat) [V.sl 104096 1 0 g.length]).flatten) ++ [] = _
      rw [hset, namesOfL_mid]; rfl) ?_
     conv=>whnf
     refine ⟨[(1000000, .map (kgD kg2)), (1500000, .box (.dd [crewD c set])), (1500001, .box (.dd (Gap.cells ⟨row, t⟩))), (1500002, .box (.dd [rotaD rota])), (1500003, .box (.vv [.mp 1000000])), (1500004, .box (.vv [.sl 103584 1 0 rota.length])), (1500005, .box (.dd [.bool true])), (103584, .arr 1 (.dd (List.replicate row [D.nils] ++ [intsD g] :: l2.map fun r => [intsD r])))], s, (Wk.frzArr 1 [104096] 103584 (sz := 1) (vs := injL (List.replicate row [D.nils]) ++ [.sl 104096 1 0 g.length] :: injL (l2.map fun r => [intsD r])) (ds := List.replicate row [D.nils] ++ [intsD g] :: l2.map fun r => [intsD r]) ?_ (viewLL_mid (viewL_cons (viewV_sl rfl (by simp [intsC])) rfl) _ _)).trans ?_, rfl, hQ _ _ _ ?_⟩
     ·show some (Obj.arr 1 (Els.vv ((injL (List.replicate (row + 1) [D.nils] ++ l2.map fun r => [intsD r])).set (0 + ((row : Int)).toNat) [V.sl 104096 1 0 g.length]))) = _
      rw [hset]
     ·exact (Wk.sub trivial (by repeat' first|exact trivial|refine⟨?_,?_⟩|rfl|(simp only[List.length_map];rfl)|simp[PX.get]))
     ·clear hQ hQ1
      conv=>whnf
      refine RetA_wk (l' := [.sl 103584 1 0 rota.length, .d (.bool true)]) (h' := [(1000000, .map (kgD kg2)), (103584, .arr 1 (.dd (List.replicate row [D.nils] ++ [intsD g] :: l2.map fun r => [intsD r])))]) (Wk.sub ⟨rfl, rfl, trivial⟩ ⟨rfl, rfl, trivial⟩) rfl rfl ?_
      refine RetA_hand [103584] [.sl 2000000 1 0 rota.length, .d (.bool true)] [(1000000, .map (kgD kg2)), (2000000, .arr 1 (.dd (List.replicate row [.nils] ++ (g :: l2).map fun r => [intsD r])))] rfl ⟨rfl, rfl, trivial⟩ rfl ⟨⟨rfl, rfl⟩, rfl⟩
  ·rintro x ⟨he, hkx, hgx, _⟩
   have he : (none, x) = T := he
   subst he
   have hN : findD (Gap.d ⟨row, t⟩) (kgD x) 0 = some none := find_kg_none hgx 0
   have hS : findD (Gap.d ⟨row, t⟩) (kgD x ++ [(Gap.d ⟨row, t⟩, i64 0)]) 0 = some (some ((kgD x).length, i64 0)) := find_kg_last hgx
   have hV : setVal (kgD x ++ [(Gap.d ⟨row, t⟩, i64 0)]) (kgD x).length (i64 1) = kgD (putG x ⟨row, t⟩ 1) := by
    rw [← put_kg_none hgx]
    exact setVal_last ..
   have hB : (decide ((0 : Int) ≤ (kgD x).length) && decide (((kgD x).length : Int) < (kgD x ++ [(Gap.d ⟨row, t⟩, i64 0)]).length)) = true := by
    simp; omega
   conv=>whnf
   refine RegionA_all mixed tysOk [[], [], [0, 1], [2], [0, 1], [4], [0, 5, 3]] (by decide +kernel) ?_
   conv=>whnf
   repeat' (first
    | trivial
    | (refine And.intro ?_ ?_ <;> conv=>whnf)
    | (refine findK.mk none hN ?_; conv=>whnf)
    | (refine findK.mk _ hS ?_; conv=>whnf)
    | (refine arith_in (by decide) ?_; conv=>whnf)
    | (refine chk_i hB ?_; conv=>whnf))
   all_goals exact RetA_hand [] [.d .nils, .d (.bool false)] [(1000000, .map (kgD (putG x ⟨row, t⟩ 1)))] rfl ⟨(by rw [← hV]; rfl), trivial⟩ rfl ⟨⟨rfl, rfl⟩, rfl⟩
theorem fillOk {c : WCase} (hR : WR c) {set : Int} {rota : List (List Int)} (hl : rota.length ≤ 100) (hrows : ∀ r ∈ rota, r.length < 1000) : ∀ rows : List (List Int), FillOk c set rota rows
 | [] => fill_nil hl
 | _ :: rest => fill_cons hR hl hrows (fillOk hR hl hrows rest)
end Go.PX
namespace Go.PX
open Go.Proofs
def emptyN (rota : List (List Int)) : Nat := (rota.filter fun r => decide (r.length = 0)).length
theorem emptyN_cons (x : List Int) (r : List (List Int)) : emptyN (x :: r) = (if x.length = 0 then 1 else 0) + emptyN r := by
 unfold emptyN
 rw [List.filter_cons]
 by_cases h : x.length = 0
 ·rw [if_pos (by simp [h]), if_pos h]; simp; omega
 ·rw [if_neg (by simpa using h), if_neg h]; omega
theorem tryG_len {R : List Int} {f : Kg → Tired → Option (List (List Int)) × Kg} {n : Nat} (hf : ∀ kg u l, (f kg u).1 = some l → l.length = n) : ∀ (gs : List (List Int × Tired)) (kg : Kg) (l : List (List Int)), (tryG R f kg gs).1 = some l → l.length = n + 1
 | [], kg, l, h => by simp [tryG] at h
 | p :: r, kg, l, h => by
  rw [tryG] at h
  split at h
  ·split at h
   ·rename_i l2 hl2
    cases h
    simp [hf _ _ _ hl2]
   ·exact tryG_len hf r _ l h
  ·exact tryG_len hf r kg l h
theorem fillW_len {c : WCase} {set : Int} : ∀ (rows : List (List Int)) (row : Int) (t : Tired) (kg : Kg) (l : List (List Int)), (fillW c set rows row t kg).1 = some l → l.length = rows.length
 | [], row, t, kg, l, h => by cases h; rfl
 | R :: rest, row, t, kg, l, h => by
  rw [fillW] at h
  split at h
  ·cases h
  split at h
  ·rename_i l2 hl2
   cases h
   exact tryG_len (fun kg u l hl => fillW_len rest _ _ _ l hl) _ _ _ hl2
  ·cases h
def fillR (c : WCase) (rota : List (List Int)) : Option (List (List Int)) := (fillW c (allMen c) rota 0 .zero []).1
def fillE (c : WCase) (rota : List (List Int)) : Int := if entE c rota = 0 then (if (emptyN rota : Int) > 12 then 7 else if (fillR c rota).isSome then 0 else 9) else entE c rota
def fillL (c : WCase) (rota : List (List Int)) : List (List Int) := (fillR c rota).getD []
theorem rows_small {c : WCase} {rota : List (List Int)} (h : entE c rota = 0) : ∀ r ∈ rota, r.length < 1000 := fun r hr => by
 obtain ⟨hR, hl, hall⟩ := ent_ok h
 have hm := hR.men
 rcases ascF_len (hall r hr) with h1 | h1
 ·rw [h1]; simp
 ·omega
theorem wa36 (c : WCase) (rota : List (List Int)) : FnV Try.prog 36 [c.d, rotaD rota] (.tup [if fillE c rota = 0 then rotaD (fillL c rota) else .nils, i64 (fillE c rota)]) := by
 refine fnV_of mixed tysOk Try.func36 rfl (ft := ft36) 2 (by decide +kernel) (by rfl) fun {σ} Y st => ?_
 conv=>whnf
 refine CallA_v (wa63 c rota) rfl rfl ?_
 conv=>whnf
 by_cases h0 : entE c rota = 0
 ·obtain ⟨hR, hl, _⟩ := ent_ok h0
  have hrs := rows_small h0
  rw [h0]
  simp only [if_true]
  conv=>whnf
  rw [List.length_map]
  refine LoopA_i (T := tys) tysOk (by exact drawsB_spec mixed tysOk (by decide +kernel)) rota (fun i (n : Nat) => ⟨[(1, .d (rotaD rota)), (4, .d .nils), (5, .d (i64 0)), (6, .d (crewD c (allMen c))), (8, .d (i64 n)), (22, .d (rotaD rota)), (23, .d (i64 rota.length)), (24, .d (i64 i))], [], st⟩)
   (fun i r n => n ≤ i ∧ emptyN rota = n + emptyN r) 0 (Wk.sub (by repeat' first|exact trivial|refine⟨?_,?_⟩|rfl|(simp only[List.length_map];rfl)|simp[PX.get]) trivial) ⟨by simp, by simp⟩ ?_ ?_
  ·rintro i x r n hx hi hr2 ⟨hn, he⟩
   conv=>whnf
   refine brk_i (fun _ => ?_) (fun h => absurd hi (by have := of_decide_eq_false h; omega))
   conv=>whnf
   refine elemK_nat hx ?_
   conv=>whnf
   refine brk_i (fun h1 => ?_) (fun h1 => ?_)
   ·have h1 : x.length = 0 := by
     have : ((x.map fun n => [i64 n]).length : Int) = 0 := of_decide_eq_true h1
     simpa using this
    conv=>whnf
    refine arith_to (((n + 1 : Nat) : Int)) (by (try dsimp only); omega) (wrap_i64 (by (try dsimp only); omega)) ?_
    conv=>whnf
    refine arith_in (wrap_i64 (by (try dsimp only); omega)) ?_
    conv=>whnf
    refine ⟨n + 1, ⟨by omega, ?_⟩, (Wk.sub (by repeat' first|exact trivial|refine⟨?_,?_⟩|rfl|(simp only[List.length_map];rfl)|simp[PX.get]) trivial)⟩
    rw [he, emptyN_cons, if_pos h1]; omega
   ·have h1 : ¬ x.length = 0 := by
     have : ¬ ((x.map fun n => [i64 n]).length : Int) = 0 := of_decide_eq_false h1
     simpa using this
    conv=>whnf
    refine arith_in (wrap_i64 (by (try dsimp only); omega)) ?_
    conv=>whnf
    refine ⟨n, ⟨by omega, ?_⟩, (Wk.sub (by repeat' first|exact trivial|refine⟨?_,?_⟩|rfl|(simp only[List.length_map];rfl)|simp[PX.get]) trivial)⟩
    rw [he, emptyN_cons, if_neg h1]; omega
  ·rintro n ⟨hn, he⟩
   have he : emptyN rota = n := by simpa [emptyN] using he
   conv=>whnf
   refine brk_i (fun h => absurd h (by simp)) (fun _ => ?_)
   conv=>whnf
   refine brk_i (fun h1 => ?_) (fun h1 => ?_)
   ·have h1 : (n : Int) > 12 := of_decide_eq_true h1
    have hE : fillE c rota = 7 := by rw [fillE, if_pos h0, if_pos (by rw [he]; exact h1)]
    rw [hE]
    conv=>whnf
    exact RetA_view 0 rfl ⟨⟨rfl, rfl⟩, rfl⟩
   have h1 : ¬ (n : Int) > 12 := of_decide_eq_false h1
   have hE : fillE c rota = if (fillR c rota).isSome then 0 else 9 := by rw [fillE, if_pos h0, if_neg (by rw [he]; exact h1)]
   have hI : FnU Try.prog 83 [.d (crewD c (allMen c)), .d (Gap.d ⟨(0 : Nat), .zero⟩), .d (rotaD rota), .mp 1000000] [(1000000, .map (kgD []))] (fun v h' => v = fillV rota.length (fillW c (allMen c) rota 0 .zero []) ∧ h' = fillHp 0 (fillW c (allMen c) rota 0 .zero [])) :=
    fun {σ} => fillOk hR (by omega) hrs rota 0 .zero [] (InU.zero hR) (fun g v h => by cases h) rfl (by simp)
   have hL : fillR c rota = (fillW c (allMen c) rota 0 .zero []).1 := rfl
   unfold fillL
   rw [hE]
   generalize fillW c (allMen c) rota 0 .zero [] = r2 at hI hL
   obtain ⟨o, kg2⟩ := r2
   have hL : fillR c rota = o := hL
   rw [hL]
   cases o with
   | none =>
    conv=>whnf
    refine CallA_fn hI [40] rfl ⟨_, _, rfl, rfl, rfl⟩ rfl ?_
    conv=>whnf
    exact RetA_view 0 rfl ⟨⟨rfl, rfl⟩, rfl⟩
   | some l =>
    conv=>whnf
    refine CallA_fn hI [40] rfl ⟨_, _, rfl, rfl, rfl⟩ rfl ?_
    conv=>whnf
    have hll : l.length = rota.length := fillW_len rota 0 .zero [] l hL
    refine RetA_view 1 (ds := [rotaD l, i64 0]) ?_ ⟨⟨rfl, rfl⟩, rfl⟩
    exact viewL_cons (viewV_sl (es := l.map fun r => [intsD r]) rfl (by simp [hll])) rfl
 ·have hE : fillE c rota = entE c rota := by rw [fillE, if_neg h0]
  rw [hE]
  simp only [h0, if_false]
  conv=>whnf
  exact RetA_view 0 rfl ⟨⟨rfl, rfl⟩, rfl⟩
end Go.PX
namespace Go.PX
open Go.Proofs
theorem walk_app {c : WCase} {set : Int} : ∀ {l1 l2 : List (List Int)} {t : Tired} {i : Int}, 0 ≤ i → (walkF c set t (l1 ++ l2) i).1.1 = -1 → (walkF c set t l1 i).1.1 = -1
 | [], l2, t, i, _, _ => rfl
 | r :: l1, l2, t, i, hi, h => by
  rw [List.cons_append, walkF] at h
  rw [walkF]
  split
  ·rename_i h1
   rw [if_pos h1] at h
   exact walk_app (by omega) h
  ·rename_i h1
   rw [if_neg h1] at h
   exact h
def missT (c : WCase) (rota : List (List Int)) (from_ : Int) : Tired := (walkF c (allMen c) .zero (rota.take from_.toNat) 0).2
def missE (c : WCase) (rota : List (List Int)) (from_ : Int) : Int :=
 if entE c rota = 0 then (if ¬ (0 ≤ from_ ∧ from_ ≤ rota.length) ∨ (rota.length : Int) - from_ > 12 then 7 else if (walkF c (allMen c) .zero rota 0).1.1 ≥ 0 then 9 else 0) else entE c rota
def canDo (c : WCase) (t : Tired) (n : Nat) (m : Int) : Bool := (fillW c (butSet c m) (List.replicate n []) 0 t []).1.isSome
def missL (c : WCase) (rota : List (List Int)) (from_ : Int) : List Int := ((List.range c.men.length).filter fun (i : Nat) => canDo c (missT c rota from_) (rota.length - from_.toNat) i).map fun (i : Nat) => (i : Int)
theorem relax_nils : ∀ k : Nat, relaxE (List.replicate k [D.nils]) = (List.replicate k ([] : List Int)).map fun r => [intsD r]
 | 0 => rfl
 | k + 1 => by
  rw [List.replicate_succ, List.replicate_succ, relaxE, relax_nils k]; rfl
theorem wa38 (c : WCase) (rota : List (List Int)) (from_ : Int) : FnV Try.prog 38 [c.d, rotaD rota, i64 from_] (.tup [if missE c rota from_ = 0 then intsN (missL c rota from_) else .nils, i64 (missE c rota from_)]) := by
 refine fnV_of mixed tysOk Try.func38 rfl (ft := (ft38.more 14 [105888])) 3 (by decide +kernel) (by rfl) fun {σ} Y st => ?_
 conv=>whnf
 refine CallA_v (wa63 c rota) rfl rfl ?_
 conv=>whnf
 by_cases h0 : entE c rota = 0
 ·obtain ⟨hR, hl, _⟩ := ent_ok h0
  have hrs := rows_small h0
  have hm := hR.men
  rw [h0]
  simp only [if_true]
  conv=>whnf
  rw [List.length_map]
  refine CallA_view (ds := [i64 0, i64 rota.length, .vs [[i64 from_]]]) (wa55_1 0 rota.length from_) rfl 1 rfl ?_
  conv=>whnf
  refine brk_i (fun h1 => ?_) (fun h1 => ?_)
  ·have h1 : ¬ (0 ≤ from_ ∧ from_ ≤ rota.length) := by
    intro h2
    have : inB from_ 0 rota.length = true := inB_iff.2 h2
    rw [this] at h1; cases h1
   have hE : missE c rota from_ = 7 := by rw [missE, if_pos h0, if_pos (.inl h1)]
   rw [hE]
   conv=>whnf
   exact RetA_view 0 rfl ⟨⟨rfl, rfl⟩, rfl⟩
  have h1 : 0 ≤ from_ ∧ from_ ≤ rota.length := by
   have : inB from_ 0 rota.length = true := by simpa using h1
   exact inB_iff.1 this
  have hlm : ((rota.map fun r => [intsD r]).length : Int) = rota.length := by simp
  conv=>whnf
  refine arith_to ((rota.length : Int) - from_) (by rw [hlm]) (wrap_i64 (by omega)) ?_
  conv=>whnf
  refine brk_i (fun h2 => ?_) (fun h2 => ?_)
  ·have h2 : (rota.length : Int) - from_ > 12 := of_decide_eq_true h2
   have hE : missE c rota from_ = 7 := by rw [missE, if_pos h0, if_pos (.inr h2)]
   rw [hE]
   conv=>whnf
   exact RetA_view 0 rfl ⟨⟨rfl, rfl⟩, rfl⟩
  have h2 : ¬ (rota.length : Int) - from_ > 12 := of_decide_eq_false h2
  have hz := TG.zero hR
  have hrk := rows_ok h0
  conv=>whnf
  refine CallA_v (ds := [crewD c (allMen c), Tired.zero.d, rotaD rota]) (wa64 c hR (allMen c) .zero hz.slot hz.bd rota hrk hl) rfl rfl ?_
  conv=>whnf
  refine brk_i (fun h3 => ?_) (fun h3 => ?_)
  ·have h3 : (walkF c (allMen c) .zero rota 0).1.1 ≥ 0 := of_decide_eq_true h3
   have hE : missE c rota from_ = 9 := by rw [missE, if_pos h0, if_neg (by omega), if_pos h3]
   rw [hE]
   conv=>whnf
   exact RetA_view 0 rfl ⟨⟨rfl, rfl⟩, rfl⟩
  have h3 : ¬ (walkF c (allMen c) .zero rota 0).1.1 ≥ 0 := of_decide_eq_false h3
  have hE : missE c rota from_ = 0 := by rw [missE, if_pos h0, if_neg (by omega), if_neg h3]
  rw [hE]
  have hgood : (walkF c (allMen c) .zero rota 0).1.1 = -1 := by
   rcases walk_at (c := c) (set := allMen c) (rota := rota) (t := .zero) (i := 0) with h | h
   ·exact h
   ·omega
  have hgt : (walkF c (allMen c) .zero (rota.take from_.toNat) 0).1.1 = -1 := walk_app (l2 := rota.drop from_.toNat) (Int.le_refl 0) (by rw [List.take_append_drop]; exact hgood)
  have hU : InU c (missT c rota from_) := walk_InU hR (Int.le_refl 0) (InU.zero hR) hgt
  conv=>whnf
  refine chk_i (by rw [hlm]; simp; omega) ?_
  conv=>whnf
  refine chk_i (by cases rota <;> rfl) ?_
  conv=>whnf
  have htk : (((rota.map fun r => [intsD r]).take from_.toNat).drop 0) = (rota.take from_.toNat).map fun r => [intsD r] := by simp [List.map_take]
  rw [htk]
  refine CallA_v (ds := [crewD c (allMen c), Tired.zero.d, rotaD (rota.take from_.toNat)]) (wa64 c hR (allMen c) .zero hz.slot hz.bd (rota.take from_.toNat) (fun r hr => hrk r (List.mem_of_mem_take hr)) (by rw [List.length_take]; omega)) rfl rfl ?_
  conv=>whnf
  generalize hM : missL c rota from_ = M
  have hTd : (walkF c (allMen c) .zero (rota.take from_.toNat) 0).2 = missT c rota from_ := rfl
  have hMd : M = ((List.range c.men.length).filter fun (i : Nat) => canDo c (missT c rota from_) (rota.length - from_.toNat) i).map fun (i : Nat) => (i : Int) := hM.symm
  clear hM
  generalize missT c rota from_ = t at hU hTd hMd
  rw [hTd, List.length_map]
  refine LoopA_i (T := tys) tysOk (by exact drawsB_spec mixed tysOk (by decide +kernel)) (List.range c.men.length) (fun j (acc : List Int) => ⟨[(1, .d (rotaD rota)), (2, .d (i64 from_)), (3, .ptr 3 0), (6, match acc with
    | [] => .d .nils
    | x :: r => .sl 99 1 0 (x :: r).length), (8, .d (crewD c (allMen c))), (16, .ptr 16 0), (68, .d (i64 c.men.length)), (69, .d (i64 j))], match acc with
    | [] => [(3, .box (.dd c.cells)), (16, .box (.dd t.cells))]
    | x :: r => [(3, .box (.dd c.cells)), (16, .box (.dd t.cells)), (99, .arr 1 (.dd (intsC (x :: r))))], st⟩)
   (fun j r acc => acc.length ≤ j ∧ M = acc ++ (r.filter fun (i : Nat) => canDo c t (rota.length - from_.toNat) i).map fun (i : Nat) => (i : Int)) [] (Wk.sub (by repeat' first|exact trivial|refine⟨?_,?_⟩|rfl|(simp only[List.length_map];rfl)|simp[PX.get]) (by repeat' first|exact trivial|refine⟨?_,?_⟩|rfl|(simp only[List.length_map];rfl)|simp[PX.get])) ⟨by simp, hMd⟩ ?_ ?_
  ·intro j x r acc hx hj hr2 hi
   obtain ⟨hal, he⟩ := hi
   have hxj : j = x := by
    rw [List.getElem?_range (by simpa using hj)] at hx
    exact Option.some.inj hx
   subst hxj
   have hjm : j < c.men.length := by simpa using hj
   have hpw : (1 : Int) * 2 ^ min (j : Int).toNat IntKind.i64.bits = 2 ^ ((j : Int).toNat) := by
    rw [show min (j : Int).toNat IntKind.i64.bits = j by show min j 64 = j; omega, Int.one_mul]; rfl
   have hpb : (2 : Int) ^ ((j : Int).toNat) ≤ 32 ∧ 0 ≤ (2 : Int) ^ ((j : Int).toNat) := by
    have : j = 0 ∨ j = 1 ∨ j = 2 ∨ j = 3 ∨ j = 4 := by omega
    rcases this with rfl | rfl | rfl | rfl | rfl <;> decide
   have hfl : ∀ b : Bool, canDo c t (rota.length - from_.toNat) j = b → ((j :: r).filter fun (i : Nat) => canDo c t (rota.length - from_.toNat) i) = (if b then [j] else []) ++ r.filter fun (i : Nat) => canDo c t (rota.length - from_.toNat) i := by
    intro b hb
    rw [List.filter_cons, hb]
    cases b <;> rfl
   have hk : ((rota.length : Int) - from_).toNat = rota.length - from_.toNat := by omega
   cases acc with
   | nil =>
    conv=>whnf
    refine brk_i (fun _ => ?_) (fun h => absurd hjm (by have := of_decide_eq_false h; omega))
    conv=>whnf
    refine arith_to (2 ^ ((j : Int).toNat)) hpw (wrap_i64 (by omega)) ?_
    conv=>whnf
    refine arith_to ((rota.length : Int) - from_) (by rw [hlm]) (wrap_i64 (by omega)) ?_
    conv=>whnf
    refine chk_i (by rw [Bool.and_eq_true]; exact ⟨rfl, by simp; omega⟩) ?_
    conv=>whnf
    refine chk_i (decide_eq_true (by dsimp only; omega)) ?_
    conv=>whnf
    have hI : FnU Try.prog 83 [.d (crewD c (butSet c j)), .d (Gap.d ⟨(0 : Nat), t⟩), .d (rotaD (List.replicate (rota.length - from_.toNat) [])), .mp 1000000] [(1000000, .map (kgD []))] (fun v h' => v = fillV (List.replicate (rota.length - from_.toNat) ([] : List Int)).length (fillW c (butSet c j) (List.replicate (rota.length - from_.toNat) []) 0 t []) ∧ h' = fillHp 0 (fillW c (butSet c j) (List.replicate (rota.length - from_.toNat) []) 0 t [])) :=
     fun {σ} => fillOk hR (by rw [List.length_replicate]; omega) (fun r hr => by rw [List.eq_of_mem_replicate hr]; simp) (List.replicate (rota.length - from_.toNat) []) 0 t [] hU (fun g v h => by cases h) rfl (by simp)
    have hcd : canDo c t (rota.length - from_.toNat) j = (fillW c (butSet c j) (List.replicate (rota.length - from_.toNat) []) 0 t []).1.isSome := rfl
    refine DrawCall_part 2 [81, 90] ?_
    refine DrawCall_rep (args' := [.d (crewD c (butSet c j)), .d (Gap.d ⟨(0 : Nat), t⟩), .d (rotaD (List.replicate (rota.length - from_.toNat) [])), .mp 91]) (fun yv L F w l h => by
     obtain ⟨x1, l1, rfl, h1, x2, l2, rfl, h2, x3, l3, rfl, h3, h4⟩ := h
     refine ⟨x1, _, rfl, h1, x2, _, rfl, h2, x3, _, rfl, ?_, h4⟩
     have h5 := RepD.relax _ _ (RepV_sl (d := .vs (List.replicate (rota.length - from_.toNat) [D.nils])) h3 (viewV_sl' rfl (by rw [hk]) (by rw [hk]; simp)))
     have h6 : relax (.vs (List.replicate (rota.length - from_.toNat) [D.nils])) = rotaD (List.replicate (rota.length - from_.toNat) []) := by
      show D.vs (relaxE _) = _
      rw [relax_nils]; rfl
     rw [h6] at h5
     exact h5) ?_
    generalize fillW c (butSet c j) (List.replicate (rota.length - from_.toNat) []) 0 t [] = r2 at hI hcd
    obtain ⟨o, kg2⟩ := r2
    cases o with
    | none =>
     rw [hfl false (by rw [hcd]; rfl)] at he
     conv=>whnf
     refine DrawCall_fn hI [91] rfl ⟨_, _, rfl, rfl, rfl⟩ rfl ?_
     conv=>whnf
     refine arith_in (wrap_i64 (by (try dsimp only); omega)) ?_
     conv=>whnf
     refine ⟨[], ⟨by simp, by simpa using he⟩, (Wk.sub (by repeat' first|exact trivial|refine⟨?_,?_⟩|rfl|(simp only[List.length_map];rfl)|simp[PX.get]) (by repeat' first|exact trivial|refine⟨?_,?_⟩|rfl|(simp only[List.length_map];rfl)|simp[PX.get]))⟩
    | some l2 =>
     rw [hfl true (by rw [hcd]; rfl)] at he
     conv=>whnf
     refine DrawCall_fn hI [91] rfl ⟨_, _, rfl, rfl, rfl⟩ rfl ?_
     conv=>whnf
     refine ownK_whole rfl ?_
     conv=>whnf
     refine arith_in (wrap_i64 (by (try dsimp only); omega)) ?_
     conv=>whnf
     refine ⟨[(j : Int)], ⟨by simp, by simpa using he⟩, (Wk.sub (by repeat' first|exact trivial|refine⟨?_,?_⟩|rfl|(simp only[List.length_map];rfl)|simp[PX.get]) (by repeat' first|exact trivial|refine⟨?_,?_⟩|rfl|(simp only[List.length_map];rfl)|simp[PX.get]))⟩
   | cons a l =>
    conv=>whnf
    refine brk_i (fun _ => ?_) (fun h => absurd hjm (by have := of_decide_eq_false h; omega))
    conv=>whnf
    refine arith_to (2 ^ ((j : Int).toNat)) hpw (wrap_i64 (by omega)) ?_
    conv=>whnf
    refine arith_to ((rota.length : Int) - from_) (by rw [hlm]) (wrap_i64 (by omega)) ?_
    conv=>whnf
    refine chk_i (by rw [Bool.and_eq_true]; exact ⟨rfl, by simp; omega⟩) ?_
    conv=>whnf
    refine chk_i (decide_eq_true (by dsimp only; omega)) ?_
    conv=>whnf
    have hI : FnU Try.prog 83 [.d (crewD c (butSet c j)), .d (Gap.d ⟨(0 : Nat), t⟩), .d (rotaD (List.replicate (rota.length - from_.toNat) [])), .mp 1000000] [(1000000, .map (kgD []))] (fun v h' => v = fillV (List.replicate (rota.length - from_.toNat) ([] : List Int)).length (fillW c (butSet c j) (List.replicate (rota.length - from_.toNat) []) 0 t []) ∧ h' = fillHp 0 (fillW c (butSet c j) (List.replicate (rota.length - from_.toNat) []) 0 t [])) :=
     fun {σ} => fillOk hR (by rw [List.length_replicate]; omega) (fun r hr => by rw [List.eq_of_mem_replicate hr]; simp) (List.replicate (rota.length - from_.toNat) []) 0 t [] hU (fun g v h => by cases h) rfl (by simp)
    have hcd : canDo c t (rota.length - from_.toNat) j = (fillW c (butSet c j) (List.replicate (rota.length - from_.toNat) []) 0 t []).1.isSome := rfl
    refine DrawCall_part 2 [81, 90] ?_
    refine DrawCall_rep (args' := [.d (crewD c (butSet c j)), .d (Gap.d ⟨(0 : Nat), t⟩), .d (rotaD (List.replicate (rota.length - from_.toNat) [])), .mp 91]) (fun yv L F w l h => by
     obtain ⟨x1, l1, rfl, h1, x2, l2, rfl, h2, x3, l3, rfl, h3, h4⟩ := h
     refine ⟨x1, _, rfl, h1, x2, _, rfl, h2, x3, _, rfl, ?_, h4⟩
     have h5 := RepD.relax _ _ (RepV_sl (d := .vs (List.replicate (rota.length - from_.toNat) [D.nils])) h3 (viewV_sl' rfl (by rw [hk]) (by rw [hk]; simp)))
     have h6 : relax (.vs (List.replicate (rota.length - from_.toNat) [D.nils])) = rotaD (List.replicate (rota.length - from_.toNat) []) := by
      show D.vs (relaxE _) = _
      rw [relax_nils]; rfl
     rw [h6] at h5
     exact h5) ?_
    generalize fillW c (butSet c j) (List.replicate (rota.length - from_.toNat) []) 0 t [] = r2 at hI hcd
    obtain ⟨o, kg2⟩ := r2
    cases o with
    | none =>
     rw [hfl false (by rw [hcd]; rfl)] at he
     conv=>whnf
     refine DrawCall_fn hI [91] rfl ⟨_, _, rfl, rfl, rfl⟩ rfl ?_
     conv=>whnf
     refine arith_in (wrap_i64 (by (try dsimp only); omega)) ?_
     conv=>whnf
     refine ⟨a :: l, ⟨by simp at hal ⊢; omega, by simpa using he⟩, (Wk.sub (by repeat' first|exact trivial|refine⟨?_,?_⟩|rfl|(simp only[List.length_map];rfl)|simp[PX.get]) (by repeat' first|exact trivial|refine⟨?_,?_⟩|rfl|(simp only[List.length_map];rfl)|simp[PX.get]))⟩
    | some l2 =>
     rw [hfl true (by rw [hcd]; rfl)] at he
     conv=>whnf
     refine DrawCall_fn hI [91] rfl ⟨_, _, rfl, rfl, rfl⟩ rfl ?_
     conv=>whnf
     refine ownK_whole rfl ?_
     conv=>whnf
     refine ownK_whole (by simp [Els.len, intsC]) ?_
     conv=>whnf
     refine chk_i (decide_eq_true (by
      show ((intsC (a :: l)).length + 1) * 8 ≤ 140737488355328
      simp [intsC] at hal ⊢; omega)) ?_
     conv=>whnf
     refine arith_in (wrap_i64 (by (try dsimp only); omega)) ?_
     conv=>whnf
     refine ⟨a :: l ++ [(j : Int)], ⟨by simp at hal ⊢; omega, by simpa using he⟩, Wk.sub ⟨rfl, rfl, rfl, ?_, rfl, rfl, rfl, rfl, trivial⟩ ⟨rfl, rfl, ?_, trivial⟩⟩
     ·show some (V.sl 99 1 0 ((intsC (a :: l)).length + 1)) = some (V.sl 99 1 0 (a :: (l ++ [(j : Int)])).length)
      simp [intsC]
     ·show some (Obj.arr 1 (Els.dd (intsC (a :: l) ++ [[i64 (j : Int)]]))) = some (Obj.arr 1 (Els.dd (intsC (a :: (l ++ [(j : Int)])))))
      simp [intsC]
  ·rintro acc ⟨_, he⟩
   have he : M = acc := by simpa using he
   rw [he]
   cases acc with
   | nil =>
    conv=>whnf
    refine brk_i (fun h => absurd h (by simp)) (fun _ => ?_)
    conv=>whnf
    exact RetA_view 0 rfl ⟨⟨rfl, rfl⟩, rfl⟩
   | cons a l =>
    conv=>whnf
    refine brk_i (fun h => absurd h (by simp)) (fun _ => ?_)
    conv=>whnf
    refine RetA_view 1 (ds := [intsD (a :: l), i64 0]) ?_ ⟨⟨rfl, rfl⟩, rfl⟩
    exact viewL_cons (viewV_sl (es := intsC (a :: l)) rfl (by simp [intsC])) rfl
 ·have hE : missE c rota from_ = entE c rota := by rw [missE, if_neg h0]
  rw [hE]
  simp only [h0, if_false]
  conv=>whnf
  exact RetA_view 0 rfl ⟨⟨rfl, rfl⟩, rfl⟩
end Go.PX
