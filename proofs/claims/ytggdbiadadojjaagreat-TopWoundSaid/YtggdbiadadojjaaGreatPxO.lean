import Derived.Test.YtggdbiadadojjaaGreatPxN
set_option linter.all false
set_option maxRecDepth 10000
namespace Go.PX
open Go.Proofs
def upto : Nat → Int → List Int
 | 0, _ => []
 | k + 1, v => v :: upto k (v + 1)
def spanL (s : Span) : List Int := upto (s.hi + 1 - s.lo).toNat s.lo
def segF (x : LLamp) (wf : Int → Bool → Bool) (speed s0 : Int) : Nat → Int → Int → List Bool → Option (List Bool × Int)
 | 0, _, a, acc => some (acc, a)
 | k + 1, s, a, acc => if wf s (openB x a) then segF x wf speed s0 k (s + 1) (nextF x a speed (s - s0)) (acc ++ [openB x a]) else none
def runsL (x : LLamp) (wf : Int → Bool → Bool) : List Int → Int → Int → List Int → List Bool → List (List Int × List Bool)
 | [], s0, a, sp, lit => (spanL x.speed).flatMap fun v => match segF x wf v s0 (x.night - s0).toNat s0 a lit with
  | none => []
  | some (l, _) => [(sp ++ [v], l)]
 | e :: r, s0, a, sp, lit => (spanL x.speed).flatMap fun v => match segF x wf v s0 (e - s0).toNat s0 a lit with
  | none => []
  | some (l, a') => runsL x wf r e a' (sp ++ [v]) l
def truL (x : LLamp) (w : List Int) (wf : Int → Bool → Bool) : List (LTruth × List Bool) :=
 (spanL x.start).flatMap fun st => (runsL x wf w 0 st [] []).map fun p => (⟨st, p.1⟩, p.2)
def shownD (t : LTruth × List Bool) : D := .agg [i64 t.1.start, intsD t.1.speeds, boolsD t.2]
def shownV (t : LTruth × List Bool) : List V × Heap := ([.d (shownD t)], [])
def WantL (x : LLamp) (f : FuncId) (caps : List D) (wf : Int → Bool → Bool) : Prop := ∀ (s : Int) (b : Bool), 0 ≤ s ∧ s < x.night → FnV Tryz.prog f (i64 s :: .bool b :: caps) (.bool (wf s b))
noncomputable def runC (x : LLamp) (w : List Int) (f : FuncId) (caps : List D) : List V := [.d (.ref [.ref (lampC x)]), .d (.ref [intsD w]), .d (.ref [.clo f caps]), .ptr 1000000 0, .ptr 1000001 0]
noncomputable def runH (x : LLamp) (w : List Int) (f : FuncId) (caps : List D) : Heap := [(1000000, .box (.vv [.yld])), (1000001, .box (.vv [.clo 94 (runC x w f caps)]))]
def endOf (x : LLamp) (rem : List Int) : Int := match rem with
 | [] => x.night
 | e :: _ => e
def GRun (x : LLamp) (w : List Int) (f : FuncId) (caps : List D) (wf : Int → Bool → Bool) (rem : List Int) : Prop :=
 ∀ (n : Nat) (st : Int) (sp : List Int) (lit : List Bool) (s0 a : Int), w.drop n = rem → n ≤ w.length → sp.length = n → (lit.length : Int) = s0 → 0 ≤ s0 ∧ s0 ≤ endOf x rem → 0 ≤ a ∧ a < x.drum → 
  ∀ {σ : Type} (Y : Hd σ) (g0 : σ) (rest : List (List V × Heap)) (Q : σ → Prop),
  iterate Y (((runsL x wf rem s0 a sp lit).map fun p => shownV (⟨st, p.1⟩, p.2)) ++ rest) g0 Q → FnC Tryz.prog Y 94 (.d (.agg [i64 st, intsD sp, boolsD lit]) :: .d (i64 a) :: .d (i64 s0) :: .d (i64 n) :: runC x w f caps) (runH x w f caps) g0 fun v h' s' =>
   h' = runH x w f caps ∧ ((v = .d (.bool true) ∧ iterate Y rest s' Q) ∨ (v = .d (.bool false) ∧ Q s'))
noncomputable def ft94b : FT := ft94.more 7 [103328]
def afterOf (x : LLamp) (wf : Int → Bool → Bool) (rem : List Int) (sp : List Int) (v : Int) (o : Option (List Bool × Int)) : List (List Int × List Bool) := match o with
 | none => []
 | some (l, a') => match rem with
  | [] => [(sp ++ [v], l)]
  | e :: r => runsL x wf r e a' (sp ++ [v]) l
theorem runsL_eq (x : LLamp) (wf : Int → Bool → Bool) (rem : List Int) (s0 a : Int) (sp : List Int) (lit : List Bool) : runsL x wf rem s0 a sp lit = (spanL x.speed).flatMap fun v => afterOf x wf rem sp v (segF x wf v s0 (endOf x rem - s0).toNat s0 a lit) := by
 cases rem with
 | nil =>
  rw [runsL]
  rfl
 | cons e r =>
  rw [runsL]
  rfl
theorem viewV_agg {g : Nat → Option DO} {cs : List V} {l : List D} (h : viewL g cs = some l) : viewV g (.agg cs) = some (.agg l) := by simp [viewV, h]
set_option maxHeartbeats 1000000 in
theorem grun {x : LLamp} (hR : LampR x) {w : List Int} (hw : w.length ≤ 2) (hww : ∀ s ∈ w, 1 ≤ s ∧ s ≤ x.night - 1) {f : FuncId} {caps : List D} {wf : Int → Bool → Bool} (hwant : WantL x f caps wf) (rem : List Int)
  (ih : ∀ e r, rem = e :: r → e ≤ endOf x r ∧ GRun x w f caps wf r) : GRun x w f caps wf rem := by
 intro n st sp lit s0 a hdrop hn hsp hlit hs0 ha σ Y g0 rest Q hit
 refine fnC_of mixed tysOk Tryz.func94 rfl (ft := ft94b) (args := .d (.agg [i64 st, intsD sp, boolsD lit]) :: .d (i64 a) :: .d (i64 s0) :: .d (i64 n) :: runC x w f caps) (show fnB ft94b Tryz.f94 9 = true from by decide +kernel) ?_
 have hd := hR.drum
 have hni := hR.night
 have hspd := hR.speed
 rw [runsL_eq] at hit
 have hend : endOf x rem ≤ x.night := by
  cases rem with
  | nil => exact Int.le_refl _
  | cons e r =>
   have := hww e (List.mem_of_mem_drop (by rw [hdrop]; simp))
   show e ≤ _
   omega
 have hcase : ((n : Int) < w.length ∧ ∃ e r, rem = e :: r ∧ w[n]? = some e) ∨ (¬ (n : Int) < w.length ∧ rem = [] ∧ n = w.length) := by
  cases rem with
  | nil =>
   have := List.drop_eq_nil_iff.1 hdrop
   exact .inr ⟨by omega, rfl, by omega⟩
  | cons e r =>
   have h1 : n < w.length := by
    rcases Nat.lt_or_ge n w.length with h | h
    ·exact h
    ·rw [List.drop_eq_nil_of_le h] at hdrop; cases hdrop
   refine .inl ⟨by omega, e, r, rfl, ?_⟩
   rw [← List.head?_drop, hdrop]; rfl
 conv=>whnf
 rcases hcase with ⟨h1, e, r, hrem, hwe⟩ | ⟨h1, hrem, hnw⟩
 ·rw [show decide ((n : Int) < ((List.map (fun n => [i64 n]) w).length : Int)) = true from by simpa using h1]
  conv=>whnf
  refine elemK_i [i64 e] ⟨by omega, by simp [hwe]⟩ ?_
  conv=>whnf
  have hE : e = endOf x rem := by rw [hrem]; rfl
  rw [hE]
  refine LoopA_p (T := tys) tysOk (by exact drawsB_spec mixed tysOk (by decide +kernel)) (α := Int × σ)
   (fun p => ⟨[(1, .d (i64 a)), (2, .d (i64 s0)), (3, .d (i64 n)), (4, .d (.ref [.ref (lampC x)])), (5, .d (.ref [intsD w])), (6, .d (.ref [.clo f caps])), (7, .ptr 1000000 0), (8, .ptr 1000001 0), (9, .ptr 9 0), (13, .d (.bool false)), (14, .d (i64 (endOf x rem))), (15, .d (i64 p.1))], runH x w f caps ++ [(9, .box (.dd [i64 st, intsD sp, boolsD lit]))], p.2⟩)
   (fun p => x.speed.lo ≤ p.1 ∧ p.1 ≤ x.speed.hi + 1 ∧ iterate Y ((((upto (x.speed.hi + 1 - p.1).toNat p.1).flatMap fun v => afterOf x wf rem sp v (segF x wf v s0 (endOf x rem - s0).toNat s0 a lit)).map fun p => shownV (⟨st, p.1⟩, p.2)) ++ rest) p.2 Q) (fun p => (x.speed.hi + 1 - p.1).toNat) (x.speed.lo, g0) ?wk ⟨Int.le_refl _, by simp only; omega, hit⟩ ?_
  case wk => exact (Wk.sub ⟨(by first | rfl | (simp only [List.length_map]; rfl) | simp [PX.get]), (by first | rfl | (simp only [List.length_map]; rfl) | simp [PX.get]), (by first | rfl | (simp only [List.length_map]; rfl) | simp [PX.get]), (by first | rfl | (simp only [List.length_map]; rfl) | simp [PX.get]), (by first | rfl | (simp only [List.length_map]; rfl) | simp [PX.get]), (by first | rfl | (simp only [List.length_map]; rfl) | simp [PX.get]), (by first | rfl | (simp only [List.length_map]; rfl) | simp [PX.get]), (by first | rfl | (simp only [List.length_map]; rfl) | simp [PX.get]), (by first | rfl | (simp only [List.length_map]; rfl) | simp [PX.get]), (by first | rfl | (simp only [List.length_map]; rfl) | simp [PX.get]), (by first | rfl | (simp only [List.length_map]; rfl) | simp [PX.get]), (by first | rfl | (simp only [List.length_map]; rfl) | simp [PX.get]), trivial⟩ ⟨(by first | rfl | (simp only [List.length_map]; rfl) | simp [PX.get]), (by first | rfl | (simp only [List.length_map]; rfl) | simp [PX.get]), (by first | rfl | (simp only [List.length_map]; rfl) | simp [PX.get]), trivial⟩)
  clear hit g0
  rintro ⟨v, g0⟩ ⟨hv1, hv2, hit⟩
  simp only at hv1 hv2 hit
  conv=>whnf
  refine brk_i (fun h2 => ?_) (fun h2 => ?_)
  ·have h2 : v ≤ x.speed.hi := by simpa using h2
   obtain ⟨m, hm⟩ : ∃ m, (x.speed.hi + 1 - v).toNat = m + 1 := ⟨(x.speed.hi - v).toNat, by omega⟩
   have hm2 : (x.speed.hi + 1 - (v + 1)).toNat = m := by omega
   rw [hm, upto, List.flatMap_cons, List.map_append, List.append_assoc] at hit
   conv=>whnf
   refine DrawCall_fn (la114 lit (by omega)) [] rfl rfl rfl ?_
   conv=>whnf
   refine CallA_fn (la115 sp (by omega)) [] rfl rfl rfl ?_
   conv=>whnf
   refine ownK_whole rfl ?_
   conv=>whnf
   refine ownK_whole (by simp [Els.len]) ?_
   conv=>whnf
   refine chk_i (decide_eq_true (by
    show ((sp.map fun n => [D.int .i64 n]).length + 1) * 8 ≤ 140737488355328
    rw [List.length_map]; omega)) ?_
   conv=>whnf
   generalize hO : segF x wf v s0 (endOf x rem - s0).toNat s0 a lit = O at hit
   refine LoopA_p (T := tys) tysOk (by exact drawsB_spec mixed tysOk (by decide +kernel)) (α := Int × (Int × List Bool))
    (fun p => ⟨[(1, .d (i64 a)), (2, .d (i64 s0)), (3, .d (i64 n)), (4, .d (.ref [.ref (lampC x)])), (5, .d (.ref [intsD w])), (6, .d (.ref [.clo f caps])), (7, .ptr 1000000 0), (8, .ptr 1000001 0), (9, .ptr 9 0), (13, .d (.bool false)), (14, .d (i64 (endOf x rem))), (15, .d (i64 v)), (16, .ptr 16 0), (17, .d (i64 p.2.1)), (18, .d (i64 p.1))], runH x w f caps ++ [(9, .box (.dd [i64 st, intsD sp, boolsD lit])), (16, .box (.vv [.d (i64 st), .sl 60 1 0 (sp.length + 1), .sl 900001 1 0 p.2.2.length])), (60, .arr 1 (.dd (sp ++ [v] |>.map fun n => [i64 n]))), (900001, .arr 1 (.dd (p.2.2.map fun b => [.bool b])))], g0⟩)
    (fun p => s0 ≤ p.1 ∧ p.1 ≤ endOf x rem ∧ (0 ≤ p.2.1 ∧ p.2.1 < x.drum) ∧ (p.2.2.length : Int) = p.1 ∧ segF x wf v s0 (endOf x rem - p.1).toNat p.1 p.2.1 p.2.2 = O) (fun p => (endOf x rem - p.1).toNat) (s0, (a, lit)) ?wk2 ⟨Int.le_refl _, by simp only; omega, ha, hlit, hO⟩ ?_
   case wk2 =>
    refine (Wk.move 103328 900001 rfl rfl).trans (Wk.sub ⟨rfl, rfl, rfl, rfl, rfl, rfl, rfl, rfl, rfl, rfl, rfl, rfl, rfl, rfl, rfl, trivial⟩ ⟨rfl, ?_, rfl, ?_, ?_, ?_, trivial⟩)
    ·exact box_same rfl ⟨⟨rfl, rfl, rfl, rfl, ⟨rfl, rfl⟩, ⟨rfl, rfl⟩, trivial⟩, trivial⟩
    ·show some (Obj.box (Cells.vv [V.d (i64 st), V.sl 60 1 0 ((sp.map fun n => [D.int .i64 n]).length + 1), V.sl 900001 1 0 lit.length])) = some (Obj.box (Cells.vv [V.d (i64 st), V.sl 60 1 0 (sp.length + 1), V.sl 900001 1 0 lit.length]))
     rw [List.length_map]
    ·show some (Obj.arr 1 (Els.dd ((sp.map fun n => [D.int .i64 n]) ++ [[i64 v]]))) = some (Obj.arr 1 (Els.dd ((sp ++ [v]).map fun n => [i64 n])))
     rw [List.map_append]; rfl
    ·rfl
   clear hO
   rintro ⟨s, a', acc⟩ ⟨k1, k2, k3, k4, hO⟩
   simp only at k1 k2 k3 k4 hO
   conv=>whnf
   refine brk_i (fun h3 => ?_) (fun h3 => ?_)
   ·have h3 : s < endOf x rem := by simpa using h3
    obtain ⟨m2, hm3⟩ : ∃ m2, (endOf x rem - s).toNat = m2 + 1 := ⟨(endOf x rem - s - 1).toNat, by omega⟩
    have hm4 : (endOf x rem - (s + 1)).toNat = m2 := by omega
    rw [hm3, segF] at hO
    conv=>whnf
    refine chk_i (by simp; omega) ?_
    conv=>whnf
    refine lampC_at x (a := a') (by omega) rfl ?_
    conv=>whnf
    refine DrawCall_v (hwant s (openB x a') ⟨by omega, by omega⟩) rfl rfl ?_
    conv=>whnf
    cases hwf : wf s (openB x a') with
    | false =>
     rw [hwf, if_neg (by simp)] at hO
     subst hO
     conv=>whnf
     refine arith_in (wrap_i64 (by (try dsimp only); omega)) ?_
     conv=>whnf
     exact ⟨(v + 1, g0), by simp only; omega, ⟨by simp only; omega, by simp only; omega, by simp only; rw [hm2]; exact hit⟩, (Wk.sub ⟨(by first | rfl | (simp only [List.length_map]; rfl) | simp [PX.get]), (by first | rfl | (simp only [List.length_map]; rfl) | simp [PX.get]), (by first | rfl | (simp only [List.length_map]; rfl) | simp [PX.get]), (by first | rfl | (simp only [List.length_map]; rfl) | simp [PX.get]), (by first | rfl | (simp only [List.length_map]; rfl) | simp [PX.get]), (by first | rfl | (simp only [List.length_map]; rfl) | simp [PX.get]), (by first | rfl | (simp only [List.length_map]; rfl) | simp [PX.get]), (by first | rfl | (simp only [List.length_map]; rfl) | simp [PX.get]), (by first | rfl | (simp only [List.length_map]; rfl) | simp [PX.get]), (by first | rfl | (simp only [List.length_map]; rfl) | simp [PX.get]), (by first | rfl | (simp only [List.length_map]; rfl) | simp [PX.get]), (by first | rfl | (simp only [List.length_map]; rfl) | simp [PX.get]), trivial⟩ ⟨(by first | rfl | (simp only [List.length_map]; rfl) | simp [PX.get]), (by first | rfl | (simp only [List.length_map]; rfl) | simp [PX.get]), (by first | rfl | (simp only [List.length_map]; rfl) | simp [PX.get]), trivial⟩)⟩
    | true =>
     rw [hwf, if_pos rfl] at hO
     conv=>whnf
     refine chk_i (by simp; omega) ?_
     conv=>whnf
     refine lampC_at x (a := a') (by omega) rfl ?_
     conv=>whnf
     refine ownK_whole rfl ?_
     conv=>whnf
     refine ownK_whole (by simp [Els.len]) ?_
     conv=>whnf
     refine chk_i (decide_eq_true (by
      show ((acc.map fun b => [D.bool b]).length + 1) * 1 ≤ 140737488355328
      rw [List.length_map]; omega)) ?_
     conv=>whnf
     refine arith_to (s - s0) rfl (wrap_i64 (by omega)) ?_
     conv=>whnf
     refine CallA_v (la110 x hR a' v (s - s0) k3 (by omega) (by omega)) rfl rfl ?_
     conv=>whnf
     refine arith_to (s + 1) rfl (wrap_i64 (by omega)) ?_
     conv=>whnf
     refine ⟨(s + 1, (nextF x a' v (s - s0), acc ++ [openB x a'])), by simp only; omega, ⟨by simp only; omega, by simp only; omega, nextF_bd hR _ _ _, by simp; omega, by simp only; rw [hm4]; exact hO⟩, ?_⟩
     refine (Wk.move 89 900001 rfl rfl).trans (Wk.sub ⟨rfl, rfl, rfl, rfl, rfl, rfl, rfl, rfl, rfl, rfl, rfl, rfl, rfl, rfl, rfl, trivial⟩ ⟨rfl, ?_, rfl, ?_, rfl, ?_, trivial⟩)
     ·exact box_same rfl ⟨⟨rfl, rfl, rfl, rfl, ⟨rfl, rfl⟩, ⟨rfl, rfl⟩, trivial⟩, trivial⟩
     ·show some (Obj.box (Cells.vv [V.d (i64 st), V.sl 60 1 0 (sp.length + 1), V.sl 900001 1 0 ((acc.map fun b => [D.bool b]).length + 1)])) = some (Obj.box (Cells.vv [V.d (i64 st), V.sl 60 1 0 (sp.length + 1), V.sl 900001 1 0 (acc ++ [openB x a']).length]))
      rw [List.length_map, List.length_append]; rfl
     ·show some (Obj.arr 1 (Els.dd ((acc.map fun b => [D.bool b]) ++ [[D.bool (openB x a')]]))) = some (Obj.arr 1 (Els.dd ((acc ++ [openB x a']).map fun b => [D.bool b])))
      rw [List.map_append]; rfl
   ·have h3 : ¬ s < endOf x rem := by simpa using h3
    have hse : s = endOf x rem := by omega
    rw [show (endOf x rem - s).toNat = 0 by omega, segF] at hO
    subst hO
    conv=>whnf
    rw [show decide ((n : Int) = ((List.map (fun n => [i64 n]) w).length : Int)) = false from by simp; omega]
    conv=>whnf
    rw [show decide ((n : Int) < ((List.map (fun n => [i64 n]) w).length : Int)) = true from by simp; omega]
    conv=>whnf
    refine arith_to (((n + 1 : Nat) : Int)) (by (try dsimp only); omega) (wrap_i64 (by (try dsimp only); omega)) ?_
    conv=>whnf
    refine CallA_frz2 1 [60, 900001] (args' := .d (shownD (⟨st, sp ++ [v]⟩, acc)) :: .d (i64 a') :: .d (i64 (endOf x rem)) :: .d (i64 ((n + 1 : Nat) : Int)) :: runC x w f caps) ?_ rfl ?_
    ·show mkAgg [.d (i64 st), repl _ (.sl 60 1 0 (sp.length + 1)), repl _ (.sl 900001 1 0 acc.length)] :: _ = _
     rw [repl_sl (d := intsD (sp ++ [v])) (viewV_sl rfl (by simp)), repl_sl (d := boolsD acc) (viewV_sl rfl (by simp))]
     rfl
    obtain ⟨hle, ihr⟩ := ih e r hrem
    have hdr : w.drop (n + 1) = r := by
     rw [← List.drop_drop, hdrop, hrem]; rfl
    subst hrem
    refine CallA_y (ihr (n + 1) st (sp ++ [v]) acc e a' hdr (by omega) (by simp; omega) (by rw [k4, hse]; rfl) ⟨by have := hww e (List.mem_of_getElem? hwe); omega, hle⟩ k3 Y g0 _ Q hit) [1000000, 1000001] rfl ⟨_, _, rfl, rfl, _, _, rfl, box_same rfl ⟨⟨rfl, rfl, rfl, rfl, ⟨rfl, rfl⟩, ⟨rfl, rfl⟩, trivial⟩, trivial⟩, rfl⟩ rfl rfl ?_
    rintro v1 h1' g1 ⟨rfl, hpost⟩
    rcases hpost with ⟨rfl, hi⟩ | ⟨rfl, hq⟩
    ·refine ⟨rfl, ?_⟩
     conv=>whnf
     refine arith_in (wrap_i64 (by (try dsimp only); omega)) ?_
     conv=>whnf
     exact ⟨(v + 1, g1), by simp only; omega, ⟨by simp only; omega, by simp only; omega, by simp only; rw [hm2]; exact hi⟩, Wk.sub ⟨rfl, rfl, rfl, rfl, rfl, rfl, rfl, rfl, rfl, rfl, rfl, rfl, trivial⟩ ⟨rfl, box_same rfl ⟨⟨rfl, rfl, rfl, rfl, ⟨rfl, rfl⟩, ⟨rfl, rfl⟩, trivial⟩, trivial⟩, rfl, trivial⟩⟩
    ·refine ⟨rfl, ?_⟩
     conv=>whnf
     exact RetA_hand [] [.d (.bool false)] (runH x w f caps) rfl ⟨rfl, box_same rfl ⟨⟨rfl, rfl, rfl, rfl, ⟨rfl, rfl⟩, ⟨rfl, rfl⟩, trivial⟩, trivial⟩, trivial⟩ rfl ⟨rfl, .inr ⟨rfl, hq⟩⟩
  ·have h2 : ¬ v ≤ x.speed.hi := by simpa using h2
   rw [show (x.speed.hi + 1 - v).toNat = 0 by omega] at hit
   conv=>whnf
   exact RetA_hand [] [.d (.bool true)] (runH x w f caps) rfl ⟨rfl, box_same rfl ⟨⟨rfl, rfl, rfl, rfl, ⟨rfl, rfl⟩, ⟨rfl, rfl⟩, trivial⟩, trivial⟩, trivial⟩ rfl ⟨rfl, .inl ⟨rfl, hit⟩⟩
 ·rw [show decide ((n : Int) < ((List.map (fun n => [i64 n]) w).length : Int)) = false from by simpa using h1]
  have hE : x.night = endOf x rem := by rw [hrem]; rfl
  conv=>whnf
  rw [hE]
  refine LoopA_p (T := tys) tysOk (by exact drawsB_spec mixed tysOk (by decide +kernel)) (α := Int × σ)
   (fun p => ⟨[(1, .d (i64 a)), (2, .d (i64 s0)), (3, .d (i64 n)), (4, .d (.ref [.ref (lampC x)])), (5, .d (.ref [intsD w])), (6, .d (.ref [.clo f caps])), (7, .ptr 1000000 0), (8, .ptr 1000001 0), (9, .ptr 9 0), (13, .d (.bool false)), (14, .d (i64 (endOf x rem))), (15, .d (i64 p.1))], runH x w f caps ++ [(9, .box (.dd [i64 st, intsD sp, boolsD lit]))], p.2⟩)
   (fun p => x.speed.lo ≤ p.1 ∧ p.1 ≤ x.speed.hi + 1 ∧ iterate Y ((((upto (x.speed.hi + 1 - p.1).toNat p.1).flatMap fun v => afterOf x wf rem sp v (segF x wf v s0 (endOf x rem - s0).toNat s0 a lit)).map fun p => shownV (⟨st, p.1⟩, p.2)) ++ rest) p.2 Q) (fun p => (x.speed.hi + 1 - p.1).toNat) (x.speed.lo, g0) ?wk ⟨Int.le_refl _, by simp only; omega, hit⟩ ?_
  case wk => exact (Wk.sub ⟨(by first | rfl | (simp only [List.length_map]; rfl) | simp [PX.get]), (by first | rfl | (simp only [List.length_map]; rfl) | simp [PX.get]), (by first | rfl | (simp only [List.length_map]; rfl) | simp [PX.get]), (by first | rfl | (simp only [List.length_map]; rfl) | simp [PX.get]), (by first | rfl | (simp only [List.length_map]; rfl) | simp [PX.get]), (by first | rfl | (simp only [List.length_map]; rfl) | simp [PX.get]), (by first | rfl | (simp only [List.length_map]; rfl) | simp [PX.get]), (by first | rfl | (simp only [List.length_map]; rfl) | simp [PX.get]), (by first | rfl | (simp only [List.length_map]; rfl) | simp [PX.get]), (by first | rfl | (simp only [List.length_map]; rfl) | simp [PX.get]), (by first | rfl | (simp only [List.length_map]; rfl) | simp [PX.get]), (by first | rfl | (simp only [List.length_map]; rfl) | simp [PX.get]), trivial⟩ ⟨(by first | rfl | (simp only [List.length_map]; rfl) | simp [PX.get]), (by first | rfl | (simp only [List.length_map]; rfl) | simp [PX.get]), (by first | rfl | (simp only [List.length_map]; rfl) | simp [PX.get]), trivial⟩)
  clear hit g0
  rintro ⟨v, g0⟩ ⟨hv1, hv2, hit⟩
  simp only at hv1 hv2 hit
  conv=>whnf
  refine brk_i (fun h2 => ?_) (fun h2 => ?_)
  ·have h2 : v ≤ x.speed.hi := by simpa using h2
   obtain ⟨m, hm⟩ : ∃ m, (x.speed.hi + 1 - v).toNat = m + 1 := ⟨(x.speed.hi - v).toNat, by omega⟩
   have hm2 : (x.speed.hi + 1 - (v + 1)).toNat = m := by omega
   rw [hm, upto, List.flatMap_cons, List.map_append, List.append_assoc] at hit
   conv=>whnf
   refine DrawCall_fn (la114 lit (by omega)) [] rfl rfl rfl ?_
   conv=>whnf
   refine CallA_fn (la115 sp (by omega)) [] rfl rfl rfl ?_
   conv=>whnf
   refine ownK_whole rfl ?_
   conv=>whnf
   refine ownK_whole (by simp [Els.len]) ?_
   conv=>whnf
   refine chk_i (decide_eq_true (by
    show ((sp.map fun n => [D.int .i64 n]).length + 1) * 8 ≤ 140737488355328
    rw [List.length_map]; omega)) ?_
   conv=>whnf
   generalize hO : segF x wf v s0 (endOf x rem - s0).toNat s0 a lit = O at hit
   refine LoopA_p (T := tys) tysOk (by exact drawsB_spec mixed tysOk (by decide +kernel)) (α := Int × (Int × List Bool))
    (fun p => ⟨[(1, .d (i64 a)), (2, .d (i64 s0)), (3, .d (i64 n)), (4, .d (.ref [.ref (lampC x)])), (5, .d (.ref [intsD w])), (6, .d (.ref [.clo f caps])), (7, .ptr 1000000 0), (8, .ptr 1000001 0), (9, .ptr 9 0), (13, .d (.bool false)), (14, .d (i64 (endOf x rem))), (15, .d (i64 v)), (16, .ptr 16 0), (17, .d (i64 p.2.1)), (18, .d (i64 p.1))], runH x w f caps ++ [(9, .box (.dd [i64 st, intsD sp, boolsD lit])), (16, .box (.vv [.d (i64 st), .sl 60 1 0 (sp.length + 1), .sl 900001 1 0 p.2.2.length])), (60, .arr 1 (.dd (sp ++ [v] |>.map fun n => [i64 n]))), (900001, .arr 1 (.dd (p.2.2.map fun b => [.bool b])))], g0⟩)
    (fun p => s0 ≤ p.1 ∧ p.1 ≤ endOf x rem ∧ (0 ≤ p.2.1 ∧ p.2.1 < x.drum) ∧ (p.2.2.length : Int) = p.1 ∧ segF x wf v s0 (endOf x rem - p.1).toNat p.1 p.2.1 p.2.2 = O) (fun p => (endOf x rem - p.1).toNat) (s0, (a, lit)) ?wk2 ⟨Int.le_refl _, by simp only; omega, ha, hlit, hO⟩ ?_
   case wk2 =>
    refine (Wk.move 103328 900001 rfl rfl).trans (Wk.sub ⟨rfl, rfl, rfl, rfl, rfl, rfl, rfl, rfl, rfl, rfl, rfl, rfl, rfl, rfl, rfl, trivial⟩ ⟨rfl, ?_, rfl, ?_, ?_, ?_, trivial⟩)
    ·exact box_same rfl ⟨⟨rfl, rfl, rfl, rfl, ⟨rfl, rfl⟩, ⟨rfl, rfl⟩, trivial⟩, trivial⟩
    ·show some (Obj.box (Cells.vv [V.d (i64 st), V.sl 60 1 0 ((sp.map fun n => [D.int .i64 n]).length + 1), V.sl 900001 1 0 lit.length])) = some (Obj.box (Cells.vv [V.d (i64 st), V.sl 60 1 0 (sp.length + 1), V.sl 900001 1 0 lit.length]))
     rw [List.length_map]
    ·show some (Obj.arr 1 (Els.dd ((sp.map fun n => [D.int .i64 n]) ++ [[i64 v]]))) = some (Obj.arr 1 (Els.dd ((sp ++ [v]).map fun n => [i64 n])))
     rw [List.map_append]; rfl
    ·rfl
   clear hO
   rintro ⟨s, a', acc⟩ ⟨k1, k2, k3, k4, hO⟩
   simp only at k1 k2 k3 k4 hO
   conv=>whnf
   refine brk_i (fun h3 => ?_) (fun h3 => ?_)
   ·have h3 : s < endOf x rem := by simpa using h3
    obtain ⟨m2, hm3⟩ : ∃ m2, (endOf x rem - s).toNat = m2 + 1 := ⟨(endOf x rem - s - 1).toNat, by omega⟩
    have hm4 : (endOf x rem - (s + 1)).toNat = m2 := by omega
    rw [hm3, segF] at hO
    conv=>whnf
    refine chk_i (by simp; omega) ?_
    conv=>whnf
    refine lampC_at x (a := a') (by omega) rfl ?_
    conv=>whnf
    refine DrawCall_v (hwant s (openB x a') ⟨by omega, by omega⟩) rfl rfl ?_
    conv=>whnf
    cases hwf : wf s (openB x a') with
    | false =>
     rw [hwf, if_neg (by simp)] at hO
     subst hO
     conv=>whnf
     refine arith_in (wrap_i64 (by (try dsimp only); omega)) ?_
     conv=>whnf
     exact ⟨(v + 1, g0), by simp only; omega, ⟨by simp only; omega, by simp only; omega, by simp only; rw [hm2]; exact hit⟩, (Wk.sub ⟨(by first | rfl | (simp only [List.length_map]; rfl) | simp [PX.get]), (by first | rfl | (simp only [List.length_map]; rfl) | simp [PX.get]), (by first | rfl | (simp only [List.length_map]; rfl) | simp [PX.get]), (by first | rfl | (simp only [List.length_map]; rfl) | simp [PX.get]), (by first | rfl | (simp only [List.length_map]; rfl) | simp [PX.get]), (by first | rfl | (simp only [List.length_map]; rfl) | simp [PX.get]), (by first | rfl | (simp only [List.length_map]; rfl) | simp [PX.get]), (by first | rfl | (simp only [List.length_map]; rfl) | simp [PX.get]), (by first | rfl | (simp only [List.length_map]; rfl) | simp [PX.get]), (by first | rfl | (simp only [List.length_map]; rfl) | simp [PX.get]), (by first | rfl | (simp only [List.length_map]; rfl) | simp [PX.get]), (by first | rfl | (simp only [List.length_map]; rfl) | simp [PX.get]), trivial⟩ ⟨(by first | rfl | (simp only [List.length_map]; rfl) | simp [PX.get]), (by first | rfl | (simp only [List.length_map]; rfl) | simp [PX.get]), (by first | rfl | (simp only [List.length_map]; rfl) | simp [PX.get]), trivial⟩)⟩
    | true =>
     rw [hwf, if_pos rfl] at hO
     conv=>whnf
     refine chk_i (by simp; omega) ?_
     conv=>whnf
     refine lampC_at x (a := a') (by omega) rfl ?_
     conv=>whnf
     refine ownK_whole rfl ?_
     conv=>whnf
     refine ownK_whole (by simp [Els.len]) ?_
     conv=>whnf
     refine chk_i (decide_eq_true (by
      show ((acc.map fun b => [D.bool b]).length + 1) * 1 ≤ 140737488355328
      rw [List.length_map]; omega)) ?_
     conv=>whnf
     refine arith_to (s - s0) rfl (wrap_i64 (by omega)) ?_
     conv=>whnf
     refine CallA_v (la110 x hR a' v (s - s0) k3 (by omega) (by omega)) rfl rfl ?_
     conv=>whnf
     refine arith_to (s + 1) rfl (wrap_i64 (by omega)) ?_
     conv=>whnf
     refine ⟨(s + 1, (nextF x a' v (s - s0), acc ++ [openB x a'])), by simp only; omega, ⟨by simp only; omega, by simp only; omega, nextF_bd hR _ _ _, by simp; omega, by simp only; rw [hm4]; exact hO⟩, ?_⟩
     refine (Wk.move 89 900001 rfl rfl).trans (Wk.sub ⟨rfl, rfl, rfl, rfl, rfl, rfl, rfl, rfl, rfl, rfl, rfl, rfl, rfl, rfl, rfl, trivial⟩ ⟨rfl, ?_, rfl, ?_, rfl, ?_, trivial⟩)
     ·exact box_same rfl ⟨⟨rfl, rfl, rfl, rfl, ⟨rfl, rfl⟩, ⟨rfl, rfl⟩, trivial⟩, trivial⟩
     ·show some (Obj.box (Cells.vv [V.d (i64 st), V.sl 60 1 0 (sp.length + 1), V.sl 900001 1 0 ((acc.map fun b => [D.bool b]).length + 1)])) = some (Obj.box (Cells.vv [V.d (i64 st), V.sl 60 1 0 (sp.length + 1), V.sl 900001 1 0 (acc ++ [openB x a']).length]))
      rw [List.length_map, List.length_append]; rfl
     ·show some (Obj.arr 1 (Els.dd ((acc.map fun b => [D.bool b]) ++ [[D.bool (openB x a')]]))) = some (Obj.arr 1 (Els.dd ((acc ++ [openB x a']).map fun b => [D.bool b])))
      rw [List.map_append]; rfl
   ·have h3 : ¬ s < endOf x rem := by simpa using h3
    have hse : s = endOf x rem := by omega
    rw [show (endOf x rem - s).toNat = 0 by omega, segF] at hO
    subst hO
    conv=>whnf
    rw [show decide ((n : Int) = ((List.map (fun n => [i64 n]) w).length : Int)) = true from by simp; omega]
    subst hrem
    conv=>whnf
    refine YldA_frz 1 [60, 900001] (ds := [shownD (⟨st, sp ++ [v]⟩, acc)]) ?_ rfl ?_
    ·exact viewL_cons (viewV_agg (viewL_cons rfl (viewL_cons (viewV_sl rfl (by simp)) (viewL_cons (viewV_sl rfl (by simp)) rfl)))) rfl
    refine YldA_v (ds := [shownD (⟨st, sp ++ [v]⟩, acc)]) hit rfl rfl (fun g1 hi => ?_) (fun g1 hq => ?_)
    ·conv=>whnf
     rw [show decide ((n : Int) < ((List.map (fun n => [i64 n]) w).length : Int)) = false from by simp; omega]
     conv=>whnf
     refine arith_in (wrap_i64 (by (try dsimp only); omega)) ?_
     conv=>whnf
     exact ⟨(v + 1, g1), by simp only; omega, ⟨by simp only; omega, by simp only; omega, by simp only; rw [hm2]; exact hi⟩, Wk.sub ⟨rfl, rfl, rfl, rfl, rfl, rfl, rfl, rfl, rfl, rfl, rfl, rfl, trivial⟩ ⟨rfl, box_same rfl ⟨⟨rfl, rfl, rfl, rfl, ⟨rfl, rfl⟩, ⟨rfl, rfl⟩, trivial⟩, trivial⟩, rfl, trivial⟩⟩
    ·conv=>whnf
     exact RetA_hand [] [.d (.bool false)] (runH x w f caps) rfl ⟨rfl, box_same rfl ⟨⟨rfl, rfl, rfl, rfl, ⟨rfl, rfl⟩, ⟨rfl, rfl⟩, trivial⟩, trivial⟩, trivial⟩ rfl ⟨rfl, .inr ⟨rfl, hq⟩⟩
  ·have h2 : ¬ v ≤ x.speed.hi := by simpa using h2
   rw [show (x.speed.hi + 1 - v).toNat = 0 by omega] at hit
   conv=>whnf
   exact RetA_hand [] [.d (.bool true)] (runH x w f caps) rfl ⟨rfl, box_same rfl ⟨⟨rfl, rfl, rfl, rfl, ⟨rfl, rfl⟩, ⟨rfl, rfl⟩, trivial⟩, trivial⟩, trivial⟩ rfl ⟨rfl, .inl ⟨rfl, hit⟩⟩
end Go.PX
namespace Go.PX
open Go.Proofs
def upW (x : LLamp) : List Int → Prop
 | [] => True
 | e :: r => e ≤ endOf x r ∧ upW x r
theorem windF_up {x : LLamp} : ∀ {l : List Int} {last i : Int}, (windF x.night last l i).2 = 0 → upW x l ∧ ∀ e r, l = e :: r → last < e
 | [], _, _, _ => ⟨trivial, fun e r h => by cases h⟩
 | s :: r, last, i, h => by
  rw [windF] at h
  split at h
  case isFalse => cases h
  rename_i h1
  rw [inB_iff] at h1
  split at h
  ·cases h
  rename_i h2
  obtain ⟨h3, h4⟩ := windF_up h
  refine ⟨⟨?_, h3⟩, fun e r' he => by cases he; omega⟩
  cases r with
  | nil => show s ≤ x.night; omega
  | cons e r' => have := h4 e r' rfl; show s ≤ e; omega
theorem grunAll {x : LLamp} (hR : LampR x) {w : List Int} (hw : w.length ≤ 2) (hww : ∀ s ∈ w, 1 ≤ s ∧ s ≤ x.night - 1) {f : FuncId} {caps : List D} {wf : Int → Bool → Bool} (hwant : WantL x f caps wf) : ∀ rem, upW x rem → GRun x w f caps wf rem
 | [], _ => grun hR hw hww hwant [] (fun e r h => by cases h)
 | e :: r, hu => grun hR hw hww hwant (e :: r) fun e' r' h => by
  cases h
  exact ⟨hu.1, grunAll hR hw hww hwant r hu.2⟩
theorem la81 (x : LLamp) (w : List Int) (f : FuncId) (caps : List D) : FnV Tryz.prog 51 [.ref (lampC x), intsD w, .clo f caps] (.clo 93 [.ref [.ref (lampC x)], .ref [intsD w], .ref [.clo f caps]]) := by
 refine fnV_of mixed tysOk Tryz.func51 rfl (ft := ft51) 3 (by decide +kernel) (by rfl) fun {σ} Y st => ?_
 conv=>whnf
 exact RetA_view 1 rfl ⟨⟨rfl, rfl⟩, rfl⟩
theorem yields112 {x : LLamp} (hR : LampR x) {w : List Int} (hw : w.length ≤ 2) (hww : ∀ s ∈ w, 1 ≤ s ∧ s ≤ x.night - 1) (hup : upW x w) {f : FuncId} {caps : List D} {wf : Int → Bool → Bool} (hwant : WantL x f caps wf) :
  Yields Tryz.prog 93 [.ref [.ref (lampC x)], .ref [intsD w], .ref [.clo f caps]] ((truL x w wf).map shownV) := by
 intro γ Y g0 Q hit
 have hd := hR.drum
 have hst := hR.start
 have hni := hR.night
 refine fnC_of mixed tysOk Tryz.func93 rfl (ft := ft93) (args := [.yld, .d (.ref [.ref (lampC x)]), .d (.ref [intsD w]), .d (.ref [.clo f caps])]) (show fnB ft93 Tryz.f93 4 = true from by decide +kernel) ?_
 conv=>whnf
 refine LoopA_p (T := tys) tysOk (by exact drawsB_spec mixed tysOk (by decide +kernel)) (α := Int × γ)
  (fun p => ⟨[(1, .d (.ref [.ref (lampC x)])), (2, .d (.ref [intsD w])), (3, .d (.ref [.clo f caps])), (4, .ptr 4 0), (5, .ptr 5 0), (6, .d (i64 p.1))], [(4, .box (.vv [.yld])), (5, .box (.vv [.clo 94 [.d (.ref [.ref (lampC x)]), .d (.ref [intsD w]), .d (.ref [.clo f caps]), .ptr 4 0, .ptr 5 0]]))], p.2⟩)
  (fun p => x.start.lo ≤ p.1 ∧ p.1 ≤ x.start.hi + 1 ∧ iterate Y (((upto (x.start.hi + 1 - p.1).toNat p.1).flatMap fun st => (runsL x wf w 0 st [] []).map fun q => ((⟨st, q.1⟩, q.2) : LTruth × List Bool)).map shownV) p.2 Q) (fun p => (x.start.hi + 1 - p.1).toNat) (x.start.lo, g0) ?wk ⟨Int.le_refl _, by simp only; omega, hit⟩ ?_
 case wk => exact (Wk.sub ⟨(by first | rfl | (simp only [List.length_map]; rfl) | simp [PX.get]), (by first | rfl | (simp only [List.length_map]; rfl) | simp [PX.get]), (by first | rfl | (simp only [List.length_map]; rfl) | simp [PX.get]), (by first | rfl | (simp only [List.length_map]; rfl) | simp [PX.get]), (by first | rfl | (simp only [List.length_map]; rfl) | simp [PX.get]), (by first | rfl | (simp only [List.length_map]; rfl) | simp [PX.get]), trivial⟩ ⟨(by first | rfl | (simp only [List.length_map]; rfl) | simp [PX.get]), (by first | rfl | (simp only [List.length_map]; rfl) | simp [PX.get]), trivial⟩)
 clear hit g0
 rintro ⟨st, g0⟩ ⟨h1, h2, hit⟩
 simp only at h1 h2 hit
 conv=>whnf
 refine brk_i (fun h3 => ?_) (fun h3 => ?_)
 ·have h3 : st ≤ x.start.hi := by simpa using h3
  obtain ⟨m, hm⟩ : ∃ m, (x.start.hi + 1 - st).toNat = m + 1 := ⟨(x.start.hi - st).toNat, by omega⟩
  have hm2 : (x.start.hi + 1 - (st + 1)).toNat = m := by omega
  rw [hm, upto, List.flatMap_cons, List.map_append, List.map_map] at hit
  conv=>whnf
  refine CallA_rep (args' := .d (.agg [i64 st, .vs [], .vs []]) :: .d (i64 st) :: .d (i64 0) :: .d (i64 0) :: [.d (.ref [.ref (lampC x)]), .d (.ref [intsD w]), .d (.ref [.clo f caps]), .ptr 4 0, .ptr 5 0]) (fun yv L F w l h => by
   obtain ⟨y, l', rfl, p1, p2⟩ := h
   exact ⟨y, l', rfl, RepD.relax _ _ p1, p2⟩) ?_
  refine CallA_y (grunAll hR hw hww hwant w hup 0 st [] [] 0 st rfl (Nat.zero_le _) rfl rfl ⟨Int.le_refl _, ?_⟩ ⟨by omega, by omega⟩ Y g0 _ Q hit) [4, 5] rfl ⟨_, _, rfl, rfl, _, _, rfl, box_same rfl ⟨⟨rfl, rfl, rfl, rfl, ⟨rfl, rfl⟩, ⟨rfl, rfl⟩, trivial⟩, trivial⟩, rfl⟩ rfl rfl ?_
  ·cases w with
   | nil => show 0 ≤ x.night; omega
   | cons e r => have := hww e (by simp); show 0 ≤ e; omega
  rintro v1 h1' g1 ⟨rfl, hpost⟩
  rcases hpost with ⟨rfl, hi⟩ | ⟨rfl, hq⟩
  ·refine ⟨rfl, ?_⟩
   conv=>whnf
   refine arith_in (wrap_i64 (by (try dsimp only); omega)) ?_
   conv=>whnf
   exact ⟨(st + 1, g1), by simp only; omega, ⟨by simp only; omega, by simp only; omega, by simp only; rw [hm2]; exact hi⟩, Wk.sub ⟨rfl, rfl, rfl, rfl, rfl, rfl, trivial⟩ ⟨rfl, box_same rfl ⟨⟨rfl, rfl, rfl, rfl, ⟨rfl, rfl⟩, ⟨rfl, rfl⟩, trivial⟩, trivial⟩, trivial⟩⟩
  ·refine ⟨rfl, ?_⟩
   conv=>whnf
   exact RetA_view 0 rfl ⟨rfl, hq⟩
 ·have h3 : ¬ st ≤ x.start.hi := by simpa using h3
  rw [show (x.start.hi + 1 - st).toNat = 0 by omega] at hit
  conv=>whnf
  exact RetA_view 0 rfl ⟨rfl, hit⟩
end Go.PX
namespace Go.PX
open Go.Proofs
def kvD (m : List (Int × Int)) : List (D × D) := m.map fun p => (i64 p.1, i64 p.2)
def lookM : List (Int × Int) → Int → Int
 | [], _ => 0
 | (a, b) :: r, k => if k = a then b else lookM r k
def updM : List (Int × Int) → Int → Int → List (Int × Int)
 | [], k, v => [(k, v)]
 | (a, b) :: r, k, v => if k = a then (k, v) :: r else (a, b) :: updM r k v
theorem findM_aux (k : Int) : ∀ (m : List (Int × Int)) (n : Nat), (∃ i v, findD (i64 k) (kvD m) n = some (some (n + i, i64 v)) ∧ lookM m k = v ∧ ∀ u, (kvD m).set i (i64 k, i64 u) = kvD (updM m k u)) ∨
  (findD (i64 k) (kvD m) n = some none ∧ lookM m k = 0 ∧ ∀ u, kvD m ++ [(i64 k, i64 u)] = kvD (updM m k u))
 | [], n => .inr ⟨rfl, rfl, fun u => rfl⟩
 | (a, b) :: r, n => by
  have hs : sameD (i64 k) (i64 a) = some (decide (k = a)) := by simp [sameD, i64]
  by_cases h : k = a
  ·left
   refine ⟨0, b, ?_, by simp [lookM, h], fun u => by simp [updM, kvD, h]⟩
   show (match sameD (i64 k) (i64 a) with
    | some true => some (some (n, i64 b))
    | some false => findD (i64 k) (kvD r) (n + 1)
    | none => none) = _
   rw [hs, decide_eq_true h]; rfl
  ·have hf : findD (i64 k) (kvD ((a, b) :: r)) n = findD (i64 k) (kvD r) (n + 1) := by
    show (match sameD (i64 k) (i64 a) with
     | some true => some (some (n, i64 b))
     | some false => findD (i64 k) (kvD r) (n + 1)
     | none => none) = _
    rw [hs, decide_eq_false h]
   rcases findM_aux k r (n + 1) with ⟨i, v, h1, h2, h3⟩ | ⟨h1, h2, h3⟩
   ·left
    refine ⟨i + 1, v, by rw [hf, h1, show n + 1 + i = n + (i + 1) by omega], by simp [lookM, h, h2], fun u => ?_⟩
    simp only [updM, if_neg h]
    show ((i64 a, i64 b) :: kvD r).set (i + 1) _ = (i64 a, i64 b) :: kvD (updM r k u)
    rw [List.set_cons_succ, h3]
   ·right
    refine ⟨by rw [hf, h1], by simp [lookM, h, h2], fun u => ?_⟩
    simp only [updM, if_neg h]
    show (i64 a, i64 b) :: (kvD r ++ _) = (i64 a, i64 b) :: kvD (updM r k u)
    rw [h3]
theorem findM (m : List (Int × Int)) (k : Int) : (∃ i v, findD (i64 k) (kvD m) 0 = some (some (i, i64 v)) ∧ lookM m k = v ∧ ∀ u, (kvD m).set i (i64 k, i64 u) = kvD (updM m k u)) ∨
  (findD (i64 k) (kvD m) 0 = some none ∧ lookM m k = 0 ∧ ∀ u, kvD m ++ [(i64 k, i64 u)] = kvD (updM m k u)) := by
 rcases findM_aux k m 0 with ⟨i, v, h⟩ | h
 ·exact .inl ⟨i, v, by simpa using h⟩
 ·exact .inr h
def wantBit (b : Bool) : Int := if b then 2 else 1
def wantStep (m : List (Int × Int)) (s : LSight) : List (Int × Int) := updM m s.second (bitsI .or .i64 (lookM m s.second) (wantBit s.lit))
def wantM (l : List LSight) : List (Int × Int) := l.foldl wantStep []
def wantF (m : List (Int × Int)) (s : Int) (b : Bool) : Bool := decide (bitsI .and .i64 (lookM m s) (if b then 1 else 2) = 0)
theorem la111 (m : List (Int × Int)) (s : Int) (b : Bool) : FnV Tryz.prog 107 [i64 s, .bool b, .ref [.mv (kvD m)]] (.bool (wantF m s b)) := by
 refine fnV_of mixed tysOk Tryz.func107 rfl (ft := ft107) 3 (by decide +kernel) (by rfl) fun {σ} Y st => ?_
 conv=>whnf
 cases b with
 | true =>
  conv=>whnf
  rcases findM m s with ⟨i, v, h1, h2, _⟩ | ⟨h1, h2, _⟩
  ·refine ⟨_, h1, ?_⟩
   conv=>whnf
   unfold wantF
   rw [h2]
   exact RetA_view 0 rfl ⟨⟨rfl, rfl⟩, rfl⟩
  ·refine ⟨_, h1, ?_⟩
   conv=>whnf
   unfold wantF
   rw [h2]
   exact RetA_view 0 rfl ⟨⟨rfl, rfl⟩, rfl⟩
 | false =>
  conv=>whnf
  rcases findM m s with ⟨i, v, h1, h2, _⟩ | ⟨h1, h2, _⟩
  ·refine ⟨_, h1, ?_⟩
   conv=>whnf
   unfold wantF
   rw [h2]
   exact RetA_view 0 rfl ⟨⟨rfl, rfl⟩, rfl⟩
  ·refine ⟨_, h1, ?_⟩
   conv=>whnf
   unfold wantF
   rw [h2]
   exact RetA_view 0 rfl ⟨⟨rfl, rfl⟩, rfl⟩
noncomputable def agreeD (c : LCase) : D := .clo 93 [.ref [.ref (lampC c.lamp)], .ref [intsD c.windings], .ref [.clo 107 [.ref [.mv (kvD (wantM c.sights))]]]]
def agL (c : LCase) : List (LTruth × List Bool) := truL c.lamp c.windings (wantF (wantM c.sights))
theorem wants_agree (c : LCase) : WantL c.lamp 107 [.ref [.mv (kvD (wantM c.sights))]] (wantF (wantM c.sights)) := fun s b _ => la111 _ s b
theorem la76 (c : LCase) (hR : CaseL c) : FnV Tryz.prog 68 [c.d] (agreeD c) := by
 refine fnV_of mixed tysOk Tryz.func68 rfl (ft := ft68) 1 (by decide +kernel) (by rfl) fun {σ} Y st => ?_
 conv=>whnf
 have hs8 := hR.sights
 refine LoopA_i (T := tys) tysOk (by exact drawsB_spec mixed tysOk (by decide +kernel)) c.sights (fun i (m : List (Int × Int)) => ⟨[(1, .ptr 1 0), (3, .ptr 3 0), (8, .d (sightsD c.sights)), (9, .d (i64 c.sights.length)), (10, .d (i64 i))], [(1, .box (.dd c.cells)), (6, .map (kvD m)), (3, .box (.vv [.mp 6]))], st⟩)
  (fun i r m => wantM c.sights = r.foldl wantStep m) [] (Wk.sub ⟨(by first | rfl | (simp only [List.length_map]; rfl) | simp [PX.get]), (by first | rfl | (simp only [List.length_map]; rfl) | simp [PX.get]), (by first | rfl | (simp only [List.length_map]; rfl) | simp [PX.get]), (by first | rfl | (simp only [List.length_map]; rfl) | simp [PX.get]), (by first | rfl | (simp only [List.length_map]; rfl) | simp [PX.get]), trivial⟩ ⟨(by first | rfl | (simp only [List.length_map]; rfl) | simp [PX.get]), (by first | rfl | (simp only [List.length_map]; rfl) | simp [PX.get]), (by first | rfl | (simp only [List.length_map]; rfl) | simp [PX.get]), trivial⟩) rfl ?_ ?_
 ·intro i s r m hx hi hr he
  rw [List.foldl_cons] at he
  conv=>whnf
  refine brk_i (fun _ => ?_) (fun h => absurd hi (by simpa using h))
  conv=>whnf
  refine elemK_nat hx ?_
  conv=>whnf
  cases hl : s.lit with
  | true =>
   conv=>whnf
   rcases findM m s.second with ⟨i2, v, h1, h2, h3⟩ | ⟨h1, h2, h3⟩
   ·refine ⟨_, h1, ?_⟩
    conv=>whnf
    refine ⟨_, h1, ?_⟩
    conv=>whnf
    refine arith_in (wrap_i64 (by (try dsimp only); omega)) ?_
    conv=>whnf
    refine ⟨wantStep m s, he, Wk.sub ⟨rfl, rfl, rfl, rfl, rfl, trivial⟩ ⟨rfl, ?_, rfl, trivial⟩⟩
    show some (Obj.map ((kvD m).set i2 (i64 s.second, i64 (bitsI .or .i64 v 2)))) = some (Obj.map (kvD (wantStep m s)))
    rw [h3, wantStep, h2, hl]; rfl
   ·refine ⟨_, h1, ?_⟩
    conv=>whnf
    refine ⟨_, h1, ?_⟩
    conv=>whnf
    refine arith_in (wrap_i64 (by (try dsimp only); omega)) ?_
    conv=>whnf
    refine ⟨wantStep m s, he, Wk.sub ⟨rfl, rfl, rfl, rfl, rfl, trivial⟩ ⟨rfl, ?_, rfl, trivial⟩⟩
    show some (Obj.map (kvD m ++ [(i64 s.second, i64 (bitsI .or .i64 0 2))])) = some (Obj.map (kvD (wantStep m s)))
    rw [h3, wantStep, h2, hl]; rfl
  | false =>
   conv=>whnf
   rcases findM m s.second with ⟨i2, v, h1, h2, h3⟩ | ⟨h1, h2, h3⟩
   ·refine ⟨_, h1, ?_⟩
    conv=>whnf
    refine ⟨_, h1, ?_⟩
    conv=>whnf
    refine arith_in (wrap_i64 (by (try dsimp only); omega)) ?_
    conv=>whnf
    refine ⟨wantStep m s, he, Wk.sub ⟨rfl, rfl, rfl, rfl, rfl, trivial⟩ ⟨rfl, ?_, rfl, trivial⟩⟩
    show some (Obj.map ((kvD m).set i2 (i64 s.second, i64 (bitsI .or .i64 v 1)))) = some (Obj.map (kvD (wantStep m s)))
    rw [h3, wantStep, h2, hl]; rfl
   ·refine ⟨_, h1, ?_⟩
    conv=>whnf
    refine ⟨_, h1, ?_⟩
    conv=>whnf
    refine arith_in (wrap_i64 (by (try dsimp only); omega)) ?_
    conv=>whnf
    refine ⟨wantStep m s, he, Wk.sub ⟨rfl, rfl, rfl, rfl, rfl, trivial⟩ ⟨rfl, ?_, rfl, trivial⟩⟩
    show some (Obj.map (kvD m ++ [(i64 s.second, i64 (bitsI .or .i64 0 1))])) = some (Obj.map (kvD (wantStep m s)))
    rw [h3, wantStep, h2, hl]; rfl
 ·intro m he
  conv=>whnf
  refine brk_i (fun h => absurd h (by simp)) (fun _ => ?_)
  conv=>whnf
  refine DrawCall_v (la80 c.lamp hR.lamp) rfl rfl ?_
  conv=>whnf
  refine DrawCall_fz (la81 c.lamp c.windings 107 [.ref [.mv (kvD m)]]) 3 ?_ rfl ?_
  ·rfl
  conv=>whnf
  refine RetA_view 0 rfl ⟨⟨?_, rfl⟩, rfl⟩
  rw [agreeD, he]
  rfl
end Go.PX
namespace Go.PX
open Go.Proofs
def speedsL (s : Span) : Nat → List (List Int)
 | 0 => [[]]
 | k + 1 => (spanL s).flatMap fun v => (speedsL s k).map (v :: ·)
def allT (x : LLamp) (w : List Int) : List LTruth := (spanL x.start).flatMap fun st => (speedsL x.speed (w.length + 1)).map fun l => ⟨st, l⟩
def okW (wf : Int → Bool → Bool) : Int → List Bool → Bool
 | _, [] => true
 | s, b :: r => wf s b && okW wf (s + 1) r
theorem okW_app {wf : Int → Bool → Bool} : ∀ {a b : List Bool} {s : Int}, okW wf s (a ++ b) = (okW wf s a && okW wf (s + a.length) b)
 | [], b, s => by simp [okW]
 | x :: a, b, s => by
  rw [List.cons_append, okW, okW, okW_app, Bool.and_assoc, List.length_cons, show s + 1 + (a.length : Int) = s + ((a.length + 1 : Nat) : Int) by omega]
def segC (x : LLamp) (v s0 : Int) : Nat → Int → Int → List Bool × Int
 | 0, _, a => ([], a)
 | k + 1, s, a => let p := segC x v s0 k (s + 1) (nextF x a v (s - s0)); (openB x a :: p.1, p.2)
theorem segC_len {x : LLamp} {v s0 : Int} : ∀ {k : Nat} {s a : Int}, (segC x v s0 k s a).1.length = k
 | 0, _, _ => rfl
 | k + 1, s, a => by simp [segC, segC_len]
theorem segF_eq {x : LLamp} {wf : Int → Bool → Bool} {v s0 : Int} : ∀ {k : Nat} {s a : Int} {acc : List Bool}, segF x wf v s0 k s a acc = if okW wf s (segC x v s0 k s a).1 then some (acc ++ (segC x v s0 k s a).1, (segC x v s0 k s a).2) else none
 | 0, s, a, acc => by simp [segF, segC, okW]
 | k + 1, s, a, acc => by
  have e1 : segC x v s0 (k + 1) s a = (openB x a :: (segC x v s0 k (s + 1) (nextF x a v (s - s0))).1, (segC x v s0 k (s + 1) (nextF x a v (s - s0))).2) := rfl
  have e2 : okW wf s (segC x v s0 (k + 1) s a).1 = (wf s (openB x a) && okW wf (s + 1) (segC x v s0 k (s + 1) (nextF x a v (s - s0))).1) := by rw [e1, okW]
  rw [segF]
  by_cases h : wf s (openB x a) = true
  ·rw [if_pos h, segF_eq]
   by_cases h2 : okW wf (s + 1) (segC x v s0 k (s + 1) (nextF x a v (s - s0))).1 = true
   ·rw [if_pos h2, if_pos (by rw [e2, h, h2]; rfl), e1]
    simp
   ·rw [if_neg h2, if_neg (by rw [e2, h]; simpa using h2)]
  ·rw [if_neg h, if_neg (by rw [e2]; simp [h])]
theorem courseF_seg {x : LLamp} {w sp : List Int} {n : Nat} {b : Int} : ∀ (j k : Nat) (s a : Int), (∀ e, w[n]? = some e → s + j ≤ e) → courseF x w sp (j + k) s a b n = (segC x (sp.getD n 0) b j s a).1 ++ courseF x w sp k (s + j) (segC x (sp.getD n 0) b j s a).2 b n
 | 0, k, s, a, _ => by simp [segC]
 | j + 1, k, s, a, h => by
  rw [show j + 1 + k = (j + k) + 1 by omega, courseF]
  have hne : ¬ w[n]? = some s := fun e => by have := h s e; omega
  rw [if_neg hne, courseF_seg j k (s + 1) _ (fun e he => by have := h e he; omega)]
  simp only [segC, List.cons_append]
  rw [show s + 1 + (j : Int) = s + ((j + 1 : Nat) : Int) by omega]
theorem courseF_wind {x : LLamp} {w sp : List Int} {n : Nat} {b : Int} {k : Nat} {s a : Int} (h : w[n]? = some s) (h2 : ¬ w[n + 1]? = some s) : courseF x w sp k s a b n = courseF x w sp k s a s (n + 1) := by
 cases k with
 | zero => rfl
 | succ k =>
  rw [courseF, courseF, if_pos h, if_neg h2, Int.sub_self]
theorem flatMap_congr' {α β : Type} {f g : α → List β} : ∀ {l : List α}, (∀ a ∈ l, f a = g a) → l.flatMap f = l.flatMap g
 | [], _ => rfl
 | a :: r, h => by rw [List.flatMap_cons, List.flatMap_cons, h a (by simp), flatMap_congr' fun b hb => h b (by simp [hb])]
theorem filter_flatMap' {α β : Type} {f : α → List β} {p : β → Bool} : ∀ {l : List α}, (l.flatMap f).filter p = l.flatMap fun a => (f a).filter p
 | [] => rfl
 | a :: r => by rw [List.flatMap_cons, List.flatMap_cons, List.filter_append, filter_flatMap']
theorem map_flatMap' {α β γ : Type} {f : α → List β} {g : β → γ} : ∀ {l : List α}, (l.flatMap f).map g = l.flatMap fun a => (f a).map g
 | [] => rfl
 | a :: r => by rw [List.flatMap_cons, List.flatMap_cons, List.map_append, map_flatMap']
def upF (x : LLamp) : Int → List Int → Prop
 | s, [] => s ≤ x.night
 | s, e :: r => s < e ∧ e ≤ x.night - 1 ∧ upF x e r
theorem runsL_all {x : LLamp} {w : List Int} {wf : Int → Bool → Bool} : ∀ (rem : List Int) (s0 a : Int) (sp : List Int) (lit : List Bool), w.drop sp.length = rem → sp.length ≤ w.length → 0 ≤ s0 → (upF x s0 rem) →
  runsL x wf rem s0 a sp lit = ((speedsL x.speed (rem.length + 1)).filter fun l => okW wf s0 (courseF x w (sp ++ l) (x.night - s0).toNat s0 a s0 sp.length)).map fun l => (sp ++ l, lit ++ courseF x w (sp ++ l) (x.night - s0).toNat s0 a s0 sp.length)
 | [], s0, a, sp, lit, hd, hl, h0, hu => by
  have hge : w.length ≤ sp.length := List.drop_eq_nil_iff.1 hd
  have hu : s0 ≤ x.night := hu
  rw [runsL, List.length_nil, speedsL, filter_flatMap', map_flatMap']
  refine flatMap_congr' fun v _ => ?_
  simp only [speedsL, List.map_cons, List.map_nil]
  have hsv : (sp ++ [v]).getD sp.length 0 = v := by simp [List.getD_eq_getElem?_getD]
  have hc := courseF_seg (x := x) (w := w) (sp := sp ++ [v]) (n := sp.length) (b := s0) (x.night - s0).toNat 0 s0 a (fun e he => by rw [List.getElem?_eq_none (by omega)] at he; cases he)
  rw [Nat.add_zero, courseF, List.append_nil, hsv] at hc
  rw [segF_eq, ← hc]
  cases hw : okW wf s0 (courseF x w (sp ++ [v]) (x.night - s0).toNat s0 a s0 sp.length) with
  | true => simp [hw]
  | false => simp [hw]
 | e :: r, s0, a, sp, lit, hd, hl, h0, hu => by
  obtain ⟨h1, h2, h3⟩ := hu
  have hlt : sp.length < w.length := by
   rcases Nat.lt_or_ge sp.length w.length with h | h
   ·exact h
   ·rw [List.drop_eq_nil_of_le h] at hd; cases hd
  have hwe : w[sp.length]? = some e := by rw [← List.head?_drop, hd]; rfl
  have hd2 : w.drop (sp.length + 1) = r := by rw [← List.drop_drop, hd]; rfl
  have hw2 : ¬ w[sp.length + 1]? = some e := by
   rw [← List.head?_drop, hd2]
   cases r with
   | nil => simp
   | cons e2 r2 => have := h3.1; simp; omega
  rw [runsL, List.length_cons, speedsL, filter_flatMap', map_flatMap']
  refine flatMap_congr' fun v _ => ?_
  have hlen : (sp ++ [v]).length = sp.length + 1 := by simp
  have hih : ∀ a' lit', runsL x wf r e a' (sp ++ [v]) lit' = _ := fun a' lit' => runsL_all r e a' (sp ++ [v]) lit' (by rw [hlen]; exact hd2) (by rw [hlen]; omega) (by omega) h3
  have hc : ∀ l, courseF x w (sp ++ v :: l) (x.night - s0).toNat s0 a s0 sp.length = (segC x v s0 (e - s0).toNat s0 a).1 ++ courseF x w (sp ++ [v] ++ l) (x.night - e).toNat e (segC x v s0 (e - s0).toNat s0 a).2 e (sp ++ [v]).length := by
   intro l
   have hsv : (sp ++ v :: l).getD sp.length 0 = v := by simp [List.getD_eq_getElem?_getD]
   have hc := courseF_seg (x := x) (w := w) (sp := sp ++ v :: l) (n := sp.length) (b := s0) (e - s0).toNat (x.night - e).toNat s0 a (fun e' he => by rw [hwe] at he; cases he; omega)
   rw [hsv, show (e - s0).toNat + (x.night - e).toNat = (x.night - s0).toNat by omega, show s0 + ((e - s0).toNat : Int) = e by omega, courseF_wind hwe hw2] at hc
   rw [hc, hlen, List.append_assoc]; rfl
  rw [segF_eq]
  have hpl : (s0 + ((segC x v s0 (e - s0).toNat s0 a).1.length : Int)) = e := by rw [segC_len]; omega
  generalize hS : segC x v s0 (e - s0).toNat s0 a = S at hc hpl ⊢
  rw [List.filter_map, List.map_map]
  cases hw : okW wf s0 S.1 with
  | true =>
   rw [if_pos rfl]
   show runsL x wf r e S.2 (sp ++ [v]) (lit ++ S.1) = _
   rw [hih]
   have hp : (fun l => okW wf e (courseF x w (sp ++ [v] ++ l) (x.night - e).toNat e S.2 e (sp ++ [v]).length)) = ((fun l => okW wf s0 (courseF x w (sp ++ l) (x.night - s0).toNat s0 a s0 sp.length)) ∘ fun x => v :: x) := by
    funext l
    simp only [Function.comp]
    rw [hc, okW_app, hw, Bool.true_and, hpl]
   rw [hp]
   refine List.map_congr_left fun l _ => ?_
   simp only [Function.comp]
   rw [hc]
   simp
  | false =>
   rw [if_neg (by simp)]
   have hp : ((fun l => okW wf s0 (courseF x w (sp ++ l) (x.night - s0).toNat s0 a s0 sp.length)) ∘ fun x => v :: x) = fun _ => false := by
    funext l
    simp only [Function.comp]
    rw [hc, okW_app, hw, Bool.false_and]
   rw [hp]
   simp
theorem windF_upF {x : LLamp} : ∀ {l : List Int} {last i : Int}, (windF x.night last l i).2 = 0 → last ≤ x.night → upF x last l
 | [], _, _, _, h0 => h0
 | s :: r, last, i, h, h0 => by
  rw [windF] at h
  split at h
  case isFalse => cases h
  rename_i h1
  rw [inB_iff] at h1
  split at h
  ·cases h
  rename_i h2
  exact ⟨by omega, by omega, windF_upF h (by omega)⟩
theorem truL_all {x : LLamp} {w : List Int} {wf : Int → Bool → Bool} (hu : upF x 0 w) : truL x w wf = ((allT x w).filter fun t => okW wf 0 (courseL x w t)).map fun t => (t, courseL x w t) := by
 unfold truL allT
 rw [filter_flatMap', map_flatMap']
 refine flatMap_congr' fun st _ => ?_
 rw [runsL_all w 0 st [] [] rfl (Nat.zero_le _) (Int.le_refl _) hu, List.filter_map, List.map_map, List.map_map]
 simp only [List.nil_append, Int.sub_zero]
 rfl
end Go.PX
namespace Go.PX
open Go.Proofs
theorem mem_upto : ∀ {k : Nat} {v u : Int}, u ∈ upto k v ↔ v ≤ u ∧ u < v + k
 | 0, v, u => by
  simp only [upto, List.not_mem_nil, false_iff]
  omega
 | k + 1, v, u => by
  rw [upto, List.mem_cons, mem_upto]
  omega
theorem mem_spanL {s : Span} {u : Int} : u ∈ spanL s ↔ s.lo ≤ u ∧ u ≤ s.hi := by
 unfold spanL
 rw [mem_upto]
 omega
theorem mem_speedsL {s : Span} : ∀ {k : Nat} {l : List Int}, l ∈ speedsL s k ↔ l.length = k ∧ ∀ v ∈ l, s.lo ≤ v ∧ v ≤ s.hi
 | 0, l => by
  rw [speedsL, List.mem_singleton, List.length_eq_zero_iff]
  constructor
  ·rintro rfl; exact ⟨rfl, by simp⟩
  ·exact fun h => h.1
 | k + 1, l => by
  rw [speedsL, List.mem_flatMap]
  constructor
  ·rintro ⟨v, hv, hl⟩
   obtain ⟨r, hr, rfl⟩ := List.mem_map.1 hl
   obtain ⟨h1, h2⟩ := mem_speedsL.1 hr
   refine ⟨by simp [h1], fun u hu => ?_⟩
   rcases List.mem_cons.1 hu with rfl | hu
   ·exact mem_spanL.1 hv
   ·exact h2 u hu
  ·rintro ⟨h1, h2⟩
   cases l with
   | nil => simp at h1
   | cons v r =>
    exact ⟨v, mem_spanL.2 (h2 v (by simp)), List.mem_map.2 ⟨r, mem_speedsL.2 ⟨by simpa using h1, fun u hu => h2 u (by simp [hu])⟩, rfl⟩⟩
theorem mem_allT {c : LCase} {t : LTruth} : t ∈ allT c.lamp c.windings ↔ TruthR c t := by
 unfold allT
 rw [List.mem_flatMap]
 constructor
 ·rintro ⟨st, h1, h2⟩
  obtain ⟨l, hl, rfl⟩ := List.mem_map.1 h2
  obtain ⟨h3, h4⟩ := mem_speedsL.1 hl
  exact ⟨mem_spanL.1 h1, h3, h4⟩
 ·intro h
  exact ⟨t.start, mem_spanL.2 h.start, List.mem_map.2 ⟨t.speeds, mem_speedsL.2 ⟨h.len, h.speed⟩, rfl⟩⟩
theorem CaseL.up {c : LCase} (h0 : (checkL c).2.2 = 0) : upF c.lamp 0 c.windings ∧ upW c.lamp c.windings := by
 have hn := (checkL_ok h0).lamp.night
 unfold checkL at h0
 split at h0
 case isFalse => rename_i h1; exact absurd h0 h1
 split at h0
 ·cases h0
 split at h0
 case isFalse => rename_i h3; exact absurd h0 h3
 rename_i h3
 exact ⟨windF_upF h3 (by omega), (windF_up h3).1⟩
theorem agL_ok {c : LCase} (h0 : (checkL c).2.2 = 0) {p : LTruth × List Bool} (hp : p ∈ agL c) : TruthR c p.1 ∧ p.2 = courseL c.lamp c.windings p.1 ∧ p.2.length = c.lamp.night.toNat := by
 unfold agL at hp
 rw [truL_all (CaseL.up h0).1] at hp
 obtain ⟨t, ht, rfl⟩ := List.mem_map.1 hp
 exact ⟨mem_allT.1 (List.mem_filter.1 ht).1, rfl, by simp only [courseL, courseF_len]⟩
theorem yields_agree {c : LCase} (h0 : (checkL c).2.2 = 0) : Yields Tryz.prog 93 [.ref [.ref (lampC c.lamp)], .ref [intsD c.windings], .ref [.clo 107 [.ref [.mv (kvD (wantM c.sights))]]]] ((agL c).map shownV) := by
 have hR := checkL_ok h0
 exact fun {γ} => yields112 hR.lamp hR.winds hR.wind (CaseL.up h0).2 (wants_agree c)
def atStep (s : Int) (k : Int) (p : LTruth × List Bool) : Int := bitsI .or .i64 k (if p.2.getD s.toNat false then 2 else 1)
def atK (l : List (LTruth × List Bool)) (s : Int) : Int := l.foldl (atStep s) 0
def atE (c : LCase) (s : Int) : Int := if (checkL c).2.2 = 0 then (if inB s 0 (c.lamp.night - 1) then (if atK (agL c) s = 0 then 9 else 0) else 7) else (checkL c).2.2
def atV (c : LCase) (s : Int) : Int := if atE c s = 0 then (if atK (agL c) s = 1 then 0 else if atK (agL c) s = 2 then 1 else 2) else 0
set_option maxHeartbeats 1000000 in
theorem la25 (c : LCase) (s : Int) : FnV Tryz.prog 26 [c.d, i64 s] (.tup [i64 (atV c s), i64 (atE c s)]) := by
 refine fnV_of mixed tysOk Tryz.func26 rfl (ft := ft26) 2 (by decide +kernel) (by rfl) fun {σ} Y st => ?_
 conv=>whnf
 refine CallA_v (la15 c) rfl rfl ?_
 conv=>whnf
 by_cases h0 : (checkL c).2.2 = 0
 case neg =>
  have he : atE c s = (checkL c).2.2 := by unfold atE; rw [if_neg h0]
  have hv : atV c s = 0 := by unfold atV; rw [he, if_neg h0]
  rw [he, hv]
  refine brk_i (fun _ => ?_) (fun h1 => absurd h1 (by simp [h0]))
  conv=>whnf
  exact RetA_view 0 rfl ⟨⟨rfl, rfl⟩, rfl⟩
 have hR := checkL_ok h0
 have hn := hR.lamp.night
 refine brk_i (fun h1 => absurd h1 (by simp [h0])) (fun _ => ?_)
 conv=>whnf
 refine arith_in (wrap_i64 (by (try dsimp only); omega)) ?_
 conv=>whnf
 refine CallA_view (fn51_1 0 (c.lamp.night - 1) s) rfl 1 rfl ?_
 conv=>whnf
 by_cases h1 : inB s 0 (c.lamp.night - 1) = true
 case neg =>
  have he : atE c s = 7 := by unfold atE; rw [if_pos h0, if_neg h1]
  have hv : atV c s = 0 := by unfold atV; rw [he]; rfl
  rw [he, hv]
  have h1 : inB s 0 (c.lamp.night - 1) = false := by simpa using h1
  rw [h1]
  conv=>whnf
  exact RetA_view 0 rfl ⟨⟨rfl, rfl⟩, rfl⟩
 have he : atE c s = if atK (agL c) s = 0 then 9 else 0 := by unfold atE; rw [if_pos h0, if_pos h1]
 rw [h1]
 rw [inB_iff] at h1
 conv=>whnf
 refine CallA_v (la76 c hR) rfl rfl ?_
 conv=>whnf
 refine RangeA_list tysOk (by exact drawsB_spec mixed tysOk (by decide +kernel)) (by exact drawsB_spec mixed tysOk (by decide +kernel)) rfl 1500000 1600000 [2, 3, 27, 9] (by exact yields_agree h0)
  (fun (k : Int) => ([(1500000, .box (.dd c.cells)), (1500001, .box (.dd [i64 s])), (1500002, .arr 1 (.dd [[i64 s]])), (1500003, .box (.dd [i64 k]))], st))
  (fun rest k => atK (agL c) s = rest.foldl (atStep s) k ∧ ∀ p ∈ rest, p.2.length = c.lamp.night.toNat) 0 rfl rfl rfl ⟨rfl, fun p hp => (agL_ok h0 hp).2.2⟩ ?_ ?_
 ·rintro ⟨t, lit⟩ rest k ⟨hk, hl⟩ Q hQ1 -
  refine ⟨⟨rfl, rfl⟩, ?_⟩
  have hll := hl (t, lit) (by simp)
  simp only at hll
  rw [List.foldl_cons] at hk
  have hs : s.toNat < lit.length := by omega
  have hg : lit.getD s.toNat false = lit[s.toNat] := by simp [List.getD_eq_getElem?_getD, hs]
  conv=>whnf
  refine elemK_i [.bool lit[s.toNat]] ⟨h1.1, by simp [hs]⟩ ?_
  have hrest : ∀ p ∈ rest, p.2.length = c.lamp.night.toNat := fun p hp => hl p (by simp [hp])
  cases hb : lit[s.toNat] with
  | true =>
   have hst : atStep s k (t, lit) = bitsI .or .i64 k 2 := by unfold atStep; simp only [hg, hb, if_true]
   rw [hst] at hk
   conv=>whnf
   exact ⟨bitsI .or .i64 k 2, (Wk.sub trivial ⟨(by first | rfl | (simp only [List.length_map]; rfl) | simp [PX.get]), (by first | rfl | (simp only [List.length_map]; rfl) | simp [PX.get]), (by first | rfl | (simp only [List.length_map]; rfl) | simp [PX.get]), (by first | rfl | (simp only [List.length_map]; rfl) | simp [PX.get]), trivial⟩), rfl, hQ1 _ ⟨hk, hrest⟩⟩
  | false =>
   have hst : atStep s k (t, lit) = bitsI .or .i64 k 1 := by unfold atStep; simp only [hg, hb]; rfl
   rw [hst] at hk
   conv=>whnf
   exact ⟨bitsI .or .i64 k 1, (Wk.sub trivial ⟨(by first | rfl | (simp only [List.length_map]; rfl) | simp [PX.get]), (by first | rfl | (simp only [List.length_map]; rfl) | simp [PX.get]), (by first | rfl | (simp only [List.length_map]; rfl) | simp [PX.get]), (by first | rfl | (simp only [List.length_map]; rfl) | simp [PX.get]), trivial⟩), rfl, hQ1 _ ⟨hk, hrest⟩⟩
 ·rintro k ⟨hk, _⟩
  simp only [List.foldl_nil] at hk
  conv=>whnf
  rw [← hk] 
  by_cases k0 : atK (agL c) s = 0
  ·have hv : atV c s = 0 := by unfold atV; rw [he, if_pos k0]; rfl
   rw [he, if_pos k0, hv]
   refine brk_i (fun _ => ?_) (fun h => absurd h (by simp [k0]))
   conv=>whnf
   exact RetA_view 0 rfl ⟨⟨rfl, rfl⟩, rfl⟩
  rw [if_neg k0] at he
  have hv : atV c s = if atK (agL c) s = 1 then 0 else if atK (agL c) s = 2 then 1 else 2 := by unfold atV; rw [he, if_pos rfl]
  rw [he, hv]
  refine brk_i (fun h => absurd h (by simp [k0])) (fun _ => ?_)
  conv=>whnf
  by_cases k1 : atK (agL c) s = 1
  ·rw [if_pos k1]
   refine brk_i (fun _ => ?_) (fun h => absurd h (by simp [k1]))
   conv=>whnf
   exact RetA_view 0 rfl ⟨⟨rfl, rfl⟩, rfl⟩
  rw [if_neg k1]
  refine brk_i (fun h => absurd h (by simp [k1])) (fun _ => ?_)
  conv=>whnf
  by_cases k2 : atK (agL c) s = 2
  ·rw [if_pos k2]
   refine brk_i (fun _ => ?_) (fun h => absurd h (by simp [k2]))
   conv=>whnf
   exact RetA_view 0 rfl ⟨⟨rfl, rfl⟩, rfl⟩
  rw [if_neg k2]
  refine brk_i (fun h => absurd h (by simp [k2])) (fun _ => ?_)
  conv=>whnf
  exact RetA_view 0 rfl ⟨⟨rfl, rfl⟩, rfl⟩
end Go.PX
namespace Go.PX
open Go.Proofs
def spreadS (s : Span) (n : Int) : Span := ⟨min s.lo n, max s.hi n⟩
theorem la77 (s : Span) (n : Int) : FnV Tryz.prog 69 [s.d, i64 n] (spreadS s n).d := by
 refine fnV_of mixed tysOk Tryz.func69 rfl (ft := ft69) 2 (by decide +kernel) (by rfl) fun {σ} Y st => ?_
 conv=>whnf
 exact RetA_view 0 rfl ⟨⟨rfl, rfl⟩, rfl⟩
def rangeStep (acc : Option (Span × List Span)) (t : LTruth) : Option (Span × List Span) := match acc with
 | none => some (⟨t.start, t.start⟩, t.speeds.map fun n => ⟨n, n⟩)
 | some (a, l) => some (spreadS a t.start, List.zipWith spreadS l t.speeds)
def rangeO (l : List (LTruth × List Bool)) : Option (Span × List Span) := l.foldl (fun acc p => rangeStep acc p.1) none
theorem zip_step {l : List Span} {sp : List Int} {i : Nat} {v : Int} {y : Span} (hs : sp[i]? = some v) (hx : l[i]? = some y) :
  (List.zipWith spreadS (l.take i) (sp.take i) ++ l.drop i).set i (spreadS y v) = List.zipWith spreadS (l.take (i + 1)) (sp.take (i + 1)) ++ l.drop (i + 1) := by
 have hi : i < l.length := (List.getElem?_eq_some_iff.1 hx).1
 have hj : i < sp.length := (List.getElem?_eq_some_iff.1 hs).1
 have hd : l.drop i = y :: l.drop (i + 1) := by
  rw [List.drop_eq_getElem_cons hi]
  rw [List.getElem?_eq_getElem hi] at hx
  rw [Option.some.inj hx]
 have hlen : (List.zipWith spreadS (l.take i) (sp.take i)).length = i := by simp; omega
 rw [hd, List.take_succ, List.take_succ, hs, hx, List.zipWith_append (by simp; omega), List.set_append_right _ _ (by omega), hlen, Nat.sub_self]
 simp
theorem zip_get {l : List Span} {sp : List Int} {i : Nat} {y : Span} (hl : i < sp.length) (hx : l[i]? = some y) : (List.zipWith spreadS (l.take i) (sp.take i) ++ l.drop i)[i]? = some y := by
 have hi : i < l.length := (List.getElem?_eq_some_iff.1 hx).1
 have hlen : (List.zipWith spreadS (l.take i) (sp.take i)).length = i := by simp; omega
 rw [List.getElem?_append_right (by omega), hlen, Nat.sub_self, List.getElem?_drop, Nat.add_zero]
 exact hx
def rangeE (c : LCase) : Int := if (checkL c).2.2 = 0 then (match rangeO (agL c) with | none => 9 | some _ => 0) else (checkL c).2.2
def rangeA (c : LCase) : Span := if (checkL c).2.2 = 0 then (match rangeO (agL c) with | none => ⟨0, 0⟩ | some (a, _) => a) else ⟨0, 0⟩
def rangeB' (c : LCase) : List Span := if (checkL c).2.2 = 0 then (match rangeO (agL c) with | none => [] | some (_, l) => l) else []
def rangeH (c : LCase) (o : Option (Span × List Span)) : Heap := match o with
 | none => [(1500000, .box (.dd c.cells)), (1500001, .box (.dd [i64 0, i64 0])), (1500002, .box (.dd [.nils]))]
 | some (a, l) => [(1500000, .box (.dd c.cells)), (1500001, .box (.dd a.cells)), (1500002, .box (.vv [.sl 45 2 0 l.length])), (45, .arr 2 (.dd (l.map Span.cells)))]
theorem spread_self (n : Int) : spreadS ⟨n, n⟩ n = ⟨n, n⟩ := by simp [spreadS]
set_option maxHeartbeats 1000000 in
theorem la23 (c : LCase) : FnV Tryz.prog 25 [c.d] (.tup [(rangeA c).d, spansD (rangeB' c), i64 (rangeE c)]) := by
 refine fnV_of mixed tysOk Tryz.func25 rfl (ft := ft25) 1 (by decide +kernel) (by rfl) fun {σ} Y st => ?_
 conv=>whnf
 refine CallA_v (la15 c) rfl rfl ?_
 conv=>whnf
 by_cases h0 : (checkL c).2.2 = 0
 case neg =>
  have he : rangeE c = (checkL c).2.2 := by unfold rangeE; rw [if_neg h0]
  have hv : rangeA c = ⟨0, 0⟩ := by unfold rangeA; rw [if_neg h0]
  have hb : rangeB' c = [] := by unfold rangeB'; rw [if_neg h0]
  rw [he, hv, hb]
  refine brk_i (fun _ => ?_) (fun h1 => absurd h1 (by simp [h0]))
  conv=>whnf
  exact RetA_viewR 0 rfl rfl ⟨⟨rfl, rfl⟩, rfl⟩
 have hR := checkL_ok h0
 have hn := hR.lamp.night
 have he : rangeE c = match rangeO (agL c) with | none => 9 | some _ => 0 := by unfold rangeE; rw [if_pos h0]
 have hv : rangeA c = match rangeO (agL c) with | none => ⟨0, 0⟩ | some (a, _) => a := by unfold rangeA; rw [if_pos h0]
 have hb : rangeB' c = match rangeO (agL c) with | none => [] | some (_, l) => l := by unfold rangeB'; rw [if_pos h0]
 refine brk_i (fun h1 => absurd h1 (by simp [h0])) (fun _ => ?_)
 conv=>whnf
 refine CallA_v (la76 c hR) rfl rfl ?_
 conv=>whnf
 refine RangeA_list tysOk (by exact drawsB_spec mixed tysOk (by decide +kernel)) (by exact drawsB_spec mixed tysOk (by decide +kernel)) rfl 1500000 1600000 [1, 2, 3] (by exact yields_agree h0)
  (fun (o : Option (Span × List Span)) => (rangeH c o, st))
  (fun (rest : List (LTruth × List Bool)) (o : Option (Span × List Span)) => rangeO (agL c) = rest.foldl (fun acc p => rangeStep acc p.1) o ∧ (∀ a l, o = some (a, l) → l.length = c.windings.length + 1) ∧ ∀ p ∈ rest, p.1.speeds.length = c.windings.length + 1) none rfl rfl rfl ⟨rfl, ⟨fun a l (h : none = some (a, l)) => (by cases h), fun p hp => (agL_ok h0 hp).1.len⟩⟩ ?_ ?_
 ·rintro ⟨t, lit⟩ rest o ⟨hk, hol, hl⟩ Q hQ1 -
  refine ⟨⟨rfl, rfl⟩, ?_⟩
  have htl := hl (t, lit) (by simp)
  have hw := hR.winds
  simp only at htl
  rw [List.foldl_cons] at hk
  have hrest : ∀ p ∈ rest, p.1.speeds.length = c.windings.length + 1 := fun p hp => hl p (by simp [hp])
  cases o with
  | none =>
   conv=>whnf
   refine ⟨fun b hb2 => ?_⟩
   cases hb2 trivial
   conv=>whnf
   refine LoopA_i (T := tys) tysOk (by exact drawsB_spec mixed tysOk (by decide +kernel)) t.speeds (fun i (acc : List Span) => ⟨[(1, .ptr 1500000 0), (2, .ptr 1500001 0), (3, .ptr 1500002 0), (5, .ptr 5 0), (34, .d (intsD t.speeds)), (35, .d (i64 t.speeds.length)), (36, .d (i64 i))], [(1500000, .box (.dd c.cells)), (1500001, .box (.dd [i64 t.start, i64 t.start])), (5, .box (.dd [i64 t.start, intsD t.speeds, boolsD lit])), (1500002, .box (.vv [.sl 45 2 0 acc.length])), (45, .arr 2 (.dd (acc.map Span.cells)))], st⟩)
    (fun i r acc => (t.speeds.map fun n => (⟨n, n⟩ : Span)) = acc ++ r.map fun n => ⟨n, n⟩) [] ((Wk.bornBox 1500002 45 2 rfl rfl rfl rfl).trans (Wk.sub ⟨(by first | rfl | (simp only [List.length_map]; rfl) | simp [PX.get]), (by first | rfl | (simp only [List.length_map]; rfl) | simp [PX.get]), (by first | rfl | (simp only [List.length_map]; rfl) | simp [PX.get]), (by first | rfl | (simp only [List.length_map]; rfl) | simp [PX.get]), (by first | rfl | (simp only [List.length_map]; rfl) | simp [PX.get]), (by first | rfl | (simp only [List.length_map]; rfl) | simp [PX.get]), (by first | rfl | (simp only [List.length_map]; rfl) | simp [PX.get]), trivial⟩ ⟨(by first | rfl | (simp only [List.length_map]; rfl) | simp [PX.get]), (by first | rfl | (simp only [List.length_map]; rfl) | simp [PX.get]), (by first | rfl | (simp only [List.length_map]; rfl) | simp [PX.get]), (by first | rfl | (simp only [List.length_map]; rfl) | simp [PX.get]), (by first | rfl | (simp only [List.length_map]; rfl) | simp [PX.get]), trivial⟩)) rfl ?_ ?_
   ·intro i v r acc hx hi hr hj
    conv=>whnf
    refine brk_i (fun _ => ?_) (fun h => absurd hi (by simpa using h))
    conv=>whnf
    refine elemK_nat hx ?_
    conv=>whnf
    refine ownK_whole rfl ?_
    conv=>whnf
    refine ownK_whole (by simp [Els.len]) ?_
    conv=>whnf
    have hal : acc.length ≤ 1000 := by
     have := congrArg List.length hj
     simp at this; omega
    refine chk_i (decide_eq_true (by
     show ((acc.map Span.cells).length + 1) * 16 ≤ 140737488355328
     rw [List.length_map]; omega)) ?_
    conv=>whnf
    refine arith_in (wrap_i64 (by (try dsimp only); omega)) ?_
    conv=>whnf
    refine ⟨acc ++ [⟨v, v⟩], by rw [hj]; simp, Wk.sub ⟨rfl, rfl, rfl, rfl, rfl, rfl, rfl, trivial⟩ ⟨rfl, rfl, rfl, ?_, ?_, trivial⟩⟩
    ·simp [PX.get, Els.len]
    ·simp [PX.get, Els.app, Span.cells]
   intro acc hj
   simp only [List.map_nil, List.append_nil] at hj
   conv=>whnf
   refine brk_i (fun h => absurd h (by simp)) (fun _ => ?_)
   conv=>whnf
   refine CallA_v (la77 ⟨t.start, t.start⟩ t.start) rfl rfl ?_
   conv=>whnf
   rw [spread_self]
   have hll : acc.length = t.speeds.length := by rw [← hj, List.length_map]
   have hfin : rangeStep none t = some (⟨t.start, t.start⟩, List.zipWith spreadS acc t.speeds) := by
    have : List.zipWith spreadS acc t.speeds = acc := by
     rw [← hj]
     apply List.ext_getElem?
     intro i
     simp only [List.getElem?_zipWith, List.getElem?_map]
     cases t.speeds[i]? with
     | none => rfl
     | some n => simp [spread_self]
    rw [this, ← hj]; rfl
   conv=>whnf
   refine LoopA_i (T := tys) tysOk (by exact drawsB_spec mixed tysOk (by decide +kernel)) t.speeds (fun i (g : List Span) => ⟨[(1, .ptr 1500000 0), (2, .ptr 1500001 0), (3, .ptr 1500002 0), (5, .ptr 5 0), (54, .d (intsD t.speeds)), (55, .d (i64 t.speeds.length)), (56, .d (i64 i))], [(1500000, .box (.dd c.cells)), (1500001, .box (.dd (Span.cells (⟨t.start, t.start⟩ : Span)))), (1500002, .box (.vv [.sl 45 2 0 g.length])), (45, .arr 2 (.dd (g.map Span.cells)))], st⟩)
    (fun i r g => g = List.zipWith spreadS ((acc).take i) (t.speeds.take i) ++ (acc).drop i) (acc) (Wk.sub ⟨(by first | rfl | (simp only [List.length_map]; rfl) | simp [PX.get]), (by first | rfl | (simp only [List.length_map]; rfl) | simp [PX.get]), (by first | rfl | (simp only [List.length_map]; rfl) | simp [PX.get]), (by first | rfl | (simp only [List.length_map]; rfl) | simp [PX.get]), (by first | rfl | (simp only [List.length_map]; rfl) | simp [PX.get]), (by first | rfl | (simp only [List.length_map]; rfl) | simp [PX.get]), (by first | rfl | (simp only [List.length_map]; rfl) | simp [PX.get]), trivial⟩ ⟨(by first | rfl | (simp only [List.length_map]; rfl) | simp [PX.get]), (by first | rfl | (simp only [List.length_map]; rfl) | simp [PX.get]), (by first | rfl | (simp only [List.length_map]; rfl) | simp [PX.get]), (by first | rfl | (simp only [List.length_map]; rfl) | simp [PX.get]), trivial⟩) (by simp) ?_ ?_
   ·intro i v r g hx hi hr hj
    have hgl : g.length = t.speeds.length := by rw [hj]; simp; omega
    have hyl : i < (acc).length := by omega
    obtain ⟨y, hy⟩ : ∃ y, (acc)[i]? = some y := ⟨_, List.getElem?_eq_getElem hyl⟩
    have hgi : g[i]? = some y := by rw [hj]; exact zip_get hi hy
    have hst := zip_step hx hy
    rw [← hj] at hst
    conv=>whnf
    refine brk_i (fun _ => ?_) (fun h => absurd hi (by simpa using h))
    conv=>whnf
    refine elemK_nat hx ?_
    conv=>whnf
    refine chk_i (by simp; omega) ?_
    conv=>whnf
    refine cellK_i (Span.cells y) (by simp [hgi]) ?_
    conv=>whnf
    refine DrawCall_v (la77 y v) rfl rfl ?_
    conv=>whnf
    refine chk_i (by simp; omega) ?_
    conv=>whnf
    refine cellK_i (Span.cells y) (by simp [hgi]) ?_
    conv=>whnf
    refine arith_in (wrap_i64 (by (try dsimp only); omega)) ?_
    conv=>whnf
    refine ⟨g.set i (spreadS y v), hst, Wk.sub ⟨rfl, rfl, rfl, rfl, rfl, rfl, rfl, trivial⟩ ⟨rfl, rfl, ?_, ?_, trivial⟩⟩
    ·simp [PX.get]
    ·show some (Obj.arr 2 (Els.dd ((g.map Span.cells).set (0 + (i : Int).toNat) [i64 (spreadS y v).lo, i64 (spreadS y v).hi]))) = some (Obj.arr 2 (Els.dd ((g.set i (spreadS y v)).map Span.cells)))
     rw [List.map_set]
     simp [Span.cells]
   intro g hj
   have hg : g = List.zipWith spreadS (acc) t.speeds := by rw [hj, List.drop_eq_nil_of_le (by omega), List.append_nil, List.take_of_length_le (by omega), List.take_of_length_le (by omega)]
   have hgl : g.length = c.windings.length + 1 := by rw [hg]; simp; omega
   rw [← hg] at hfin
   conv=>whnf
   refine brk_i (fun h => absurd h (by simp)) (fun _ => ?_)
   conv=>whnf
   simp only [hfin] at hk
   exact ⟨some ((⟨t.start, t.start⟩ : Span), g), (Wk.sub trivial ⟨(by first | rfl | (simp only [List.length_map]; rfl) | simp [PX.get]), (by first | rfl | (simp only [List.length_map]; rfl) | simp [PX.get]), (by first | rfl | (simp only [List.length_map]; rfl) | simp [PX.get]), (by first | rfl | (simp only [List.length_map]; rfl) | simp [PX.get]), trivial⟩), rfl, hQ1 _ ⟨hk, ⟨fun a' l' h' => (by cases h'; exact hgl), hrest⟩⟩⟩
  | some al =>
   obtain ⟨a, l⟩ := al
   have hll := hol a l rfl
   conv=>whnf
   refine ⟨fun b hb2 => ?_⟩
   cases hb2 (by omega)
   conv=>whnf
   refine CallA_v (la77 a t.start) rfl rfl ?_
   conv=>whnf
   have hll : l.length = t.speeds.length := by omega
   have hfin : rangeStep (some (a, l)) t = some (spreadS a t.start, List.zipWith spreadS l t.speeds) := rfl
   conv=>whnf
   refine LoopA_i (T := tys) tysOk (by exact drawsB_spec mixed tysOk (by decide +kernel)) t.speeds (fun i (g : List Span) => ⟨[(1, .ptr 1500000 0), (2, .ptr 1500001 0), (3, .ptr 1500002 0), (5, .ptr 5 0), (54, .d (intsD t.speeds)), (55, .d (i64 t.speeds.length)), (56, .d (i64 i))], [(1500000, .box (.dd c.cells)), (1500001, .box (.dd (Span.cells (spreadS a t.start)))), (1500002, .box (.vv [.sl 45 2 0 g.length])), (45, .arr 2 (.dd (g.map Span.cells)))], st⟩)
    (fun i r g => g = List.zipWith spreadS ((l).take i) (t.speeds.take i) ++ (l).drop i) (l) (Wk.sub ⟨(by first | rfl | (simp only [List.length_map]; rfl) | simp [PX.get]), (by first | rfl | (simp only [List.length_map]; rfl) | simp [PX.get]), (by first | rfl | (simp only [List.length_map]; rfl) | simp [PX.get]), (by first | rfl | (simp only [List.length_map]; rfl) | simp [PX.get]), (by first | rfl | (simp only [List.length_map]; rfl) | simp [PX.get]), (by first | rfl | (simp only [List.length_map]; rfl) | simp [PX.get]), (by first | rfl | (simp only [List.length_map]; rfl) | simp [PX.get]), trivial⟩ ⟨(by first | rfl | (simp only [List.length_map]; rfl) | simp [PX.get]), (by first | rfl | (simp only [List.length_map]; rfl) | simp [PX.get]), (by first | rfl | (simp only [List.length_map]; rfl) | simp [PX.get]), (by first | rfl | (simp only [List.length_map]; rfl) | simp [PX.get]), trivial⟩) (by simp) ?_ ?_
   ·intro i v r g hx hi hr hj
    have hgl : g.length = t.speeds.length := by rw [hj]; simp; omega
    have hyl : i < (l).length := by omega
    obtain ⟨y, hy⟩ : ∃ y, (l)[i]? = some y := ⟨_, List.getElem?_eq_getElem hyl⟩
    have hgi : g[i]? = some y := by rw [hj]; exact zip_get hi hy
    have hst := zip_step hx hy
    rw [← hj] at hst
    conv=>whnf
    refine brk_i (fun _ => ?_) (fun h => absurd hi (by simpa using h))
    conv=>whnf
    refine elemK_nat hx ?_
    conv=>whnf
    refine chk_i (by simp; omega) ?_
    conv=>whnf
    refine cellK_i (Span.cells y) (by simp [hgi]) ?_
    conv=>whnf
    refine DrawCall_v (la77 y v) rfl rfl ?_
    conv=>whnf
    refine chk_i (by simp; omega) ?_
    conv=>whnf
    refine cellK_i (Span.cells y) (by simp [hgi]) ?_
    conv=>whnf
    refine arith_in (wrap_i64 (by (try dsimp only); omega)) ?_
    conv=>whnf
    refine ⟨g.set i (spreadS y v), hst, Wk.sub ⟨rfl, rfl, rfl, rfl, rfl, rfl, rfl, trivial⟩ ⟨rfl, rfl, ?_, ?_, trivial⟩⟩
    ·simp [PX.get]
    ·show some (Obj.arr 2 (Els.dd ((g.map Span.cells).set (0 + (i : Int).toNat) [i64 (spreadS y v).lo, i64 (spreadS y v).hi]))) = some (Obj.arr 2 (Els.dd ((g.set i (spreadS y v)).map Span.cells)))
     rw [List.map_set]
     simp [Span.cells]
   intro g hj
   have hg : g = List.zipWith spreadS (l) t.speeds := by rw [hj, List.drop_eq_nil_of_le (by omega), List.append_nil, List.take_of_length_le (by omega), List.take_of_length_le (by omega)]
   have hgl : g.length = c.windings.length + 1 := by rw [hg]; simp; omega
   rw [← hg] at hfin
   conv=>whnf
   refine brk_i (fun h => absurd h (by simp)) (fun _ => ?_)
   conv=>whnf
   simp only [hfin] at hk
   exact ⟨some ((spreadS a t.start), g), (Wk.sub trivial ⟨(by first | rfl | (simp only [List.length_map]; rfl) | simp [PX.get]), (by first | rfl | (simp only [List.length_map]; rfl) | simp [PX.get]), (by first | rfl | (simp only [List.length_map]; rfl) | simp [PX.get]), (by first | rfl | (simp only [List.length_map]; rfl) | simp [PX.get]), trivial⟩), rfl, hQ1 _ ⟨hk, ⟨fun a' l' h' => (by cases h'; exact hgl), hrest⟩⟩⟩
 ·rintro o ⟨hk, hol, _⟩
  simp only [List.foldl_nil] at hk
  rw [hk] at he hv hb
  cases o with
  | none =>
   simp only at he hv hb
   rw [he, hv, hb]
   conv=>whnf
   refine ⟨fun b hb2 => ?_⟩
   cases hb2 trivial
   conv=>whnf
   exact RetA_viewR 0 rfl rfl ⟨⟨rfl, rfl⟩, rfl⟩
  | some al =>
   obtain ⟨a, l⟩ := al
   simp only at he hv hb
   rw [he, hv, hb]
   have hll := hol a l rfl
   conv=>whnf
   refine ⟨fun b hb2 => ?_⟩
   cases hb2 (by omega)
   conv=>whnf
   exact RetA_view 1 (ds := [a.d, spansD l, i64 0]) (viewL_cons rfl (viewL_cons (viewV_sl rfl (by simp)) rfl)) ⟨⟨rfl, rfl⟩, rfl⟩
end Go.PX
namespace Go.PX
open Go.Proofs
theorem la123 (n : Int) : FnV Tryz.prog 126 [i64 n] (.bool false) := by
 refine fnV_of mixed tysOk Tryz.func126 rfl (ft := ft126) 1 (by decide +kernel) (by rfl) fun {σ} Y st => ?_
 conv=>whnf
 refine RetA_view 0 rfl ⟨⟨?_, rfl⟩, rfl⟩
 simp [packD]
def cmpI (a b : Int) : Int := if a < b then -1 else if a > b then 1 else 0
theorem la116 (a b : Int) : FnV Tryz.prog 110 [i64 a, i64 b] (i64 (cmpI a b)) := by
 refine fnV_of mixed tysOk Tryz.func110 rfl (ft := ft110) 2 (by decide +kernel) (by rfl) fun {σ} Y st => ?_
 conv=>whnf
 refine CallA_v (la123 a) rfl rfl ?_
 conv=>whnf
 refine CallA_v (la123 b) rfl rfl ?_
 conv=>whnf
 unfold cmpI
 refine brk_i (fun h1 => ?_) (fun h1 => ?_)
 ·have h1 : a < b := by simpa using h1
  conv=>whnf
  rw [if_pos h1]
  exact RetA_view 0 rfl ⟨⟨rfl, rfl⟩, rfl⟩
 have h1 : ¬ a < b := by simpa using h1
 rw [if_neg h1]
 conv=>whnf
 refine brk_i (fun h2 => ?_) (fun h2 => ?_)
 ·have h2 : a > b := by simpa using h2
  conv=>whnf
  rw [if_pos h2]
  exact RetA_view 0 rfl ⟨⟨rfl, rfl⟩, rfl⟩
 ·have h2 : ¬ a > b := by simpa using h2
  conv=>whnf
  rw [if_neg h2]
  exact RetA_view 0 rfl ⟨⟨rfl, rfl⟩, rfl⟩
def compareL : List Int → List Int → Int
 | [], [] => 0
 | [], _ :: _ => -1
 | _ :: _, [] => 1
 | a :: r, b :: s => if a < b then -1 else if a > b then 1 else compareL r s
theorem la85 (a b : List Int) (ha : a.length < 1000000) (hb : b.length < 1000000) : FnV Tryz.prog 75 [intsD a, intsD b] (i64 (compareL a b)) := by
 refine fnV_of mixed tysOk Tryz.func75 rfl (ft := ft75) 2 (by decide +kernel) (by rfl) fun {σ} Y st => ?_
 conv=>whnf
 refine LoopA_i (T := tys) tysOk (by exact drawsB_spec mixed tysOk (by decide +kernel)) a (fun i (_ : Unit) => ⟨[(0, .d (intsD a)), (1, .d (intsD b)), (9, .d (intsD a)), (10, .d (i64 a.length)), (11, .d (i64 i))], [], st⟩) (fun i r _ => compareL a b = compareL r (b.drop i) ∧ i ≤ b.length) () (Wk.sub ⟨(by first | rfl | (simp only [List.length_map]; rfl) | simp [PX.get]), (by first | rfl | (simp only [List.length_map]; rfl) | simp [PX.get]), (by first | rfl | (simp only [List.length_map]; rfl) | simp [PX.get]), (by first | rfl | (simp only [List.length_map]; rfl) | simp [PX.get]), (by first | rfl | (simp only [List.length_map]; rfl) | simp [PX.get]), trivial⟩ trivial) ⟨rfl, Nat.zero_le _⟩ ?_ ?_
 ·intro i x r _ hx hi hr ⟨he, hib⟩
  conv=>whnf
  refine brk_i (fun _ => ?_) (fun h => absurd hi (by simpa using h))
  conv=>whnf
  refine elemK_nat hx ?_
  conv=>whnf
  refine brk_i (fun h1 => ?_) (fun h1 => ?_)
  ·have h1 : b.length ≤ i := by simpa using h1
   rw [List.drop_eq_nil_of_le h1, compareL] at he
   conv=>whnf
   rw [he]
   exact RetA_view 0 rfl ⟨⟨rfl, rfl⟩, rfl⟩
  have h1 : i < b.length := by simp at h1; omega
  obtain ⟨y, hy⟩ : ∃ y, b[i]? = some y := ⟨_, List.getElem?_eq_getElem h1⟩
  have hd : b.drop i = y :: b.drop (i + 1) := by
   rw [List.drop_eq_getElem_cons h1]
   rw [List.getElem?_eq_getElem h1] at hy
   rw [Option.some.inj hy]
  rw [hd, compareL] at he
  conv=>whnf
  refine elemK_i [i64 y] ⟨by omega, by simp [hy]⟩ ?_
  conv=>whnf
  refine CallA_v (la116 x y) rfl rfl ?_
  conv=>whnf
  unfold cmpI
  by_cases h2 : x < y
  ·rw [if_pos h2] at he
   rw [if_pos h2]
   conv=>whnf
   rw [he]
   exact RetA_view 0 rfl ⟨⟨rfl, rfl⟩, rfl⟩
  rw [if_neg h2] at he
  rw [if_neg h2]
  by_cases h3 : x > y
  ·rw [if_pos h3] at he
   rw [if_pos h3]
   conv=>whnf
   rw [he]
   exact RetA_view 0 rfl ⟨⟨rfl, rfl⟩, rfl⟩
  rw [if_neg h3] at he
  rw [if_neg h3]
  conv=>whnf
  refine arith_in (wrap_i64 (by (try dsimp only); omega)) ?_
  conv=>whnf
  exact ⟨(), ⟨he, by omega⟩, (Wk.sub ⟨(by first | rfl | (simp only [List.length_map]; rfl) | simp [PX.get]), (by first | rfl | (simp only [List.length_map]; rfl) | simp [PX.get]), (by first | rfl | (simp only [List.length_map]; rfl) | simp [PX.get]), (by first | rfl | (simp only [List.length_map]; rfl) | simp [PX.get]), (by first | rfl | (simp only [List.length_map]; rfl) | simp [PX.get]), trivial⟩ trivial)⟩
 ·intro _ ⟨he, hib⟩
  conv=>whnf
  refine brk_i (fun h => absurd h (by simp)) (fun _ => ?_)
  conv=>whnf
  refine brk_i (fun h1 => ?_) (fun h1 => ?_)
  ·have h1 : a.length < b.length := by simpa using h1
   rw [List.drop_eq_getElem_cons h1, compareL] at he
   conv=>whnf
   rw [he]
   exact RetA_view 0 rfl ⟨⟨rfl, rfl⟩, rfl⟩
  ·have h1 : b.length ≤ a.length := by simpa using h1
   rw [List.drop_eq_nil_of_le h1, compareL] at he
   conv=>whnf
   rw [he]
   exact RetA_view 0 rfl ⟨⟨rfl, rfl⟩, rfl⟩
def cmpW (a b : List Int) : Int := if a.length = b.length then compareL a b else a.length - b.length
theorem la84 (a b : List Int) (ha : a.length < 1000000) (hb : b.length < 1000000) : FnV Tryz.prog 74 [intsD a, intsD b] (i64 (cmpW a b)) := by
 refine fnV_of mixed tysOk Tryz.func74 rfl (ft := ft74) 2 (by decide +kernel) (by rfl) fun {σ} Y st => ?_
 conv=>whnf
 unfold cmpW
 refine brk_i (fun h1 => ?_) (fun h1 => ?_)
 ·have h1 : ¬ a.length = b.length := by simp at h1; omega
  rw [if_neg h1]
  conv=>whnf
  refine arith_to ((a.length : Int) - b.length) (by simp) (wrap_i64 (by omega)) ?_
  conv=>whnf
  exact RetA_view 0 rfl ⟨⟨rfl, rfl⟩, rfl⟩
 ·have h1 : a.length = b.length := by simp at h1; omega
  rw [if_pos h1]
  conv=>whnf
  refine CallA_v (la85 a b ha hb) rfl rfl ?_
  conv=>whnf
  exact RetA_view 0 rfl ⟨⟨rfl, rfl⟩, rfl⟩
def leastStep (acc : Option (List Int)) (y : List Int) : Option (List Int) := match acc with
 | none => some y
 | some x => if cmpW y x < 0 then some y else some x
def leastW (l : List (List Int)) : Option (List Int) := l.foldl leastStep none
def leastV (o : Option (List Int)) : D := match o with
 | none => .tup [.nils, .bool false]
 | some x => .tup [intsD x, .bool true]
theorem la83 {f : FuncId} {caps : List D} {items : List (List Int)} (hy : Yields Tryz.prog f caps (items.map fun l => ([.d (intsD l)], []))) (hl : ∀ l ∈ items, l.length < 1000000) : FnV Tryz.prog 73 [.clo f caps, .clo 74 []] (leastV (leastW items)) := by
 refine fnV_of mixed tysOk Tryz.func73 rfl (ft := ft73) 2 (by decide +kernel) (by rfl) fun {σ} Y st => ?_
 conv=>whnf
 refine RangeA_list tysOk (by exact drawsB_spec mixed tysOk (by decide +kernel)) (by exact drawsB_spec mixed tysOk (by decide +kernel)) rfl 1500000 1600000 [3, 4, 5] (by exact hy)
  (fun (o : Option (List Int)) => (match o with
   | none => [(1500000, .box (.dd [.clo 74 []])), (1500001, .box (.dd [.nils])), (1500002, .box (.dd [.bool false]))]
   | some x => [(1500000, .box (.dd [.clo 74 []])), (1500001, .box (.dd [intsD x])), (1500002, .box (.dd [.bool true]))], st))
  (fun (rest : List (List Int)) (o : Option (List Int)) => leastW items = rest.foldl leastStep o ∧ (∀ x, o = some x → x.length < 1000000) ∧ ∀ l ∈ rest, l.length < 1000000) none rfl rfl rfl ⟨rfl, ⟨fun x (h : none = some x) => (by cases h), hl⟩⟩ ?_ ?_
 ·rintro y rest o ⟨hk, ho, hr⟩ Q hQ1 -
  refine ⟨⟨rfl, rfl⟩, ?_⟩
  rw [List.foldl_cons] at hk
  have hy := hr y (by simp)
  have hrest : ∀ l ∈ rest, l.length < 1000000 := fun l h => hr l (by simp [h])
  cases o with
  | none =>
   conv=>whnf
   exact ⟨some y, (Wk.sub trivial ⟨(by first | rfl | (simp only [List.length_map]; rfl) | simp [PX.get]), (by first | rfl | (simp only [List.length_map]; rfl) | simp [PX.get]), (by first | rfl | (simp only [List.length_map]; rfl) | simp [PX.get]), trivial⟩), rfl, hQ1 _ ⟨hk, ⟨fun x h => (by cases h; exact hy), hrest⟩⟩⟩
  | some x =>
   have hx := ho x rfl
   conv=>whnf
   refine CallA_v (la84 y x hy hx) rfl rfl ?_
   conv=>whnf
   rw [leastStep] at hk
   refine brk_i (fun h1 => ?_) (fun h1 => ?_)
   ·have h1 : cmpW y x < 0 := by simpa using h1
    rw [if_pos h1] at hk
    conv=>whnf
    exact ⟨some y, (Wk.sub trivial ⟨(by first | rfl | (simp only [List.length_map]; rfl) | simp [PX.get]), (by first | rfl | (simp only [List.length_map]; rfl) | simp [PX.get]), (by first | rfl | (simp only [List.length_map]; rfl) | simp [PX.get]), trivial⟩), rfl, hQ1 _ ⟨hk, ⟨fun x h => (by cases h; exact hy), hrest⟩⟩⟩
   ·have h1 : ¬ cmpW y x < 0 := by simpa using h1
    rw [if_neg h1] at hk
    conv=>whnf
    exact ⟨some x, (Wk.sub trivial ⟨(by first | rfl | (simp only [List.length_map]; rfl) | simp [PX.get]), (by first | rfl | (simp only [List.length_map]; rfl) | simp [PX.get]), (by first | rfl | (simp only [List.length_map]; rfl) | simp [PX.get]), trivial⟩), rfl, hQ1 _ ⟨hk, ⟨ho, hrest⟩⟩⟩
 ·rintro o ⟨hk, ho, _⟩
  simp only [List.foldl_nil] at hk
  rw [hk]
  cases o with
  | none =>
   conv=>whnf
   exact RetA_view 0 rfl ⟨⟨rfl, rfl⟩, rfl⟩
  | some x =>
   conv=>whnf
   exact RetA_view 0 rfl ⟨⟨rfl, rfl⟩, rfl⟩
end Go.PX
namespace Go.PX
open Go.Proofs
def wrongF (lit : List Bool) : List LSight → Int → List Int
 | [], _ => []
 | s :: r, i => if lit.getD s.second.toNat false = s.lit then wrongF lit r (i + 1) else i :: wrongF lit r (i + 1)
def trueF : Int → Bool → Bool := fun _ _ => true
theorem la82 (s : Int) (b : Bool) : FnV Tryz.prog 72 [i64 s, .bool b] (.bool true) := by
 refine fnV_of mixed tysOk Tryz.func72 rfl (ft := ft72) 2 (by decide +kernel) (by rfl) fun {σ} Y st => ?_
 conv=>whnf
 exact RetA_view 0 rfl ⟨⟨rfl, rfl⟩, rfl⟩
def allC (c : LCase) : List (LTruth × List Bool) := truL c.lamp c.windings trueF
def wrongsL (c : LCase) : List (List Int) := (allC c).map fun p => wrongF p.2 c.sights 0
theorem okW_true : ∀ (l : List Bool) (s : Int), okW trueF s l = true
 | [], _ => rfl
 | b :: r, s => by rw [okW, okW_true]; rfl
theorem allC_eq {c : LCase} (h0 : (checkL c).2.2 = 0) : allC c = (allT c.lamp c.windings).map fun t => (t, courseL c.lamp c.windings t) := by
 unfold allC
 rw [truL_all (CaseL.up h0).1]
 congr 1
 rw [List.filter_eq_self]
 intro t _
 exact okW_true _ _
theorem allC_ok {c : LCase} (h0 : (checkL c).2.2 = 0) {p : LTruth × List Bool} (hp : p ∈ allC c) : TruthR c p.1 ∧ p.2 = courseL c.lamp c.windings p.1 ∧ p.2.length = c.lamp.night.toNat := by
 rw [allC_eq h0] at hp
 obtain ⟨t, ht, rfl⟩ := List.mem_map.1 hp
 exact ⟨mem_allT.1 ht, rfl, by simp only [courseL, courseF_len]⟩
theorem wrongF_len {lit : List Bool} : ∀ {l : List LSight} {i : Int}, (wrongF lit l i).length ≤ l.length
 | [], _ => Nat.le_refl _
 | s :: r, i => by
  rw [wrongF]
  have := wrongF_len (lit := lit) (l := r) (i := i + 1)
  split <;> simp <;> omega
set_option maxHeartbeats 1000000 in
theorem yields79 (c : LCase) (h0 : (checkL c).2.2 = 0) : Yields Tryz.prog 71 [.ref c.cells] ((wrongsL c).map fun l => ([.d (intsD l)], [])) := by
 intro γ Y g0 Q hit
 have hR := checkL_ok h0
 have hn := hR.lamp.night
 refine fnC_of mixed tysOk Tryz.func71 rfl (ft := ft71) (args := [.yld, .d (.ref c.cells)]) (show fnB ft71 Tryz.f71 2 = true from by decide +kernel) ?_
 conv=>whnf
 refine DrawCall_v (la80 c.lamp hR.lamp) rfl rfl ?_
 conv=>whnf
 refine DrawCall_v (la81 c.lamp c.windings 72 []) rfl rfl ?_
 conv=>whnf
 unfold wrongsL at hit
 refine RangeA_list tysOk (by exact drawsB_spec mixed tysOk (by decide +kernel)) (by exact drawsB_spec mixed tysOk (by decide +kernel)) rfl 1500000 1600000 [2] (by exact fun {γ} => yields112 hR.lamp hR.winds hR.wind (CaseL.up h0).2 (fun s b _ => la82 s b))
  (fun (g : γ) => ([(1500000, .box (.vv [.yld]))], g))
  (fun (rest : List (LTruth × List Bool)) (g : γ) => iterate Y ((rest.map fun p => wrongF p.2 c.sights 0).map fun l => ([.d (intsD l)], [])) g Q ∧ ∀ p ∈ rest, p.2.length = c.lamp.night.toNat) g0 rfl rfl rfl ⟨hit, fun p hp => (allC_ok h0 hp).2.2⟩ ?_ ?_
 ·clear hit
  rintro ⟨t, lit⟩ rest g ⟨hit, hl⟩ Q' hQ1 hQ2
  refine ⟨⟨rfl, rfl⟩, ?_⟩
  have hll := hl (t, lit) (by simp)
  simp only at hll
  rw [List.map_cons, List.map_cons] at hit
  have hs8 := hR.sights
  have hsg := hR.sight
  have hrest : ∀ p ∈ rest, p.2.length = c.lamp.night.toNat := fun p hp => hl p (by simp [hp])
  conv=>whnf
  refine LoopA_i (T := tys) tysOk (by exact drawsB_spec mixed tysOk (by decide +kernel)) c.sights (fun i (acc : List Int) => ⟨[(1, .d (.ref c.cells)), (2, .ptr 1500000 0), (3, .ptr 3 0), (4, .sl 34 1 0 acc.length), (15, .d (sightsD c.sights)), (16, .d (i64 c.sights.length)), (17, .d (i64 i))], [(1500000, .box (.vv [.yld])), (3, .box (.dd [i64 t.start, intsD t.speeds, boolsD lit])), (34, .arr 1 (.dd (acc.map fun n => [i64 n])))], g⟩)
   (fun i r acc => wrongF lit c.sights 0 = acc ++ wrongF lit r i ∧ acc.length ≤ i ∧ ∀ s ∈ r, s ∈ c.sights) [] ((Wk.born 4 34 1 rfl rfl rfl).trans (Wk.sub ⟨(by first | rfl | (simp only [List.length_map]; rfl) | simp [PX.get]), (by first | rfl | (simp only [List.length_map]; rfl) | simp [PX.get]), (by first | rfl | (simp only [List.length_map]; rfl) | simp [PX.get]), (by first | rfl | (simp only [List.length_map]; rfl) | simp [PX.get]), (by first | rfl | (simp only [List.length_map]; rfl) | simp [PX.get]), (by first | rfl | (simp only [List.length_map]; rfl) | simp [PX.get]), (by first | rfl | (simp only [List.length_map]; rfl) | simp [PX.get]), trivial⟩ ⟨(by first | rfl | (simp only [List.length_map]; rfl) | simp [PX.get]), (by first | rfl | (simp only [List.length_map]; rfl) | simp [PX.get]), (by first | rfl | (simp only [List.length_map]; rfl) | simp [PX.get]), trivial⟩)) ⟨rfl, ⟨by simp, fun s h => h⟩⟩ ?_ ?_
  ·intro i s r acc hx hi hr ⟨he, hal, hsub⟩
   rw [wrongF] at he
   obtain ⟨hs1, hs2⟩ := hsg s (hsub s (by simp))
   have hsl : s.second.toNat < lit.length := by omega
   obtain ⟨b, hb⟩ : ∃ b, lit[s.second.toNat]? = some b := ⟨_, List.getElem?_eq_getElem hsl⟩
   have hg : lit.getD s.second.toNat false = b := by simp [List.getD_eq_getElem?_getD, hb]
   rw [hg] at he
   conv=>whnf
   refine brk_i (fun _ => ?_) (fun h => absurd hi (by simpa using h))
   conv=>whnf
   refine elemK_nat hx ?_
   conv=>whnf
   refine elemK_i [.bool b] ⟨hs1, by simp [hb]⟩ ?_
   conv=>whnf
   by_cases hbs : b = s.lit
   ·rw [if_pos hbs] at he
    rw [show (!b == s.lit) = false from by rw [hbs]; cases s.lit <;> rfl]
    conv=>whnf
    refine arith_in (wrap_i64 (by (try dsimp only); omega)) ?_
    conv=>whnf
    exact ⟨acc, ⟨he, by omega, fun s hs => hsub s (by simp [hs])⟩, (Wk.sub ⟨(by first | rfl | (simp only [List.length_map]; rfl) | simp [PX.get]), (by first | rfl | (simp only [List.length_map]; rfl) | simp [PX.get]), (by first | rfl | (simp only [List.length_map]; rfl) | simp [PX.get]), (by first | rfl | (simp only [List.length_map]; rfl) | simp [PX.get]), (by first | rfl | (simp only [List.length_map]; rfl) | simp [PX.get]), (by first | rfl | (simp only [List.length_map]; rfl) | simp [PX.get]), (by first | rfl | (simp only [List.length_map]; rfl) | simp [PX.get]), trivial⟩ ⟨(by first | rfl | (simp only [List.length_map]; rfl) | simp [PX.get]), (by first | rfl | (simp only [List.length_map]; rfl) | simp [PX.get]), (by first | rfl | (simp only [List.length_map]; rfl) | simp [PX.get]), trivial⟩)⟩
   ·rw [if_neg hbs] at he
    rw [show (!b == s.lit) = true from by cases b <;> cases hl2 : s.lit <;> simp_all]
    conv=>whnf
    refine ownK_whole rfl ?_
    conv=>whnf
    refine ownK_whole (by simp [Els.len]) ?_
    conv=>whnf
    refine chk_i (decide_eq_true (by
     show ((acc.map fun n => [i64 n]).length + 1) * 8 ≤ 140737488355328
     rw [List.length_map]; omega)) ?_
    conv=>whnf
    refine arith_in (wrap_i64 (by (try dsimp only); omega)) ?_
    conv=>whnf
    refine ⟨acc ++ [(i : Int)], ⟨by rw [he]; simp, by simp; omega, fun s hs => hsub s (by simp [hs])⟩, Wk.sub ⟨rfl, rfl, rfl, ?_, rfl, rfl, rfl, trivial⟩ ⟨rfl, rfl, ?_, trivial⟩⟩
    ·simp [PX.get, Els.len]
    ·simp [PX.get, Els.app]
  intro acc ⟨he, hal, _⟩
  rw [wrongF, List.append_nil] at he
  rw [he] at hit
  conv=>whnf
  refine brk_i (fun h => absurd h (by simp)) (fun _ => ?_)
  conv=>whnf
  refine YldA_frz 1 [34] (ds := [intsD acc]) (viewL_cons (viewV_sl rfl (by simp)) rfl) rfl ?_
  refine YldA_v (ds := [intsD acc]) hit rfl rfl (fun g1 hi => ?_) (fun g1 hq => ?_)
  ·conv=>whnf
   exact ⟨g1, (Wk.sub trivial ⟨(by first | rfl | (simp only [List.length_map]; rfl) | simp [PX.get]), trivial⟩), rfl, hQ1 _ ⟨hi, hrest⟩⟩
  ·conv=>whnf
   exact ⟨[(1500000, .box (.vv [.yld]))], g1, (Wk.sub trivial ⟨(by first | rfl | (simp only [List.length_map]; rfl) | simp [PX.get]), trivial⟩), rfl, hQ2 _ _ _ (RetA_view 0 rfl ⟨rfl, hq⟩)⟩
 ·rintro g ⟨hit, _⟩
  conv=>whnf
  exact RetA_view 0 rfl ⟨rfl, hit⟩
def wrongO (c : LCase) : List Int := match leastW (wrongsL c) with
 | none => []
 | some l => l
def wrongV (c : LCase) : List Int := if (checkL c).2.2 = 0 then wrongO c else []
theorem la27 (c : LCase) : FnV Tryz.prog 27 [c.d] (.tup [intsD (wrongV c), i64 (checkL c).2.2]) := by
 refine fnV_of mixed tysOk Tryz.func27 rfl (ft := ft27) 1 (by decide +kernel) (by rfl) fun {σ} Y st => ?_
 conv=>whnf
 refine CallA_v (la15 c) rfl rfl ?_
 conv=>whnf
 by_cases h0 : (checkL c).2.2 = 0
 case neg =>
  have hv : wrongV c = [] := by unfold wrongV; rw [if_neg h0]
  rw [hv]
  refine brk_i (fun _ => ?_) (fun h1 => absurd h1 (by simp [h0]))
  conv=>whnf
  exact RetA_viewR 0 rfl rfl ⟨⟨rfl, rfl⟩, rfl⟩
 have hR := checkL_ok h0
 have hv : wrongV c = wrongO c := by unfold wrongV; rw [if_pos h0]
 rw [hv]
 refine brk_i (fun h1 => absurd h1 (by simp [h0])) (fun _ => ?_)
 conv=>whnf
 refine CallA_fz (la83 (fun {γ} => yields79 c h0) ?_) 2 [1] rfl rfl ?_
 ·intro l hl
  obtain ⟨p, _, rfl⟩ := List.mem_map.1 hl
  have := wrongF_len (lit := p.2) (l := c.sights) (i := 0)
  have := hR.sights
  omega
 unfold wrongO
 cases hL : leastW (wrongsL c) with
 | none =>
  conv=>whnf
  rw [h0]
  exact RetA_viewR 0 rfl rfl ⟨⟨rfl, rfl⟩, rfl⟩
 | some l =>
  conv=>whnf
  rw [h0]
  exact RetA_view 0 rfl ⟨⟨rfl, rfl⟩, rfl⟩
end Go.PX
