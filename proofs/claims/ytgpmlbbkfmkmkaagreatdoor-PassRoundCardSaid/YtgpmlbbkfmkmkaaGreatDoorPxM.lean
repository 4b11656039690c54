import Derived.Test.YtgpmlbbkfmkmkaaGreatDoorPxL
import Derived.Test.YtgpmlbbkfmkmkaaGreatDoorPxI
import Derived.Test.YtgpmlbbkfmkmkaaGreatDoorPxJ
import Derived.Test.YtgpmlbbkfmkmkaaGreatDoorPxK
import Derived.Test.YtgpmlbbkfmkmkaaGreatDoorPxH
set_option linter.all false
set_option maxRecDepth 10000
namespace Go.PX
open Go.RowKit
structure FnX {σ : Type} (P : Program) (Y : Hd σ) (f : FuncId) (args : List V) (h : Heap) (s : σ) (Q : V → Heap → σ → Prop) (X : Value → Heap → σ → Prop) : Prop where
 enter : ∀ (vs : Array Value) (w : World), (callFunc f vs).run P w = .ok (.enter f vs) w
 run : ∀ (cx : Cx σ), Handles P Y cx → ∀ (L : Loc) (F : Nat → Nat) (vals : Array Value) (w : World), HeapOk cx L F h s w → RepVL cx.yv L F w args vals.toList →
  CallsIn Fence.wide 0 P f vals w fun e w' => (∃ x, e = .returned x ∧ ∃ v h' s' L' F', Q v h' s' ∧ HeapOk cx L' F' h' s' w' ∧ RepV cx.yv L' F' w' v x ∧ Tr F w F' w' ∧ PinEq L L') ∨
   ∃ pv h' s' L' F', e = .panicked [{ v := pv, recovered := false }] ∧ X pv h' s' ∧ HeapOk cx L' F' h' s' w' ∧ Tr F w F' w' ∧ PinEq L L'
def FnXU (P : Program) (f : FuncId) (args : List V) (h : Heap) (Q : V → Heap → Prop) (X : Value → Heap → Prop) : Prop :=
 ∀ {σ : Type} (Y : Hd σ) (s : σ), FnX P Y f args h s (fun v h' s' => Q v h' ∧ s' = s) fun pv h' s' => X pv h' ∧ s' = s
def panY {σ : Type} (Y : Hd σ) (X : Value → Heap → σ → Prop) : Hd σ := { y := Y.y, p := fun pv _ h s => RetA [] h s fun _ h' s' => X pv h' s' }
section
variable {P : Program} {T : Tys} {σ : Type}
theorem leaves_marks_p {cx : Cx σ} {L : Loc} {F0 : Nat → Nat} {w0 : World} {h : Heap} {s : σ} {fn : Func} {tmps : Array Value} {R : Ending → World → Prop} {ch : List PanicEntry} : ∀ (m : List Nat) {F : Nat → Nat} {w : World}, HeapOk cx L F h s w → Tr F0 w0 F w →
  (∀ b ∈ m, w.heap[b]? = some (.deferred (some [])) ∧ ¬ cx.C s b) → m.Nodup → (∀ w', HeapOk cx L F h s w' → Tr F w F w' → R (.panicked ch) w') →
  LeavesInM Fence.wide 0 P fn tmps R (m.map mark) (.panicking ch) w
 | [], F, w, hh, tr, hm, hn, hR => by
  simp only [List.map_nil, LeavesInM, LeavesIn]
  exact hR w hh (Tr.refl F w)
 | b :: m, F, w, hh, tr, hm, hn, hR => by
  obtain ⟨hb, hC⟩ := hm b (List.mem_cons_self ..)
  obtain ⟨hh', tr'⟩ := hh.unmark hb hC
  simp only [List.map_cons, LeavesInM]
  refine ⟨by simp, .inl ⟨b, w.putObj b (.deferred none), rfl, ?_, ?_⟩⟩
  ·simp [Instr.takeDeferred, Sem.run_bind, getObj, setObj, Sem.run, hb, Result.andThen, World.putObj]
  ·have hnd := List.nodup_cons.1 hn
   refine leaves_marks_p m hh' (Tr.trans tr tr') (fun x hx => ?_) hnd.2 fun w' h1 h2 => hR w' h1 (Tr.trans tr' h2)
   have hxb : x ≠ b := by rintro rfl; exact hnd.1 hx
   refine ⟨?_, (hm x (List.mem_cons_of_mem _ hx)).2⟩
   rw [← (hm x (List.mem_cons_of_mem _ hx)).1]
   simp [World.putObj, Array.getElem?_setIfInBounds_ne (Ne.symm hxb)]
theorem fnX_of (hm : P.follows .mixedOrders = true) (hT : TysOk P T) {Y : Hd σ} {f : FuncId} {fn : Func} {c : Code} (hf : P.funcs[f]? = some fn) (hb : fn.body = some c) {ft : FT} {args : List V} (hok : fnB ft fn args.length = true)
  {h : Heap} {s : σ} {Q : V → Heap → σ → Prop} {X : Value → Heap → σ → Prop} (hw : wpA P T ft (panY Y X) c ⟨enterE 0 args, h, s⟩ (fnK T fn.results.toList Q)) : FnX P Y f args h s Q X := by
 unfold fnB at hok
 rw [hb] at hok
 simp only [Bool.and_eq_true, bne_iff_ne, ne_eq] at hok
 obtain ⟨⟨⟨⟨hcode, hdraws⟩, hnt⟩, hname⟩, hlen⟩ := hok
 have hnt := Nat.le_of_ble_eq_true hnt
 have hlen := Nat.le_of_ble_eq_true hlen
 refine ⟨fun vs w => by simp [callFunc, hf, hname, hb, Go.mark], fun cx hY L F vals w hh hr => ?_⟩
 have hvl : vals.size = args.length := by simpa using hr.length
 have hsz : (vals ++ Array.replicate (fn.ntmps - vals.size) undef).size = fn.ntmps := by simp; omega
 refine callsIn_of_wp_marks hf hb trivial ?_
 have hg : Good { cx with pρ := L.ρ, pκ := L.κ, base := [] } none [] L F ⟨enterE 0 args, h, s⟩ { tmps := vals ++ Array.replicate (fn.ntmps - vals.size) undef, defers := [] } w := by
  refine ⟨⟨hh.hg, hh.csz, hh.fresh, hh.obj, hh.own, hh.inj⟩, fun t v ht => ?_, rfl, (fun b hb => by cases hb), List.nodup_nil, (fun l hl => by cases hl), fun _ _ => ⟨rfl, rfl⟩, by rw [hsz]; exact hnt⟩
  obtain ⟨k, hk, hv⟩ := get_enter ht
  rw [Nat.zero_add] at hk; subst hk
  obtain ⟨x, hx, hrx⟩ := hr.get t hv
  refine ⟨x, ?_, hrx⟩
  have hlt : t < vals.size := by
   have := (List.getElem?_eq_some_iff.1 hx).1
   simpa using this
  rw [Array.getElem?_append_left hlt]
  simpa using hx
 have hY' : Handles P (panY Y X) { cx with pρ := L.ρ, pκ := L.κ, base := [] } := by
  refine ⟨?_, hY.laid⟩
  intro l hl args h s Q hy L' F' vals w hh' hr
  obtain ⟨fn, tmps, asg, body, h1, h2⟩ := hY.yld l hl args h s Q hy L' F' vals w ⟨hh'.hg, hh'.csz, hh'.fresh, hh'.obj, hh'.own, hh'.inj⟩ hr
  refine ⟨fn, tmps, asg, body, h1, h2.mono ?_⟩
  rintro e w' ⟨x, he, v, h', s', L'', F'', hq, hh'', rest⟩
  exact ⟨x, he, v, h', s', L'', F'', hq, ⟨hh''.hg, hh''.csz, hh''.fresh, hh''.obj, hh''.own, hh''.inj⟩, rest⟩
 have hwp := wpA_sound hT c (drawsB_spec hm hT hdraws) ⟨enterE 0 args, h, s⟩ _ hw _ hY' none [] L F _ w hg (by rw [hsz]; exact hcode)
 have hwp : c.wpIn Fence.wide 0 P _ { tmps := vals ++ Array.replicate (fn.ntmps - vals.size) undef, defers := [] } w := hwp
 refine wpIn_mono hwp fun ex a' w' hq => ?_
 rcases hq with ⟨e', st', m', L', F', rfl, hk, hg', tr, hs⟩ | ⟨pv, e', h', s', m', L', F', rfl, hy, hg', tr, hs⟩
 case inr =>
  show LeavesInM Fence.wide 0 P fn a'.tmps _ a'.defers (.panicking [{ v := pv, recovered := false }]) w'
  rw [hg'.dfr, List.append_nil]
  refine leaves_marks_p m' hg'.heap tr hg'.mks hg'.mnd fun w'' hh'' tr'' => ?_
  obtain ⟨hy⟩ := (show RetA [] h' s' (fun _ h' s' => X pv h' s') from hy)
  obtain ⟨v, h2, L2, F2, hx, hh2, _, tr2, pin2⟩ := hy cx L' F' [] w'' ⟨hh''.hg, hh''.csz, hh''.fresh, hh''.obj, hh''.own, hh''.inj⟩ rfl
  refine .inr ⟨pv, h2, s', L2, F2, rfl, hx, hh2, Tr.trans tr (Tr.trans tr'' tr2), fun i hi => ?_⟩
  obtain ⟨p1, p2⟩ := pin2 i hi
  obtain ⟨p3, p4⟩ := hg'.pin i hi
  exact ⟨p1.trans p3, p2.trans p4⟩
 have fin : fnK T fn.results.toList Q .normal st' → LeavesInM Fence.wide 0 P fn a'.tmps (fun e w' => (∃ x, e = .returned x ∧ ∃ v h' s' L' F', Q v h' s' ∧ HeapOk cx L' F' h' s' w' ∧ RepV cx.yv L' F' w' v x ∧ Tr F w F' w' ∧ PinEq L L') ∨
   ∃ pv h' s' L' F', e = .panicked [{ v := pv, recovered := false }] ∧ X pv h' s' ∧ HeapOk cx L' F' h' s' w' ∧ Tr F w F' w' ∧ PinEq L L') a'.defers .returning w' := by
  intro hk
  rw [hg'.dfr, List.append_nil]
  refine leaves_marks m' hg'.heap tr hg'.mks hg'.mnd fun w'' hh'' tr'' => ?_
  obtain ⟨e1, h1, s1⟩ := st'
  have hk : resK T e1 h1 fn.results.toList fun l => RetA l h1 s1 Q := hk
  obtain ⟨l, ⟨hret⟩, hrun⟩ := resK_t (P := P) hT hk
  have hg'' : Good { cx with pρ := L.ρ, pκ := L.κ, base := [] } none [] L' F' ⟨e1, h1, s1⟩ { a' with defers := [] } w'' := by
   refine ⟨hh'', fun t v ht => ?_, rfl, (fun b hb => by cases hb), List.nodup_nil, (fun l hl => by cases hl), hg'.pin, hg'.tsz⟩
   obtain ⟨x, hx, hrx⟩ := hg'.env t v ht
   exact ⟨x, hx, RepV.mono tr'' v x (fun _ _ => ⟨rfl, rfl⟩) hrx⟩
  obtain ⟨vals', hres, hrep⟩ := hrun hg''
  obtain ⟨v, h', L2, F2, hq, hh2, hr2, tr2, pin2⟩ := hret cx L' F' vals' w'' ⟨hh''.hg, hh''.csz, hh''.fresh, hh''.obj, hh''.own, hh''.inj⟩ hrep
  refine ⟨_, run_results hres, .inl ⟨_, rfl, v, h', s1, L2, F2, hq, hh2, hr2, Tr.trans tr (Tr.trans tr'' tr2), fun i hi => ?_⟩⟩
  obtain ⟨p1, p2⟩ := pin2 i hi
  obtain ⟨p3, p4⟩ := hg'.pin i hi
  exact ⟨p1.trans p3, p2.trans p4⟩
 cases e' with
 | normal => exact fin hk
 | ret => exact fin hk
 | exit i => exact hk.elim
def cutO (d : Option Nat) (e : Env) : Env :=
 match d with
 | some d => cut e d
 | none => e
theorem get_cutE : ∀ {e : Env} {d s : Nat} {v : V}, get (cut e d) s = some v → s ≠ d ∧ get e s = some v
 | [], _, _, _, h => by cases h
 | (k, u) :: r, d, s, v, h => by
  simp only [cut] at h
  split at h
  ·rename_i hk
   obtain ⟨h1, h2⟩ := get_cutE h
   refine ⟨h1, ?_⟩
   simp only [get]
   split
   ·rename_i hs
    have := Nat.eq_of_beq_eq_true hk
    have := Nat.eq_of_beq_eq_true hs
    omega
   ·exact h2
  ·rename_i hk
   simp only [get] at h ⊢
   split at h
   ·rename_i hs
    refine ⟨fun e => ?_, h⟩
    subst e
    rw [hs] at hk
    cases hk
   ·exact get_cutE h
theorem Good.unput {cx : Cx σ} {r : Option Nat} {m : List Nat} {L : Loc} {F : Nat → Nat} {e : Env} {h : Heap} {s : σ} {a : Act} {w : World} {d : Option Nat} {x : Value} (hg : Good cx r m L F ⟨e, h, s⟩ (a.put d x) w) : Good cx r m L F ⟨cutO d e, h, s⟩ a w := by
 refine ⟨hg.heap, fun t v ht => ?_, ?_, hg.mks, hg.mnd, hg.lk, hg.pin, ?_⟩
 ·cases d with
  | none => exact hg.env t v ht
  | some d =>
   obtain ⟨h1, h2⟩ := get_cutE ht
   obtain ⟨y, h3, h4⟩ := hg.env t v h2
   refine ⟨y, ?_, h4⟩
   rw [← h3]
   simp [Act.put, Array.getElem?_setIfInBounds_ne (Ne.symm h1)]
 ·have := hg.dfr
  cases d <;> exact this
 ·have := hg.tsz
  cases d <;> simpa [Act.put] using this
theorem CallA_x {Y : Hd σ} {f : FuncId} {args0 : List V} {h0 : Heap} {s : σ} {Q : V → Heap → σ → Prop} {X : Value → Heap → σ → Prop} (hf : FnX P Y f args0 h0 s Q X) (tb : List Nat) {e : Env} {h : Heap} {d : Option Nat} {args : List V} {K : St σ → Prop}
  (hargs : renL (callR tb (d.getD 0)) args0 = args) (hlent : lentOk (callR tb (d.getD 0)) h 1000000 tb h0) (htb : nodupB tb = true) (hln : Nat.ble tb.length 1000 = true)
  (hq : ∀ v h1 s', Q v h1 s' → callB tb d v h1 = true ∧ applyK (callWs tb d v h1) e h fun e h => K ⟨e, h, s'⟩)
  (hx : ∀ pv h1 s', X pv h1 s' → callB tb d (.d (.tup [])) h1 = true ∧ applyK (callWs tb d (.d (.tup [])) h1) e h fun e h => Y.p pv (cutO d e) h s') : CallA P Y ⟨e, h, s⟩ d f args K := by
 refine ⟨hf.enter, fun cx hY r m L F a w vals hg hd hr => ?_⟩
 have htb := nodupB_spec htb
 have hln := Nat.le_of_ble_eq_true hln
 obtain ⟨R, hR⟩ : ∃ R, R = callR tb (d.getD 0) := ⟨_, rfl⟩
 have Rlent : ∀ k id, tb[k]? = some id → R (1000000 + k) = id := fun k id hk => by rw [hR]; exact callR_lent hk hln
 rw [← hR] at hargs hlent
 subst hargs
 have hh : SubT h (St.mk e h s).heap := fun _ _ h => h
 have hH := heap_lent hh hlent Rlent htb hg
 have hH0 : HeapOk (lendCx cx s w F (LentB R L h0)) ⟨fun i => L.ρ (R i), fun i => L.κ (R i)⟩ F h0 s w :=
  ⟨⟨hg.heap.hg, Nat.le_refl _, fun b hb hc => hc, fun b hb hl hc => ⟨rfl, rfl⟩⟩, fun b hb => hb.elim (hg.heap.csz b) (fun h => h.1), hH.fresh, hH.obj, fun i o hi hbk => ⟨(hH.own i o hi hbk).1, fun hC => hC.elim (hH.own i o hi hbk).2 fun hC => hC.2 ⟨i, o, hi, hbk, rfl⟩⟩, hH.inj⟩
 have hargs' : RepVL cx.yv ⟨fun i => L.ρ (R i), fun i => L.κ (R i)⟩ F w args0 vals.toList := (RepVL.ren (R := R) args0 _ fun _ _ => ⟨rfl, rfl⟩).1 hr
 have hcall := hf.run _ (lendCx_handles hY) _ F vals w hH0 hargs'
 refine hcall.mono ?_
 rintro en w' (⟨x, rfl, v, h', s', L', F', hq', hH', hv, tr, pin⟩ | ⟨pv, h', s', L', F', rfl, hx', hH', tr, pin⟩)
 ·obtain ⟨hB, hk⟩ := hq _ _ _ hq'
  obtain ⟨hHG, _, hCn, hkeep⟩ := hH'.hg
  obtain ⟨L2, hg2⟩ := good_after hB hR.symm hh hlent hg hd hHG (fun b hb => hH'.csz b (.inl hb)) (fun b hb hl hc => hCn b hb hc) hkeep hH'.fresh hH'.obj
   (fun i o hi hb => ⟨(hH'.own i o hi hb).1, fun hC => (hH'.own i o hi hb).2 (.inl hC), fun hlt => Classical.byContradiction fun hl => (hH'.own i o hi hb).2 (.inr ⟨hlt, hl⟩)⟩)
   hH'.inj hv tr pin
  rw [applyK_eq s'] at hk
  have hs2 : (applyWs (⟨e, h, s'⟩ : St σ) (callWs tb d v h')).s = s' := applyWs_s _ _
  refine .inl ⟨x, rfl, _, L2, F', ?_, hg2, tr⟩
  generalize applyWs (⟨e, h, s'⟩ : St σ) (callWs tb d v h') = st2 at hk hs2
  obtain ⟨e2, h2, s2⟩ := st2
  simp only at hs2
  subst hs2
  exact hk
 ·obtain ⟨hB, hk⟩ := hx _ _ _ hx'
  obtain ⟨hHG, _, hCn, hkeep⟩ := hH'.hg
  obtain ⟨L2, hg2⟩ := good_after (v := .d (.tup [])) (x := .tuple #[]) hB hR.symm hh hlent hg hd hHG (fun b hb => hH'.csz b (.inl hb)) (fun b hb hl hc => hCn b hb hc) hkeep hH'.fresh hH'.obj
   (fun i o hi hb => ⟨(hH'.own i o hi hb).1, fun hC => (hH'.own i o hi hb).2 (.inl hC), fun hlt => Classical.byContradiction fun hl => (hH'.own i o hi hb).2 (.inr ⟨hlt, hl⟩)⟩)
   hH'.inj ⟨#[], rfl, rfl⟩ tr pin
  rw [applyK_eq s'] at hk
  have hs2 : (applyWs (⟨e, h, s'⟩ : St σ) (callWs tb d (.d (.tup [])) h')).s = s' := applyWs_s _ _
  generalize applyWs (⟨e, h, s'⟩ : St σ) (callWs tb d (.d (.tup [])) h') = st2 at hk hs2 hg2
  obtain ⟨e2, h2, s2⟩ := st2
  simp only at hs2
  subst hs2
  exact .inr ⟨pv, cutO d e2, h2, s2, L2, F', rfl, hk, hg2.unput, tr⟩
end
end Go.PX
namespace Go.PX
open Go.Proofs
open Go.RowKit
def pan6 : Value := .iface 27 (.int .i64 6)
theorem FnU.ofX {P : Program} {f : FuncId} {args : List V} {h : Heap} {Q : V → Heap → Prop} {X : Value → Heap → Prop} (hf : FnXU P f args h Q X) (hx : ∀ v h, ¬ X v h) : FnU P f args h Q := by
 intro σ Y s
 obtain ⟨h1, h2⟩ := hf Y s
 refine ⟨h1, fun cx hY L F vals w hh hr => (h2 cx hY L F vals w hh hr).mono ?_⟩
 rintro e w' (h3 | ⟨pv, h', s', L', F', he, hx', _⟩)
 ·exact h3
 ·exact absurd hx'.1 (hx _ _)
theorem pa96 (b : Bool) : FnXU Tryz.prog 96 [.d (.bool b)] [] (fun v h' => b = true ∧ v = .d (.tup []) ∧ h' = []) (fun pv h' => b = false ∧ pv = pan6 ∧ h' = []) := by
 intro σ Y st
 refine fnX_of mixed tysOk Tryz.func96 rfl (ft := ft96) (args := [.d (.bool b)]) (show fnB ft96 Tryz.f96 1 = true from by decide +kernel) ?_
 cases b with
 | true =>
  conv=>whnf
  exact RetA_hand [] [] [] rfl trivial rfl ⟨⟨rfl, rfl, rfl⟩, rfl⟩
 | false =>
  conv=>whnf
  exact RetA_hand [] [] [] rfl trivial rfl ⟨⟨rfl, rfl, rfl⟩, rfl⟩
theorem must_i {σ : Type} {Y : Hd σ} {e : Env} {h : Heap} {s : σ} {d : Option Nat} {b : Bool} {K : St σ → Prop} (hd : callB [] d (.d (.tup [])) [] = true)
  (ht : b = true → applyK (callWs [] d (.d (.tup [])) []) e h fun e h => K ⟨e, h, s⟩) (hf : b = false → applyK (callWs [] d (.d (.tup [])) []) e h fun e h => Y.p pan6 (cutO d e) h s) : CallA Tryz.prog Y ⟨e, h, s⟩ d 96 [.d (.bool b)] K := by
 refine CallA_x (pa96 b Y s) [] rfl rfl rfl rfl ?_ ?_
 ·rintro v h1 s' ⟨⟨hb, rfl, rfl⟩, rfl⟩
  exact ⟨hd, ht hb⟩
 ·rintro pv h1 s' ⟨⟨hb, rfl, rfl⟩, rfl⟩
  exact ⟨hd, hf hb⟩
def satX (s : ByteArray) : Int :=
 match Lib.atoiAll s.data.toList with
 | .range => Lib.atoiSat s.data.toList
 | _ => 0
theorem pa125_bad (s : ByteArray) (hs : s.size ≤ 1000000000) (h : atoiX s = none) : FnV Tryz.prog 125 [.str s] (.tup [i64 (satX s), .ifc 218 (.ref [])]) := by
 refine fnV_calls (enters Tryz.func125 rfl (by decide +kernel)) fun vals w F hl hf hr => ?_
 rw [str_vals hr]
 obtain ⟨t1, v1, hs1⟩ := hl.syn 1 (by kernel_rfl)
 obtain ⟨t2, v2, hs2⟩ := hl.rng 2 (by kernel_rfl)
 rcases hA : Lib.atoiAll s.data.toList with v | _ | _
 ·unfold atoiX at h
  rw [hA] at h
  cases h
 ·have hsat : satX s = 0 := by unfold satX; rw [hA]
  rw [hsat]
  refine (Any.strconv_Atoi_syntax Tryz.laysC172 s (by omega) hA _ w hs1 (.inr ⟨_, _, rfl⟩)).mono ?_
  rintro e w' ⟨N, rfl, hN, hblk, hb⟩
  exact ⟨_, rfl, Grown.of hb, F, fun _ _ => rfl, fun b hb' => hf b (Nat.le_trans hb.size hb'), _, rfl, _, _, rfl, rfl, _, _, rfl, ⟨_, rfl, _, _, rfl, trivial⟩, rfl⟩
 ·have hsat : satX s = Lib.atoiSat s.data.toList := by unfold satX; rw [hA]
  rw [hsat]
  refine (Any.strconv_Atoi_range Tryz.laysC172 s (by omega) hA _ w hs2 (.inr ⟨_, _, rfl⟩)).mono ?_
  rintro e w' ⟨N, rfl, hN, hblk, hb⟩
  exact ⟨_, rfl, Grown.of hb, F, fun _ _ => rfl, fun b hb' => hf b (Nat.le_trans hb.size hb'), _, rfl, _, _, rfl, rfl, _, _, rfl, ⟨_, rfl, _, _, rfl, trivial⟩, rfl⟩
theorem pa97 (s : ByteArray) (hs : s.size ≤ 1000000000) : FnXU Tryz.prog 97 [.d (.str s)] [] (fun v h' => ∃ n, atoiX s = some n ∧ v = .d (i64 n) ∧ h' = []) (fun pv h' => atoiX s = none ∧ pv = pan6 ∧ h' = []) := by
 intro σ Y st
 refine fnX_of mixed tysOk Tryz.func97 rfl (ft := ft97) (args := [.d (.str s)]) (show fnB ft97 Tryz.f97 1 = true from by decide +kernel) ?_
 conv=>whnf
 cases hA : atoiX s with
 | some n =>
  refine CallA_v (pa125 s n hs hA) rfl rfl ?_
  conv=>whnf
  refine must_i rfl (fun _ => ?_) (fun h => by cases h)
  conv=>whnf
  exact RetA_hand [] [.d (i64 n)] [] rfl trivial rfl ⟨⟨n, rfl, rfl, rfl⟩, rfl⟩
 | none =>
  refine CallA_v (pa125_bad s hs hA) rfl rfl ?_
  conv=>whnf
  refine must_i rfl (fun h => by cases h) (fun _ => ?_)
  conv=>whnf
  exact RetA_hand [] [] [] rfl trivial rfl ⟨⟨rfl, rfl, rfl⟩, rfl⟩
end Go.PX
namespace Go.PX
open Go.Proofs
def spB : ByteArray := ⟨#[32]⟩
def nlB : ByteArray := ⟨#[10]⟩
inductive Wd where
 | s (b : ByteArray)
 | n (k : Int)
def Wd.d : Wd → D
 | .s b => .ifc 9 (.str b)
 | .n k => .ifc 3 (i64 k)
def Wd.b : Wd → ByteArray
 | .s b => b
 | .n k => numB k
def tailW : List Wd → ByteArray
 | [] => .empty
 | w :: r => (spB ++ w.b) ++ tailW r
def wordsW : List Wd → ByteArray
 | [] => .empty
 | w :: r => w.b ++ tailW r
def rowT (l : List Wd) : ByteArray := wordsW l ++ nlB
def wdsD (l : List Wd) : D := .vs (l.map fun w => [w.d])
def WdOk : Wd → Prop
 | .s b => b.size ≤ 1000
 | .n k => -1000000000000000000 ≤ k ∧ k ≤ 1000000000000000000
theorem ba_assoc (a b c : ByteArray) : a ++ b ++ c = a ++ (b ++ c) := by simp [ByteArray.append_assoc]
theorem ba_size (a b : ByteArray) : (a ++ b).size = a.size + b.size := by simp
theorem ba_nil (a : ByteArray) : a ++ ByteArray.empty = a := by simp
theorem wd_size {w : Wd} (h : WdOk w) : w.b.size ≤ 1000 := by
 cases w with
 | s b => exact h
 | n k => have := numB_size k; show (numB k).size ≤ 1000; omega
theorem tail_size : ∀ {l : List Wd}, (∀ w ∈ l, WdOk w) → (tailW l).size ≤ 1001 * l.length
 | [], _ => Nat.zero_le _
 | w :: r, h => by
  have h1 := tail_size (l := r) fun x hx => h x (List.mem_cons_of_mem _ hx)
  have h2 := wd_size (h w (List.mem_cons_self ..))
  have h3 : spB.size = 1 := rfl
  rw [tailW, ba_size, ba_size, List.length_cons]
  omega
theorem pa118_sp (b : ByteArray) (h0 : 0 < b.size) (hm : b.size + 1 ≤ 140737488355328) : FnU Tryz.prog 118 [.ptr 1000000 0, .d (.int .u8 32)] (bldU 1000000 1000001 b) fun v h' => v = .d .nili ∧ h' = bldU 1000000 2000000 (b ++ ⟨#[32]⟩) := by
 intro σ Y st
 refine fnC_of mixed tysOk Tryz.func118 rfl (ft := ft118) (args := [.ptr 1000000 0, .d (.int .u8 32)]) (show fnB ft118 Tryz.f118 2 = true from by decide +kernel) ?_
 conv=>whnf
 refine CallA_fn (pa130_used b) [1000000, 1000001] rfl ⟨_, _, rfl, rfl, _, _, rfl, rfl, rfl⟩ rfl ?_
 conv=>whnf
 refine chk_i (by simp [h0]; exact hm) ?_
 conv=>whnf
 exact RetA_hand [14] [.d .nili] (bldU 1000000 2000000 (b ++ ⟨#[32]⟩)) rfl ⟨rfl, rfl, trivial⟩ rfl ⟨⟨rfl, rfl⟩, rfl⟩
theorem pa117 (b : ByteArray) (h0 : 0 < b.size) (l : List Wd) (hl : l.length ≤ 10) (hw : ∀ w ∈ l, WdOk w) (hb : b.size ≤ 1000000000) (hne : l ≠ []) :
  FnU Tryz.prog 117 [.d (wdsD l), .ptr 1000000 0] (bldU 1000000 1000001 b) fun v h' => v = .d (.tup []) ∧ h' = bldU 1000000 2000000 (b ++ rowT l) := by
 intro σ Y st
 refine fnC_of mixed tysOk Tryz.func117 rfl (ft := ft117) (args := [.d (wdsD l), .ptr 1000000 0]) (show fnB ft117 Tryz.f117 2 = true from by decide +kernel) ?_
 conv=>whnf
 generalize hT : b ++ wordsW l = tot
 have hts : tot.size ≤ 1000020000 := by
  rw [← hT, ba_size]
  cases l with
  | nil => exact absurd rfl hne
  | cons w r =>
   have h1 := wd_size (hw w (List.mem_cons_self ..))
   have h2 := tail_size fun x hx => hw x (List.mem_cons_of_mem w hx)
   rw [wordsW, ba_size]
   rw [List.length_cons] at hl
   omega
 refine LoopA_i (T := tys) tysOk (by exact drawsB_spec mixed tysOk (by decide +kernel)) l (fun i (acc : ByteArray) => ⟨[(1, .ptr 1000000 0), (7, .d (wdsD l)), (8, .d (i64 l.length)), (9, .d (i64 i))], bldU 1000000 900000 acc, st⟩) (fun i r acc => acc ++ (if i = 0 then wordsW r else tailW r) = tot ∧ 0 < acc.size) b ?_ ⟨hT, h0⟩ ?_ ?_
 ·exact (Wk.move 1000001 900000 rfl rfl).trans (Wk.sub (by repeat' first|exact trivial|refine⟨?_,?_⟩|rfl|(simp only[List.length_map];rfl)|simp[PX.get]) (by repeat' first|exact trivial|refine⟨?_,?_⟩|rfl|(simp only[List.length_map];rfl)|simp[PX.get]))
 ·rintro i w r acc hx hi hir ⟨hacc, ha⟩
  have hwo := hw w (List.mem_of_getElem? hx)
  have hws := wd_size hwo
  have hras : acc.size ≤ tot.size := by rw [← hacc, ba_size]; omega
  conv=>whnf
  refine brk_i (fun _ => ?_) (fun h => absurd hi (by simpa using h))
  conv=>whnf
  refine elemK_nat hx ?_
  conv=>whnf
  refine brk_i (fun h1 => ?_) (fun h1 => ?_)
  ·have h1 : 0 < i := by have := of_decide_eq_true h1; omega
   rw [if_neg (by omega), tailW] at hacc
   conv=>whnf
   refine CallA.wkK ?_
   refine CallA_fn (pa118_sp acc ha (by omega)) [1000000, 900000] rfl ⟨_, _, rfl, rfl, _, _, rfl, rfl, rfl⟩ rfl ?_
   refine ⟨⟨[(1, .ptr 1000000 0), (7, .d (wdsD l)), (8, .d (i64 l.length)), (9, .d (i64 i)), (3, .d (i64 i)), (4, .d w.d)], bldU 1000000 900000 (acc ++ (⟨#[32]⟩ : ByteArray)), st⟩, (Wk.move 101024 900000 rfl rfl).trans (Wk.sub (by repeat' first|exact trivial|refine⟨?_,?_⟩|rfl|(simp only[List.length_map];rfl)|simp[PX.get]) (by repeat' first|exact trivial|refine⟨?_,?_⟩|rfl|(simp only[List.length_map];rfl)|simp[PX.get])), ?_⟩
   cases w with
   | s x =>
    have hws : x.size ≤ 1000 := hws
    conv=>whnf
    refine CallA_fn (pa119 (acc ++ (⟨#[32]⟩ : ByteArray)) x (by rw [ba_size]; omega) (by have : (⟨#[32]⟩ : ByteArray).size = 1 := rfl; rw [ba_size]; omega)) [1000000, 900000] rfl ⟨_, _, rfl, rfl, _, _, rfl, rfl, rfl⟩ rfl ?_
    conv=>whnf
    refine arith_to (((i + 1 : Nat) : Int)) (by (try dsimp only); omega) (wrap_i64 (by (try dsimp only); omega)) ?_
    conv=>whnf
    exact ⟨(acc ++ (⟨#[32]⟩ : ByteArray)) ++ x, ⟨by rw [← hacc, if_neg (by omega)]; simp only [ba_assoc]; rfl, by simp only [ba_size]; omega⟩, (Wk.move 101408 900000 rfl rfl).trans (Wk.sub (by repeat' first|exact trivial|refine⟨?_,?_⟩|rfl|(simp only[List.length_map];rfl)|simp[PX.get]) (by repeat' first|exact trivial|refine⟨?_,?_⟩|rfl|(simp only[List.length_map];rfl)|simp[PX.get]))⟩
   | n k =>
    have hws : (numB k).size ≤ 1000 := hws
    conv=>whnf
    refine CallA_v (pa120 k hwo) rfl rfl ?_
    conv=>whnf
    refine CallA_fn (pa119 (acc ++ (⟨#[32]⟩ : ByteArray)) (numB k) (by rw [ba_size]; omega) (by have : (⟨#[32]⟩ : ByteArray).size = 1 := rfl; rw [ba_size]; omega)) [1000000, 900000] rfl ⟨_, _, rfl, rfl, _, _, rfl, rfl, rfl⟩ rfl ?_
    conv=>whnf
    refine arith_to (((i + 1 : Nat) : Int)) (by (try dsimp only); omega) (wrap_i64 (by (try dsimp only); omega)) ?_
    conv=>whnf
    exact ⟨(acc ++ (⟨#[32]⟩ : ByteArray)) ++ numB k, ⟨by rw [← hacc, if_neg (by omega)]; simp only [ba_assoc]; rfl, by simp only [ba_size]; omega⟩, (Wk.move 101792 900000 rfl rfl).trans (Wk.sub (by repeat' first|exact trivial|refine⟨?_,?_⟩|rfl|(simp only[List.length_map];rfl)|simp[PX.get]) (by repeat' first|exact trivial|refine⟨?_,?_⟩|rfl|(simp only[List.length_map];rfl)|simp[PX.get]))⟩
  ·have h1 : i = 0 := by have := of_decide_eq_false h1; omega
   subst h1
   rw [if_pos rfl, wordsW] at hacc
   cases w with
   | s x =>
    have hws : x.size ≤ 1000 := hws
    conv=>whnf
    refine CallA_fn (pa119 acc x ha (by omega)) [1000000, 900000] rfl ⟨_, _, rfl, rfl, _, _, rfl, rfl, rfl⟩ rfl ?_
    conv=>whnf
    refine arith_to (((0 + 1 : Nat) : Int)) (by (try dsimp only); omega) (wrap_i64 (by (try dsimp only); omega)) ?_
    conv=>whnf
    exact ⟨acc ++ x, ⟨by rw [← hacc, if_neg (by omega)]; simp only [ba_assoc]; rfl, by simp only [ba_size]; omega⟩, (Wk.move 101408 900000 rfl rfl).trans (Wk.sub (by repeat' first|exact trivial|refine⟨?_,?_⟩|rfl|(simp only[List.length_map];rfl)|simp[PX.get]) (by repeat' first|exact trivial|refine⟨?_,?_⟩|rfl|(simp only[List.length_map];rfl)|simp[PX.get]))⟩
   | n k =>
    have hws : (numB k).size ≤ 1000 := hws
    conv=>whnf
    refine CallA_v (pa120 k hwo) rfl rfl ?_
    conv=>whnf
    refine CallA_fn (pa119 acc (numB k) ha (by omega)) [1000000, 900000] rfl ⟨_, _, rfl, rfl, _, _, rfl, rfl, rfl⟩ rfl ?_
    conv=>whnf
    refine arith_to (((0 + 1 : Nat) : Int)) (by (try dsimp only); omega) (wrap_i64 (by (try dsimp only); omega)) ?_
    conv=>whnf
    exact ⟨acc ++ numB k, ⟨by rw [← hacc, if_neg (by omega)]; simp only [ba_assoc]; rfl, by simp only [ba_size]; omega⟩, (Wk.move 101792 900000 rfl rfl).trans (Wk.sub (by repeat' first|exact trivial|refine⟨?_,?_⟩|rfl|(simp only[List.length_map];rfl)|simp[PX.get]) (by repeat' first|exact trivial|refine⟨?_,?_⟩|rfl|(simp only[List.length_map];rfl)|simp[PX.get]))⟩
 ·rintro acc ⟨hacc, ha⟩
  have hacc : acc = tot := by
   rw [← hacc]
   split <;> simp [wordsW, tailW]
  subst hacc
  conv=>whnf
  refine brk_i (fun h => absurd h (by simp)) (fun _ => ?_)
  conv=>whnf
  refine CallA_fn (pa118 acc ha (by omega)) [1000000, 900000] rfl ⟨_, _, rfl, rfl, _, _, rfl, rfl, rfl⟩ rfl ?_
  conv=>whnf
  have he : b ++ rowT l = acc ++ nlB := by rw [rowT, ← ba_assoc, hT]
  rw [he]
  exact RetA_hand [101920] [] (bldU 1000000 2000000 (acc ++ nlB)) rfl ⟨rfl, rfl, trivial⟩ rfl ⟨⟨rfl, rfl⟩, rfl⟩
end Go.PX
namespace Go.PX
open Go.Proofs
def bldM (acc : Option ByteArray) : Heap := match acc with
 | none => bldN 1000000
 | some b => bldU 1000000 900000 b
theorem pa117_new (x : ByteArray) (hx0 : 0 < x.size) (l : List Wd) (hl : l.length ≤ 9) (hw : ∀ w ∈ Wd.s x :: l, WdOk w) :
  FnU Tryz.prog 117 [.d (wdsD (.s x :: l)), .ptr 1000000 0] (bldN 1000000) fun v h' => v = .d (.tup []) ∧ h' = bldU 1000000 2000000 (rowT (.s x :: l)) := by
 intro σ Y st
 refine fnC_of mixed tysOk Tryz.func117 rfl (ft := ft117) (args := [.d (wdsD (.s x :: l)), .ptr 1000000 0]) (show fnB ft117 Tryz.f117 2 = true from by decide +kernel) ?_
 conv=>whnf
 generalize hT : wordsW (.s x :: l) = tot
 generalize hL : Wd.s x :: l = L at hw
 have hLl : L.length ≤ 10 := by rw [← hL, List.length_cons]; omega
 have hL0 : L[0]? = some (.s x) := by rw [← hL]; rfl
 have hts : tot.size ≤ 1000020000 := by
  rw [← hT]
  have h1 := wd_size (hw (.s x) (by rw [← hL]; simp))
  have h2 := tail_size (l := l) fun y hy => hw y (by rw [← hL]; simp [hy])
  rw [wordsW, ba_size]
  omega
 have hrow : rowT L = tot ++ nlB := by rw [← hL, rowT, hT]
 have hstart : x ++ tailW (L.drop 1) = tot := by rw [← hL, ← hT]; rfl
 rw [hrow]
 refine LoopA_p (T := tys) tysOk (by exact drawsB_spec mixed tysOk (by decide +kernel)) (α := Nat × Option ByteArray) (fun z => ⟨[(1, .ptr 1000000 0), (7, .d (wdsD L)), (8, .d (i64 L.length)), (9, .d (i64 z.1))], bldM z.2, st⟩) (fun z => z.1 ≤ L.length ∧ match z.2 with
  | none => z.1 = 0
  | some acc => 0 < z.1 ∧ acc ++ tailW (L.drop z.1) = tot ∧ 0 < acc.size) (fun z => L.length - z.1) (0, none) ?_ ⟨Nat.zero_le _, rfl⟩ ?_
 ·exact Wk.sub ⟨rfl, rfl, congrArg (fun z : Nat => some (V.d (i64 z))) (by simp), rfl, trivial⟩ ⟨rfl, trivial⟩
 rintro ⟨i, o⟩ ⟨hi, hacc⟩
 cases o with
 | none =>
  have hi0 : i = 0 := hacc
  have hLi : L[i]? = some (.s x) := by rw [hi0]; exact hL0
  have hil := (List.getElem?_eq_some_iff.1 hLi).1
  have hws : x.size ≤ 1000 := wd_size (hw (.s x) (List.mem_of_getElem? hL0))
  have hstart2 : x ++ tailW (L.drop (i + 1)) = tot := by rw [hi0]; exact hstart
  conv=>whnf
  refine brk_i (fun _ => ?_) (fun h => absurd hil (by simpa using h))
  conv=>whnf
  refine elemK_nat hLi ?_
  conv=>whnf
  refine brk_i (fun h => absurd h (by simp; omega)) (fun _ => ?_)
  conv=>whnf
  refine CallA_fn (pa119_new x hx0 (by omega)) [1000000] rfl ⟨_, _, rfl, rfl, rfl⟩ rfl ?_
  conv=>whnf
  refine arith_to (((i + 1 : Nat) : Int)) (by (try dsimp only); omega) (wrap_i64 (by (try dsimp only); omega)) ?_
  conv=>whnf
  exact ⟨(i + 1, some x), by simp only; omega, ⟨by simp only; omega, Nat.succ_pos i, hstart2, hx0⟩, (Wk.move 101408 900000 rfl rfl).trans (Wk.sub (by repeat' first|exact trivial|refine⟨?_,?_⟩|rfl|(simp only[List.length_map];rfl)|simp[PX.get]) (by repeat' first|exact trivial|refine⟨?_,?_⟩|rfl|(simp only[List.length_map];rfl)|simp[PX.get]))⟩
 | some acc =>
  obtain ⟨h0, hacc, ha⟩ := hacc
  simp only at h0 hacc ha hi
  have hras : acc.size ≤ tot.size := by rw [← hacc, ba_size]; omega
  conv=>whnf
  refine brk_i (fun h1 => ?_) (fun h1 => ?_)
  ·have h1 : i < L.length := by have := of_decide_eq_true h1; omega
   obtain ⟨w, hx⟩ : ∃ w, L[i]? = some w := ⟨_, List.getElem?_eq_getElem h1⟩
   have hdr : L.drop i = w :: L.drop (i + 1) := by
    rw [List.drop_eq_getElem_cons h1]
    rw [List.getElem?_eq_getElem h1] at hx
    rw [Option.some.inj hx]
   rw [hdr, tailW] at hacc
   have hwo := hw w (List.mem_of_getElem? hx)
   have hws := wd_size hwo
   conv=>whnf
   refine elemK_nat hx ?_
   conv=>whnf
   refine brk_i (fun _ => ?_) (fun h => absurd h (by simp; omega))
   conv=>whnf
   refine CallA.wkK ?_
   refine CallA_fn (pa118_sp acc ha (by omega)) [1000000, 900000] rfl ⟨_, _, rfl, rfl, _, _, rfl, rfl, rfl⟩ rfl ?_
   refine ⟨⟨[(1, .ptr 1000000 0), (7, .d (wdsD L)), (8, .d (i64 L.length)), (9, .d (i64 i)), (3, .d (i64 i)), (4, .d w.d)], bldU 1000000 900000 (acc ++ (⟨#[32]⟩ : ByteArray)), st⟩, (Wk.move 101024 900000 rfl rfl).trans (Wk.sub (by repeat' first|exact trivial|refine⟨?_,?_⟩|rfl|(simp only[List.length_map];rfl)|simp[PX.get]) (by repeat' first|exact trivial|refine⟨?_,?_⟩|rfl|(simp only[List.length_map];rfl)|simp[PX.get])), ?_⟩
   cases w with
   | s y =>
    have hws : y.size ≤ 1000 := hws
    conv=>whnf
    refine CallA_fn (pa119 (acc ++ (⟨#[32]⟩ : ByteArray)) y (by rw [ba_size]; omega) (by have : (⟨#[32]⟩ : ByteArray).size = 1 := rfl; rw [ba_size]; omega)) [1000000, 900000] rfl ⟨_, _, rfl, rfl, _, _, rfl, rfl, rfl⟩ rfl ?_
    conv=>whnf
    refine arith_to (((i + 1 : Nat) : Int)) (by (try dsimp only); omega) (wrap_i64 (by (try dsimp only); omega)) ?_
    conv=>whnf
    exact ⟨(i + 1, some ((acc ++ (⟨#[32]⟩ : ByteArray)) ++ y)), by simp only; omega, ⟨by simp only; omega, by simp only; omega, by rw [← hacc]; simp only [ba_assoc]; rfl, by simp only [ba_size]; omega⟩, (Wk.move 101408 900000 rfl rfl).trans (Wk.sub (by repeat' first|exact trivial|refine⟨?_,?_⟩|rfl|(simp only[List.length_map];rfl)|simp[PX.get]) (by repeat' first|exact trivial|refine⟨?_,?_⟩|rfl|(simp only[List.length_map];rfl)|simp[PX.get]))⟩
   | n k =>
    have hws : (numB k).size ≤ 1000 := hws
    conv=>whnf
    refine CallA_v (pa120 k hwo) rfl rfl ?_
    conv=>whnf
    refine CallA_fn (pa119 (acc ++ (⟨#[32]⟩ : ByteArray)) (numB k) (by rw [ba_size]; omega) (by have : (⟨#[32]⟩ : ByteArray).size = 1 := rfl; rw [ba_size]; omega)) [1000000, 900000] rfl ⟨_, _, rfl, rfl, _, _, rfl, rfl, rfl⟩ rfl ?_
    conv=>whnf
    refine arith_to (((i + 1 : Nat) : Int)) (by (try dsimp only); omega) (wrap_i64 (by (try dsimp only); omega)) ?_
    conv=>whnf
    exact ⟨(i + 1, some ((acc ++ (⟨#[32]⟩ : ByteArray)) ++ numB k)), by simp only; omega, ⟨by simp only; omega, by simp only; omega, by rw [← hacc]; simp only [ba_assoc]; rfl, by simp only [ba_size]; omega⟩, (Wk.move 101792 900000 rfl rfl).trans (Wk.sub (by repeat' first|exact trivial|refine⟨?_,?_⟩|rfl|(simp only[List.length_map];rfl)|simp[PX.get]) (by repeat' first|exact trivial|refine⟨?_,?_⟩|rfl|(simp only[List.length_map];rfl)|simp[PX.get]))⟩
  ·have h1 : ¬ i < L.length := by have := of_decide_eq_false h1; omega
   rw [List.drop_eq_nil_of_le (by omega)] at hacc
   have hacc : acc = tot := by rw [← hacc]; simp [tailW]
   subst hacc
   conv=>whnf
   refine CallA_fn (pa118 acc ha (by omega)) [1000000, 900000] rfl ⟨_, _, rfl, rfl, _, _, rfl, rfl, rfl⟩ rfl ?_
   conv=>whnf
   exact RetA_hand [101920] [] (bldU 1000000 2000000 (acc ++ nlB)) rfl ⟨rfl, rfl, trivial⟩ rfl ⟨⟨rfl, rfl⟩, rfl⟩
end Go.PX
namespace Go.PX
open Go.Proofs
theorem check_book {l : PLog} (h : checkN l = 0) {b : PBook} (hb : b ∈ l.books) : (-720 ≤ b.off.lo ∧ b.off.lo ≤ b.off.hi ∧ b.off.hi ≤ 720) ∧ (-720 ≤ b.set.lo ∧ b.set.lo ≤ b.set.hi ∧ b.set.hi ≤ 720) ∧ b.ents.length ≤ 8 ∧ ∀ x ∈ b.ents, EntR x := by
 obtain ⟨h1, h2, h3⟩ := check_iff.1 h
 obtain ⟨k, hk⟩ := List.getElem?_of_mem hb
 obtain ⟨h4, h5⟩ := h3 k b hk
 have h4 := headE_iff.1 h4
 exact ⟨h4.off, h4.set, h4.ents, fun x hx => entE_iff.1 (h5 x hx)⟩
end Go.PX
namespace Go.PX
open Go.Proofs
def stepsC (l : List PStep) : List (List D) := l.map stepC
def persC (l : List (List Per)) : List (List D) := l.map fun r => [.vs (r.map Per.cells)]
def lkH (l : PLog) (wider : Int) (K : Nat) (steps : List PStep) (pers : List (List Per)) (many : Int) : Heap :=
 [(1000000, .box (.vv [.ptr 1000002 0])), (1000001, .box (.dd [i64 wider])), (1000002, .box (.vv [.d (i64 l.near), .d (booksD l.books), .sl K 5 0 steps.length, .sl 1000004 1 0 pers.length, .d (i64 many)])), (K, .arr 5 (.dd (stepsC steps))), (1000004, .arr 1 (.dd (persC pers)))]
theorem pa112 (l : PLog) (wider : Int) (hw : 0 ≤ wider ∧ wider ≤ 1048576) (steps : List PStep) (hs : steps.length ≤ 1000) (pers : List (List Per)) (many : Int) (hm : 0 ≤ many ∧ many ≤ 1000) (p : Per) (s : Span) (hsp : -720 ≤ s.lo ∧ s.lo ≤ s.hi ∧ s.hi ≤ 720) :
  FnU Tryz.prog 112 [.d p.d, .d s.d, .ptr 1000000 0, .ptr 1000001 0] (lkH l wider 1000003 steps pers many) fun v h' => v = .d (.tup []) ∧ h' = lkH l wider 2000000 (steps ++ spanS wider p s) pers (many + 1) := by
 intro σ Y st
 refine fnC_of mixed tysOk Tryz.func112 rfl (ft := ft112) (args := [.d p.d, .d s.d, .ptr 1000000 0, .ptr 1000001 0]) (show fnB ft112 Tryz.f112 4 = true from by decide +kernel) ?_
 conv=>whnf
 refine arith_in (wrap_i64 (by (try dsimp only); omega)) ?_
 conv=>whnf
 refine DrawCall_v (ds := []) pa70 rfl rfl ?_
 conv=>whnf
 refine arith_in (wrap_i64 (by (try dsimp only); omega)) ?_
 conv=>whnf
 refine DrawCall_v (ds := []) pa70 rfl rfl ?_
 conv=>whnf
 refine arith_in (wrap_i64 (by (try dsimp only); omega)) ?_
 conv=>whnf
 refine ownK_whole rfl ?_
 conv=>whnf
 refine ownK_whole (by simp [Els.len, stepsC]) ?_
 conv=>whnf
 refine chk_i (decide_eq_true (by
  show ((stepsC steps).length + 2) * 40 ≤ 140737488355328
  simp [stepsC]; omega)) ?_
 conv=>whnf
 have e1 : stepsC (steps ++ spanS wider p s) = stepsC steps ++ [[i64 (-1), i64 0, i64 p.book, i64 p.n, i64 (s.hi + wider)], [i64 p.book, i64 p.n, i64 (-1), i64 0, i64 (wider - s.lo)]] := by
  unfold stepsC
  rw [List.map_append]; rfl
 have e2 : (steps ++ spanS wider p s).length = (stepsC steps).length + 2 := by simp [stepsC, spanS]
 refine RetA_hand [33] [] [(1000000, .box (.vv [.ptr 1000002 0])), (1000001, .box (.dd [i64 wider])), (1000002, .box (.vv [.d (i64 l.near), .d (booksD l.books), .sl 2000000 5 0 ((stepsC steps).length + 2), .sl 1000004 1 0 pers.length, .d (i64 (many + 1))])), (2000000, .arr 5 (.dd (stepsC steps ++ [[i64 (-1), i64 0, i64 p.book, i64 p.n, i64 (s.hi + wider)], [i64 p.book, i64 p.n, i64 (-1), i64 0, i64 (wider - s.lo)]]))), (1000004, .arr 1 (.dd (persC pers)))] rfl ⟨box_same rfl ⟨⟨rfl, rfl⟩, trivial⟩, rfl, box_same rfl ⟨rfl, rfl, ⟨rfl, rfl, rfl, rfl⟩, ⟨rfl, rfl, rfl, rfl⟩, rfl, trivial⟩, rfl, rfl, trivial⟩ rfl ⟨⟨rfl, ?_⟩, rfl⟩
 unfold lkH
 rw [e1, e2]
end Go.PX
namespace Go.PX
open Go.Proofs
theorem Wk.bornAtD {σ : Type} {e : Env} {h : Heap} {s : σ} (b k sz : Nat) (A B : List D) {l : List D} (hk : Nat.blt k 1000000 = true) (hs : Nat.blt 0 sz = true) (hb : get h b = some (.box (.dd l))) (hl : l = A ++ .nils :: B) (hbk : Nat.beq b k = false) :
  Wk (⟨e, h, s⟩ : St σ) ⟨mapT (mapId (killF k)) e, put (((k, .arr sz (.dd [])) :: mapT (Obj.mapId (killF k)) (cut h k))) b (.box (.vv (inj A ++ .sl k sz 0 0 :: inj B))), s⟩ := by
 have hk := Nat.le_of_ble_eq_true hk
 have hs := Nat.le_of_ble_eq_true hs
 have hne : b ≠ k := by rintro rfl; simp at hbk
 have h1 : Wk (⟨e, h, s⟩ : St σ) ⟨mapT (mapId (killF k)) e, ((k, .arr sz (.dd [])) :: mapT (Obj.mapId (killF k)) (cut h k)), s⟩ := by
  intro cx r m L F a w hg
  exact ⟨_, F, hg.newEmpty k sz (by unfold pinned; omega) hs (.dd []) rfl, Tr.refl F w⟩
 refine h1.trans (Wk.reobj b (o := .box (.dd l)) _ (by rw [get_one, if_neg hne, get_mapT, get_cut, if_neg hne, hb]; rfl) (fun yv L F w h => ?_) fun L hb => hb)
 obtain ⟨c, T, hc, hr⟩ := h
 have hr : RepVL yv L F w (inj l) c.toList := hr
 rw [hl, inj_append] at hr
 exact ⟨c, T, hc, RepVL.nil_at k sz hs hr⟩
end Go.PX
namespace Go.PX
open Go.Proofs
theorem ent_start {l : PLog} {wider : Int} {conf : List Int} {i : Nat} {b : PBook} {s : LkS} (hb : l.books[i]? = some b) (h : LInv l wider conf i s) : EInv l wider conf i 0 b s.pers ⟨s.steps ++ spanS wider ⟨i, 0⟩ b.off, s.many + 1, s.first, ⟨i, 0⟩, [], []⟩ := by
 refine ⟨rfl, rfl, fun num => ⟨Int.le_refl 0, fun h => absurd h (by show ¬ ((1 : Int) ≤ 0); decide), fun ⟨m, hm, _⟩ => absurd hm (Nat.not_lt_zero m)⟩, fun num r hr => ?_, fun j m c y num hy hf hc ha => ?_, fun e he => ?_, fun j c hc hj e he => ?_, fun j c n hc hn hjn e he => ?_, fun j m c x z hx hz ha => ?_⟩
 ·obtain ⟨j, m, c, x, h1, h2, h3, h4, h5⟩ := h.fst num r hr
  exact ⟨j, m, c, x, h1, h2, h3, h4, .inl h5⟩
 ·rcases ha with ha | ⟨_, ha⟩
  ·obtain ⟨r, h1, h2⟩ := h.got j m c y num hy hf hc ha
   exact ⟨r, h1, h2.imp id (Both.mono fun e he => List.mem_append_left _ he)⟩
  ·exact absurd ha (Nat.not_lt_zero m)
 ·rcases List.mem_append.1 he with he | he
  ·exact h.sub e he
  ·exact .off i b hb e he
 ·rcases Nat.lt_or_ge j i with hlt | hge
  ·exact List.mem_append_left _ (h.off j c hc hlt e he)
  ·have : j = i := by omega
   subst this
   have hcb : c = b := Option.some.inj (hc.symm.trans hb)
   subst hcb
   exact List.mem_append_right _ he
 ·rcases hjn with ⟨hj, hn2⟩ | ⟨_, hn2⟩
  ·exact List.mem_append_left _ (h.set j c n hc hn hj hn2 e he)
  ·rw [perOf_zero] at hn2; omega
 ·rcases ha with ha | ⟨_, ha⟩
  ·exact List.mem_append_left _ (h.ord j m c x z hx hz ha)
  ·omega
def persP (l : List Per) : List (List D) := l.map Per.cells
set_option maxHeartbeats 4000000 in
theorem pa68 (l : PLog) (hR : LogR l) (wider : Int) (hw : 0 ≤ wider ∧ wider ≤ 1048576) (conf : List Int) (hc : conf.length < 1000000) : FnV Tryz.prog 68 [l.d, i64 wider, intsD conf] (lookD l (lookF l wider conf)) := by
 refine fnV_of mixed tysOk Tryz.func68 rfl (ft := ft68) 3 (by decide +kernel) (by rfl) fun {σ} Y st => ?_
 conv=>whnf
 have hbl := hR.books
 unfold lookF
 generalize hRES : lookS l wider conf 0 l.books ⟨[], 0, [], []⟩ = RES
 have hL0 : LInv l wider conf 0 ⟨[], 0, [], []⟩ := ⟨⟨rfl, fun j c _ hj => absurd hj (Nat.not_lt_zero j)⟩, fun num r hr => (by cases hr), fun j m c y num _ _ _ hj => absurd hj (Nat.not_lt_zero j), fun e he => (by cases he), fun j c _ hj => absurd hj (Nat.not_lt_zero j), fun j c n _ _ hj => absurd hj (Nat.not_lt_zero j), fun j m c x z _ _ hj => absurd hj (Nat.not_lt_zero j)⟩
 refine LoopA_i (T := tys) tysOk (by exact drawsB_spec mixed tysOk (by decide +kernel)) l.books (fun i (x : LkS) => ⟨[(2, .d (intsD conf)), (3, .ptr 3 0), (4, .ptr 4 0), (7, .ptr 7 0), (8, .mp 26), (9, .clo 112 [.ptr 7 0, .ptr 4 0]), (29, .d (booksD l.books)), (30, .d (i64 l.books.length)), (31, .d (i64 i))], [(3, .box (.dd l.cells)), (4, .box (.dd [i64 wider])), (7, .box (.vv [.ptr 25 0])), (25, .box (.vv [.d (i64 l.near), .d (booksD l.books), .sl 900000 5 0 x.steps.length, .sl 900001 1 0 x.pers.length, .d (i64 x.many)])), (900000, .arr 5 (.dd (stepsC x.steps))), (900001, .arr 1 (.dd (persC x.pers))), (26, .map (kvV i64D PAt.d x.first))], st⟩)
  (fun i r x => lookS l wider conf i r x = RES ∧ LInv l wider conf i x ∧ x.steps.length ≤ 26 * i ∧ (0 ≤ x.many ∧ x.many ≤ 9 * i)) ⟨[], 0, [], []⟩ ?wk ⟨hRES, hL0, by simp, by simp⟩ ?_ ?_
 case wk =>
  refine (Wk.bornAtD 25 900000 5 [i64 l.near, booksD l.books] [.nils, i64 0] rfl rfl rfl rfl rfl).trans ((Wk.bornAt 25 900001 1 [.d (i64 l.near), .d (booksD l.books), .sl 900000 5 0 0] [.d (i64 0)] rfl rfl rfl rfl).trans (Wk.sub (by repeat' first|exact trivial|refine⟨?_,?_⟩|rfl|(simp only[List.length_map];rfl)|simp[PX.get]) (by repeat' first|exact trivial|refine⟨?_,?_⟩|rfl|(simp only[List.length_map];rfl)|simp[PX.get])))
 ·rintro i b r x hx hi hr2 ⟨hlk, hI, hst, hmn⟩
  rw [lookS] at hlk
  have hB := hR.book b (List.mem_of_getElem? hx)
  have hI2 := book_inv hx hI
  generalize hy : bookS l wider conf i b x = y at hlk hI2
  unfold bookS at hy
  conv=>whnf
  refine brk_i (fun _ => ?_) (fun h => absurd hi (by simpa using h))
  conv=>whnf
  refine elemK_nat hx ?_
  conv=>whnf
  refine CallA_fn (pa112 l wider hw x.steps (by omega) x.pers x.many (by omega) ⟨i, 0⟩ b.off hB.off) [7, 4, 25, 900000, 900001] rfl ?lent rfl ?_
  case lent => exact ⟨_, _, rfl, box_same rfl ⟨⟨rfl, rfl⟩, trivial⟩, _, _, rfl, rfl, _, _, rfl, box_same rfl ⟨rfl, rfl, ⟨rfl, rfl, rfl, rfl⟩, ⟨rfl, rfl, rfl, rfl⟩, rfl, trivial⟩, _, _, rfl, rfl, _, _, rfl, rfl, rfl⟩
  conv=>whnf
  have hE0 := ent_start hx hI
  generalize hER : entsS l wider conf i b x.pers 0 b.ents ⟨x.steps ++ spanS wider ⟨i, 0⟩ b.off, x.many + 1, x.first, ⟨i, 0⟩, [], []⟩ = ER at hy
  simp only at hy
  refine LoopA_i (T := tys) tysOk (by exact drawsB_spec mixed tysOk (by decide +kernel)) b.ents (fun k (e : LkE) => ⟨[(2, .d (intsD conf)), (3, .ptr 3 0), (4, .ptr 4 0), (7, .ptr 7 0), (8, .mp 26), (9, .clo 112 [.ptr 7 0, .ptr 4 0]), (29, .d (booksD l.books)), (30, .d (i64 l.books.length)), (31, .d (i64 i)), (10, .d (i64 i)), (11, .ptr 11 0), (12, .ptr 12 0), (13, .sl 55 2 0 e.of.length), (14, .mp 43), (45, .d (entsD b.ents)), (46, .d (i64 b.ents.length)), (47, .d (i64 k))], [(3, .box (.dd l.cells)), (4, .box (.dd [i64 wider])), (7, .box (.vv [.ptr 25 0])), (25, .box (.vv [.d (i64 l.near), .d (booksD l.books), .sl 900000 5 0 e.steps.length, .sl 900001 1 0 x.pers.length, .d (i64 e.many)])), (900000, .arr 5 (.dd (stepsC e.steps))), (900001, .arr 1 (.dd (persC x.pers))), (26, .map (kvV i64D PAt.d e.first)), (11, .box (.dd b.cells)), (12, .box (.dd e.now.cells)), (43, .map (kvV i64D i64D e.mine)), (55, .arr 2 (.dd (persP e.of)))], st⟩)
   (fun k r e => EInv l wider conf i k b x.pers e ∧ entsS l wider conf i b x.pers k r e = ER ∧ e.steps.length ≤ 26 * i + 2 + 3 * k ∧ (0 ≤ e.many ∧ e.many ≤ 9 * i + 1 + k) ∧ ∀ num, (getV e.mine num).getD 0 ≤ k) ⟨x.steps ++ spanS wider ⟨i, 0⟩ b.off, x.many + 1, x.first, ⟨i, 0⟩, [], []⟩ ?wk2 ⟨hE0, hER, by simp [spanS]; omega, by simp only; omega, fun num => by show (0 : Int) ≤ _; omega⟩ ?_ ?_
  case wk2 =>
   refine (Wk.born 13 55 2 rfl rfl rfl).trans ((Wk.move 102688 900000 rfl rfl).trans (Wk.sub (by repeat' first|exact trivial|refine⟨?_,?_⟩|rfl|(simp only[List.length_map];rfl)|simp[PX.get]) (by repeat' first|exact trivial|refine⟨?_,?_⟩|rfl|(simp only[List.length_map];rfl)|simp[PX.get])))
  ·rintro k y r e hyk hk hr3 ⟨hE, hes, hsl, hem, hmi⟩
   rw [entsS] at hes
   have hE2 := ent_inv hI.pers.2 hx hyk hE
   generalize hnx : entS l wider conf i b x.pers k y e = e2 at hes hE2
   unfold entS at hnx
   simp only at hnx
   have hK2 := st_ok hx hyk hE
   generalize hST : (if k = 0 then e.steps else e.steps ++ [(⟨((e.of ++ [e.now])[k - 1]?).getD .right, e.now, y.shown - ((b.ents[k - 1]?).getD ⟨0, 0, .empty, 0⟩).shown⟩ : PStep)]) = ST at hnx hK2
   conv=>whnf
   refine brk_i (fun _ => ?_) (fun h => absurd hk (by simpa using h))
   conv=>whnf
   refine elemK_nat hyk ?_
   conv=>whnf
   refine ownK_whole rfl ?_
   conv=>whnf
   have hofl : e.of.length = k := by rw [hE.of]; simp
   have hk8 : k < 8 := by have := hB.ents; omega
   have hy0 := hB.ent y (List.mem_of_getElem? hyk)
   refine ownK_whole (by simp [Els.len, persP]) ?_
   conv=>whnf
   refine chk_i (decide_eq_true (by
    show ((persP e.of).length + 1) * 16 ≤ 140737488355328
    have := hB.ents
    simp [persP]; omega)) ?_
   conv=>whnf
   refine brk_i (fun h1 => ?_) (fun h1 => ?_)
   ·have h1 : 0 < k := by have := of_decide_eq_true h1; omega
    conv=>whnf
    refine arith_to ((k - 1 : Nat) : Int) (by omega) (wrap_i64 (by omega)) ?_
    conv=>whnf
    obtain ⟨z, hz⟩ : ∃ z, b.ents[k - 1]? = some z := ⟨_, List.getElem?_eq_getElem (by omega)⟩
    have hz0 := hB.ent z (List.mem_of_getElem? hz)
    have hofk : (e.of ++ [e.now])[k - 1]? = some ⟨i, perOf b (k - 1)⟩ := by
     rw [List.getElem?_append_left (by omega), hE.of, List.getElem?_map, List.getElem?_range (by omega)]; rfl
    refine brk_i (fun _ => ?_) (fun h => absurd h (by
     show ¬ ((decide (0 ≤ ((k - 1 : Nat) : Int)) && decide (((k - 1 : Nat) : Int) < (((persP e.of).length + 1 : Nat) : Int))) = false)
     simp [persP, hofl]; omega))
    conv=>whnf
    refine cellK_i (Per.cells ⟨i, perOf b (k - 1)⟩) (by
     show (persP e.of ++ [e.now.cells])[0 + ((k - 1 : Nat) : Int).toNat]? = _
     have : persP e.of ++ [e.now.cells] = persP (e.of ++ [e.now]) := by simp [persP]
     rw [this, Int.toNat_natCast, Nat.zero_add]
     unfold persP
     rw [List.getElem?_map, hofk]; rfl) ?_
    conv=>whnf
    refine arith_to ((k - 1 : Nat) : Int) (by omega) (wrap_i64 (by omega)) ?_
    conv=>whnf
    refine elemK_i z.cells ⟨by omega, by rw [Int.toNat_natCast, List.getElem?_map, hz]; rfl⟩ ?_
    conv=>whnf
    refine arith_in (wrap_i64 (by (try dsimp only); omega)) ?_
    conv=>whnf
    refine ownK_whole rfl ?_
    conv=>whnf
    refine ownK_whole (by simp [Els.len, stepsC]) ?_
    conv=>whnf
    refine chk_i (decide_eq_true (by
     show ((stepsC e.steps).length + 1) * 40 ≤ 140737488355328
     simp [stepsC]; omega)) ?_
    conv=>whnf
    rw [if_neg (by omega), hofk, hz] at hST
    simp only [Option.getD_some] at hST
    refine CallA.wkK ?_
    refine CallA_v (pa83 y) rfl rfl ?_
    refine ⟨⟨[(2, .d (intsD conf)), (3, .ptr 3 0), (4, .ptr 4 0), (7, .ptr 7 0), (8, .mp 26), (9, .clo 112 [.ptr 7 0, .ptr 4 0]), (29, .d (booksD l.books)), (30, .d (i64 l.books.length)), (31, .d (i64 i)), (10, .d (i64 i)), (11, .ptr 11 0), (12, .ptr 12 0), (13, .sl 55 2 0 (e.of ++ [e.now]).length), (14, .mp 43), (15, .d (i64 k)), (16, .ptr 16 0), (45, .d (entsD b.ents)), (46, .d (i64 b.ents.length)), (47, .d (i64 k)), (85, .d (tellD y))], [(3, .box (.dd l.cells)), (4, .box (.dd [i64 wider])), (7, .box (.vv [.ptr 25 0])), (25, .box (.vv [.d (i64 l.near), .d (booksD l.books), .sl 900000 5 0 ST.length, .sl 900001 1 0 x.pers.length, .d (i64 e.many)])), (900000, .arr 5 (.dd (stepsC ST))), (900001, .arr 1 (.dd (persC x.pers))), (26, .map (kvV i64D PAt.d e.first)), (11, .box (.dd b.cells)), (12, .box (.dd e.now.cells)), (16, .box (.dd y.cells)), (43, .map (kvV i64D i64D e.mine)), (55, .arr 2 (.dd (persP (e.of ++ [e.now]))))], st⟩, (Wk.move 81 900000 rfl rfl).trans (Wk.sub ⟨rfl, rfl, rfl, rfl, rfl, rfl, rfl, rfl, rfl, rfl, rfl, rfl, ?_, rfl, rfl, rfl, rfl, rfl, rfl, rfl, trivial⟩ ⟨rfl, rfl, rfl, ?_, ?_, rfl, rfl, rfl, rfl, rfl, rfl, ?_, trivial⟩), ?_⟩
    ·show some (V.sl 55 2 0 ((persP e.of).length + 1)) = _
     simp [persP]
    ·show some (Obj.box (Cells.vv [.d (i64 l.near), .d (booksD l.books), .sl 900000 5 0 ((stepsC e.steps).length + 1), .sl 900001 1 0 x.pers.length, .d (i64 e.many)])) = _
     rw [← hST]; simp [stepsC]
    ·rw [← hST]
     show some (Obj.arr 5 (Els.dd (stepsC e.steps ++ [[i64 i, i64 (perOf b (k - 1) : Nat), i64 e.now.book, i64 e.now.n, i64 (y.shown - z.shown)]]))) = _
     unfold stepsC
     rw [List.map_append]; rfl
    ·show some (Obj.arr 2 (Els.dd (persP e.of ++ [e.now.cells]))) = _
     simp [persP]
    have hstl : ST.length ≤ e.steps.length + 1 := by rw [← hST]; simp
    by_cases h2 : y.kind = 2
    ·rw [if_pos h2] at hnx
     have ht : tellD y = .ifc 175 (.agg []) := by unfold tellD; rw [if_neg (by omega), if_pos h2]
     rw [ht]
     have hpo := perOf_le b k
     have hse := setsN_le b
     have hen := hB.ents
     have hnn : e.now.n = (perOf b k : Nat) := by rw [hE.now]
     conv=>whnf
     refine arith_in (wrap_i64 (by (try dsimp only); omega)) ?_
     conv=>whnf
     refine CallA_fn (pa112 l wider hw ST (by omega) x.pers e.many (by omega) ⟨e.now.book, e.now.n + 1⟩ b.set hB.set) [7, 4, 25, 900000, 900001] rfl ?lent rfl ?_
     case lent => exact ⟨_, _, rfl, box_same rfl ⟨⟨rfl, rfl⟩, trivial⟩, _, _, rfl, rfl, _, _, rfl, box_same rfl ⟨rfl, rfl, ⟨rfl, rfl, rfl, rfl⟩, ⟨rfl, rfl, rfl, rfl⟩, rfl, trivial⟩, _, _, rfl, rfl, _, _, rfl, rfl, rfl⟩
     conv=>whnf
     refine arith_in (wrap_i64 (by (try dsimp only); omega)) ?_
     conv=>whnf
     subst hnx
     refine ⟨_, ⟨hE2, hes, ?_, ?_, fun num => by have := hmi num; simp only; omega⟩, ?_⟩
     ·simp [spanS]; omega
     ·simp only; omega
     ·exact (Wk.move 106208 900000 rfl rfl).trans (Wk.sub ⟨rfl, rfl, rfl, rfl, rfl, rfl, rfl, rfl, rfl, rfl, rfl, rfl, rfl, rfl, rfl, rfl, rfl, trivial⟩ ⟨rfl, rfl, rfl, rfl, rfl, rfl, rfl, rfl, rfl, rfl, rfl, trivial⟩)
    ·rw [if_neg h2] at hnx
     by_cases h3 : y.kind = 3
     ·rw [if_pos h3] at hnx
      have ht : tellD y = .ifc 156 (.agg [.str y.word, i64 y.number]) := by unfold tellD; rw [if_neg (by omega), if_neg h2, if_pos h3]
      rw [ht]
      have hmn := hmi y.number
      have hm0 := (hE.mine y.number).1
      generalize hN : (getV e.mine y.number).getD 0 = N at hnx hmn hm0
      have hmi2 : ∀ num, (getV (putV e.mine y.number (N + 1)) num).getD 0 ≤ ((k + 1 : Nat) : Int) := fun num => by
       rw [getV_put]
       split
       ·simp only [Option.getD_some]; omega
       ·have := hmi num; omega
      conv=>whnf
      cases hgm : getV e.mine y.number with
      | none =>
       have hN0 : N = 0 := by rw [← hN, hgm]; rfl
       have hput := putV2_none (kd := i64D) (vd := i64D) (N + 1) hgm
       refine ⟨none, findV_none (kd := i64D) same_int hgm 0, ?_⟩
       conv=>whnf
       refine arith_to (N + 1) (by omega) (wrap_i64 (by omega)) ?_
       conv=>whnf
       refine ⟨none, findV_none (kd := i64D) same_int hgm 0, ?_⟩
       conv=>whnf
       have hput2 : kvV i64D i64D e.mine ++ [(i64 y.number, i64 (N + 1))] = kvV i64D i64D (putV e.mine y.number (N + 1)) := hput
       rw [hput2]
       obtain ⟨iz, _, hz1, _⟩ := findV_some (kd := i64D) (vd := i64D) same_int (show getV (putV e.mine y.number (N + 1)) y.number = some (N + 1) by rw [getV_put, if_pos rfl]) 0
       refine ⟨_, hz1, ?_⟩
       conv=>whnf
       refine brk_i (fun h5 => ?_) (fun h5 => ?_)
       ·have h5 : 1 < N + 1 := of_decide_eq_true h5
        rw [if_pos (.inl (by omega))] at hnx
        conv=>whnf
        refine arith_in (wrap_i64 (by (try dsimp only); omega)) ?_
        conv=>whnf
        subst hnx
        exact ⟨_, ⟨hE2, hes, by simp only; omega, by simp only; omega, hmi2⟩, (Wk.sub ⟨rfl, rfl, rfl, rfl, rfl, rfl, rfl, rfl, rfl, rfl, rfl, rfl, rfl, rfl, rfl, rfl, rfl, trivial⟩ ⟨rfl, rfl, rfl, rfl, rfl, rfl, rfl, rfl, rfl, rfl, rfl, trivial⟩)⟩
       ·have h5 : ¬ 1 < N + 1 := of_decide_eq_false h5
        conv=>whnf
        refine CallA_v (fn63 conf y.number (by omega)) rfl rfl ?_
        conv=>whnf
        refine brk_i (fun h6 => ?_) (fun h6 => ?_)
        ·have h6 : y.number ∈ conf := of_decide_eq_true h6
         rw [if_pos (.inr h6)] at hnx
         conv=>whnf
         refine arith_in (wrap_i64 (by (try dsimp only); omega)) ?_
         conv=>whnf
         subst hnx
         exact ⟨_, ⟨hE2, hes, by simp only; omega, by simp only; omega, hmi2⟩, (Wk.sub ⟨rfl, rfl, rfl, rfl, rfl, rfl, rfl, rfl, rfl, rfl, rfl, rfl, rfl, rfl, rfl, rfl, rfl, trivial⟩ ⟨rfl, rfl, rfl, rfl, rfl, rfl, rfl, rfl, rfl, rfl, rfl, trivial⟩)⟩
        ·have h6 : ¬ y.number ∈ conf := of_decide_eq_false h6
         rw [if_neg (fun h => h.elim (fun h => h5 (by omega)) h6)] at hnx
         conv=>whnf
         cases hgf : getV e.first y.number with
         | none =>
          rw [hgf] at hnx
          simp only at hnx
          have hpf := putV2_none (kd := i64D) (vd := PAt.d) (⟨i, k⟩ : PAt) hgf
          refine ⟨none, findV_none (kd := i64D) same_int hgf 0, ?_⟩
          conv=>whnf
          refine ⟨none, findV_none (kd := i64D) same_int hgf 0, ?_⟩
          conv=>whnf
          have hpf2 : kvV i64D PAt.d e.first ++ [(i64 y.number, PAt.d ⟨i, k⟩)] = kvV i64D PAt.d (putV e.first y.number ⟨i, k⟩) := hpf
          refine arith_in (wrap_i64 (by (try dsimp only); omega)) ?_
          conv=>whnf
          subst hnx
          refine ⟨_, ⟨hE2, hes, by simp only; omega, by simp only; omega, hmi2⟩, ?_⟩
          simp only
          rw [← hpf2]
          exact (Wk.sub ⟨rfl, rfl, rfl, rfl, rfl, rfl, rfl, rfl, rfl, rfl, rfl, rfl, rfl, rfl, rfl, rfl, rfl, trivial⟩ ⟨rfl, rfl, rfl, rfl, rfl, rfl, rfl, rfl, rfl, rfl, rfl, trivial⟩)
         | some r0 =>
          rw [hgf] at hnx
          simp only at hnx
          obtain ⟨j0, m0, c0, x0, hr0, hx0, hf0, -, hah⟩ := hE.fst _ _ hgf
          obtain ⟨iy, _, hy1, _⟩ := findV_some (kd := i64D) (vd := PAt.d) same_int hgf 0
          refine ⟨_, hy1, ?_⟩
          conv=>whnf
          subst hr0
          have hml := (List.getElem?_eq_some_iff.1 hx0.ent).1
          have hjl := (List.getElem?_eq_some_iff.1 hx0.book).1
          refine elemK_i c0.cells ⟨by show (0 : Int) ≤ ((j0 : Nat) : Int); omega, by show (l.books.map PBook.cells)[((j0 : Nat) : Int).toNat]? = _; rw [Int.toNat_natCast, List.getElem?_map, hx0.book]; rfl⟩ ?_
          conv=>whnf
          refine elemK_i x0.cells ⟨by show (0 : Int) ≤ ((m0 : Nat) : Int); omega, by show (c0.ents.map PEnt.cells)[((m0 : Nat) : Int).toNat]? = _; rw [Int.toNat_natCast, List.getElem?_map, hx0.ent]; rfl⟩ ?_
          conv=>whnf
          have hxs := (hR.book c0 (List.mem_of_getElem? hx0.book)).ent x0 (List.mem_of_getElem? hx0.ent)
          have hj0 : j0 < i := by
           rcases hah with hah | ⟨hji, hah⟩
           ·exact hah
           ·have hb0 := hx0.book
            rw [hji] at hb0
            have hcb : c0 = b := Option.some.inj (hb0.symm.trans hx)
            have h7 := (hE.mine y.number).2.2 ⟨m0, hah, hcb ▸ hf0⟩
            rw [hN] at h7
            omega
          have hpj := hI.pers.2 j0 c0 hx0.book hj0
          refine arith_to (y.shown - x0.shown) rfl (wrap_i64 (by omega)) ?_
          conv=>whnf
          refine brk_i (fun _ => ?_) (fun h => absurd h (by
           show ¬ ((decide (0 ≤ ((j0 : Nat) : Int)) && decide (((j0 : Nat) : Int) < ((x.pers.length : Nat) : Int))) = false)
           have := hI.pers.1
           simp; omega))
          conv=>whnf
          refine cellK_i [.vs ((persOf j0 c0).map Per.cells)] (by
           show (persC x.pers)[0 + ((j0 : Nat) : Int).toNat]? = _
           unfold persC
           rw [Int.toNat_natCast, Nat.zero_add, List.getElem?_map, hpj]; rfl) ?_
          conv=>whnf
          refine elemK_i (Per.cells ⟨j0, (perOf c0 m0 : Nat)⟩) ⟨by show (0 : Int) ≤ ((m0 : Nat) : Int); omega, by show ((persOf j0 c0).map Per.cells)[((m0 : Nat) : Int).toNat]? = _; rw [Int.toNat_natCast, List.getElem?_map, persOf_get hml]; rfl⟩ ?_
          conv=>whnf
          refine arith_to (-(y.shown - x0.shown)) (by omega) (wrap_i64 (by omega)) ?_
          conv=>whnf
          refine ownK_whole rfl ?_
          conv=>whnf
          refine ownK_whole (by simp [Els.len, stepsC]) ?_
          conv=>whnf
          refine chk_i (decide_eq_true (by
           show ((stepsC ST).length + 2) * 40 ≤ 140737488355328
           simp [stepsC]; omega)) ?_
          conv=>whnf
          refine arith_in (wrap_i64 (by (try dsimp only); omega)) ?_
          conv=>whnf
          rw [perAt_of hx0 hpj, entAt_of hx0] at hnx
          subst hnx
          refine ⟨_, ⟨hE2, hes, by simp only [List.length_append, List.length_cons, List.length_nil]; omega, by simp only; omega, hmi2⟩, ?_⟩
          have hsc : ∀ p q : PStep, stepsC (ST ++ [p, q]) = stepsC ST ++ stepsC [p, q] := fun p q => by unfold stepsC; rw [List.map_append]
          simp only [hsc]
          refine (Wk.move 174 900000 rfl rfl).trans (Wk.sub ⟨rfl, rfl, rfl, rfl, rfl, rfl, rfl, rfl, rfl, rfl, rfl, rfl, rfl, rfl, rfl, rfl, rfl, trivial⟩ ⟨rfl, rfl, rfl, ?_, rfl, rfl, rfl, rfl, rfl, rfl, rfl, trivial⟩)
          show some (Obj.box (Cells.vv [.d (i64 l.near), .d (booksD l.books), .sl 900000 5 0 ((stepsC ST).length + 2), .sl 900001 1 0 x.pers.length, .d (i64 e.many)])) = _
          simp [stepsC]
      | some n0 =>
       have hN0 : N = n0 := by rw [← hN, hgm]; rfl
       obtain ⟨ix, _, hx1, hx2, _⟩ := findV_some (kd := i64D) (vd := i64D) same_int hgm 0
       refine ⟨_, hx1, ?_⟩
       conv=>whnf
       refine arith_to (N + 1) (by rw [hN0]) (wrap_i64 (by omega)) ?_
       conv=>whnf
       refine ⟨_, hx1, ?_⟩
       conv=>whnf
       have hput2 : (kvV i64D i64D e.mine).set (0 + ix, i64D n0).fst (i64 y.number, i64 (N + 1)) = kvV i64D i64D (putV e.mine y.number (N + 1)) := by
        show (kvV i64D i64D e.mine).set (0 + ix) _ = _
        rw [Nat.zero_add]; exact hx2 (N + 1)
       rw [hput2]
       obtain ⟨iz, _, hz1, _⟩ := findV_some (kd := i64D) (vd := i64D) same_int (show getV (putV e.mine y.number (N + 1)) y.number = some (N + 1) by rw [getV_put, if_pos rfl]) 0
       refine ⟨_, hz1, ?_⟩
       conv=>whnf
       refine brk_i (fun h5 => ?_) (fun h5 => ?_)
       ·have h5 : 1 < N + 1 := of_decide_eq_true h5
        rw [if_pos (.inl (by omega))] at hnx
        conv=>whnf
        refine arith_in (wrap_i64 (by (try dsimp only); omega)) ?_
        conv=>whnf
        subst hnx
        exact ⟨_, ⟨hE2, hes, by simp only; omega, by simp only; omega, hmi2⟩, (Wk.sub ⟨rfl, rfl, rfl, rfl, rfl, rfl, rfl, rfl, rfl, rfl, rfl, rfl, rfl, rfl, rfl, rfl, rfl, trivial⟩ ⟨rfl, rfl, rfl, rfl, rfl, rfl, rfl, rfl, rfl, rfl, rfl, trivial⟩)⟩
       ·have h5 : ¬ 1 < N + 1 := of_decide_eq_false h5
        conv=>whnf
        refine CallA_v (fn63 conf y.number (by omega)) rfl rfl ?_
        conv=>whnf
        refine brk_i (fun h6 => ?_) (fun h6 => ?_)
        ·have h6 : y.number ∈ conf := of_decide_eq_true h6
         rw [if_pos (.inr h6)] at hnx
         conv=>whnf
         refine arith_in (wrap_i64 (by (try dsimp only); omega)) ?_
         conv=>whnf
         subst hnx
         exact ⟨_, ⟨hE2, hes, by simp only; omega, by simp only; omega, hmi2⟩, (Wk.sub ⟨rfl, rfl, rfl, rfl, rfl, rfl, rfl, rfl, rfl, rfl, rfl, rfl, rfl, rfl, rfl, rfl, rfl, trivial⟩ ⟨rfl, rfl, rfl, rfl, rfl, rfl, rfl, rfl, rfl, rfl, rfl, trivial⟩)⟩
        ·have h6 : ¬ y.number ∈ conf := of_decide_eq_false h6
         rw [if_neg (fun h => h.elim (fun h => h5 (by omega)) h6)] at hnx
         conv=>whnf
         cases hgf : getV e.first y.number with
         | none =>
          rw [hgf] at hnx
          simp only at hnx
          have hpf := putV2_none (kd := i64D) (vd := PAt.d) (⟨i, k⟩ : PAt) hgf
          refine ⟨none, findV_none (kd := i64D) same_int hgf 0, ?_⟩
          conv=>whnf
          refine ⟨none, findV_none (kd := i64D) same_int hgf 0, ?_⟩
          conv=>whnf
          have hpf2 : kvV i64D PAt.d e.first ++ [(i64 y.number, PAt.d ⟨i, k⟩)] = kvV i64D PAt.d (putV e.first y.number ⟨i, k⟩) := hpf
          refine arith_in (wrap_i64 (by (try dsimp only); omega)) ?_
          conv=>whnf
          subst hnx
          refine ⟨_, ⟨hE2, hes, by simp only; omega, by simp only; omega, hmi2⟩, ?_⟩
          simp only
          rw [← hpf2]
          exact (Wk.sub ⟨rfl, rfl, rfl, rfl, rfl, rfl, rfl, rfl, rfl, rfl, rfl, rfl, rfl, rfl, rfl, rfl, rfl, trivial⟩ ⟨rfl, rfl, rfl, rfl, rfl, rfl, rfl, rfl, rfl, rfl, rfl, trivial⟩)
         | some r0 =>
          rw [hgf] at hnx
          simp only at hnx
          obtain ⟨j0, m0, c0, x0, hr0, hx0, hf0, -, hah⟩ := hE.fst _ _ hgf
          obtain ⟨iy, _, hy1, _⟩ := findV_some (kd := i64D) (vd := PAt.d) same_int hgf 0
          refine ⟨_, hy1, ?_⟩
          conv=>whnf
          subst hr0
          have hml := (List.getElem?_eq_some_iff.1 hx0.ent).1
          have hjl := (List.getElem?_eq_some_iff.1 hx0.book).1
          refine elemK_i c0.cells ⟨by show (0 : Int) ≤ ((j0 : Nat) : Int); omega, by show (l.books.map PBook.cells)[((j0 : Nat) : Int).toNat]? = _; rw [Int.toNat_natCast, List.getElem?_map, hx0.book]; rfl⟩ ?_
          conv=>whnf
          refine elemK_i x0.cells ⟨by show (0 : Int) ≤ ((m0 : Nat) : Int); omega, by show (c0.ents.map PEnt.cells)[((m0 : Nat) : Int).toNat]? = _; rw [Int.toNat_natCast, List.getElem?_map, hx0.ent]; rfl⟩ ?_
          conv=>whnf
          have hxs := (hR.book c0 (List.mem_of_getElem? hx0.book)).ent x0 (List.mem_of_getElem? hx0.ent)
          have hj0 : j0 < i := by
           rcases hah with hah | ⟨hji, hah⟩
           ·exact hah
           ·have hb0 := hx0.book
            rw [hji] at hb0
            have hcb : c0 = b := Option.some.inj (hb0.symm.trans hx)
            have h7 := (hE.mine y.number).2.2 ⟨m0, hah, hcb ▸ hf0⟩
            rw [hN] at h7
            omega
          have hpj := hI.pers.2 j0 c0 hx0.book hj0
          refine arith_to (y.shown - x0.shown) rfl (wrap_i64 (by omega)) ?_
          conv=>whnf
          refine brk_i (fun _ => ?_) (fun h => absurd h (by
           show ¬ ((decide (0 ≤ ((j0 : Nat) : Int)) && decide (((j0 : Nat) : Int) < ((x.pers.length : Nat) : Int))) = false)
           have := hI.pers.1
           simp; omega))
          conv=>whnf
          refine cellK_i [.vs ((persOf j0 c0).map Per.cells)] (by
           show (persC x.pers)[0 + ((j0 : Nat) : Int).toNat]? = _
           unfold persC
           rw [Int.toNat_natCast, Nat.zero_add, List.getElem?_map, hpj]; rfl) ?_
          conv=>whnf
          refine elemK_i (Per.cells ⟨j0, (perOf c0 m0 : Nat)⟩) ⟨by show (0 : Int) ≤ ((m0 : Nat) : Int); omega, by show ((persOf j0 c0).map Per.cells)[((m0 : Nat) : Int).toNat]? = _; rw [Int.toNat_natCast, List.getElem?_map, persOf_get hml]; rfl⟩ ?_
          conv=>whnf
          refine arith_to (-(y.shown - x0.shown)) (by omega) (wrap_i64 (by omega)) ?_
          conv=>whnf
          refine ownK_whole rfl ?_
          conv=>whnf
          refine ownK_whole (by simp [Els.len, stepsC]) ?_
          conv=>whnf
          refine chk_i (decide_eq_true (by
           show ((stepsC ST).length + 2) * 40 ≤ 140737488355328
           simp [stepsC]; omega)) ?_
          conv=>whnf
          refine arith_in (wrap_i64 (by (try dsimp only); omega)) ?_
          conv=>whnf
          rw [perAt_of hx0 hpj, entAt_of hx0] at hnx
          subst hnx
          refine ⟨_, ⟨hE2, hes, by simp only [List.length_append, List.length_cons, List.length_nil]; omega, by simp only; omega, hmi2⟩, ?_⟩
          have hsc : ∀ p q : PStep, stepsC (ST ++ [p, q]) = stepsC ST ++ stepsC [p, q] := fun p q => by unfold stepsC; rw [List.map_append]
          simp only [hsc]
          refine (Wk.move 174 900000 rfl rfl).trans (Wk.sub ⟨rfl, rfl, rfl, rfl, rfl, rfl, rfl, rfl, rfl, rfl, rfl, rfl, rfl, rfl, rfl, rfl, rfl, trivial⟩ ⟨rfl, rfl, rfl, ?_, rfl, rfl, rfl, rfl, rfl, rfl, rfl, trivial⟩)
          show some (Obj.box (Cells.vv [.d (i64 l.near), .d (booksD l.books), .sl 900000 5 0 ((stepsC ST).length + 2), .sl 900001 1 0 x.pers.length, .d (i64 e.many)])) = _
          simp [stepsC]
     ·rw [if_neg h3] at hnx
      have h1k : y.kind = 1 := by omega
      have ht : tellD y = .ifc 138 (.agg [.str y.word]) := by unfold tellD; rw [if_pos h1k]
      rw [ht]
      conv=>whnf
      refine arith_in (wrap_i64 (by (try dsimp only); omega)) ?_
      conv=>whnf
      subst hnx
      exact ⟨_, ⟨hE2, hes, by simp only; omega, by simp only; omega, fun num => by have := hmi num; simp only; omega⟩, (Wk.sub ⟨rfl, rfl, rfl, rfl, rfl, rfl, rfl, rfl, rfl, rfl, rfl, rfl, rfl, rfl, rfl, rfl, rfl, trivial⟩ ⟨rfl, rfl, rfl, rfl, rfl, rfl, rfl, rfl, rfl, rfl, rfl, trivial⟩)⟩
   ·have h1 : k = 0 := by have := of_decide_eq_false h1; omega
    rw [if_pos h1] at hST
    conv=>whnf
    refine CallA.wkK ?_
    refine CallA_v (pa83 y) rfl rfl ?_
    refine ⟨⟨[(2, .d (intsD conf)), (3, .ptr 3 0), (4, .ptr 4 0), (7, .ptr 7 0), (8, .mp 26), (9, .clo 112 [.ptr 7 0, .ptr 4 0]), (29, .d (booksD l.books)), (30, .d (i64 l.books.length)), (31, .d (i64 i)), (10, .d (i64 i)), (11, .ptr 11 0), (12, .ptr 12 0), (13, .sl 55 2 0 (e.of ++ [e.now]).length), (14, .mp 43), (15, .d (i64 k)), (16, .ptr 16 0), (45, .d (entsD b.ents)), (46, .d (i64 b.ents.length)), (47, .d (i64 k)), (85, .d (tellD y))], [(3, .box (.dd l.cells)), (4, .box (.dd [i64 wider])), (7, .box (.vv [.ptr 25 0])), (25, .box (.vv [.d (i64 l.near), .d (booksD l.books), .sl 900000 5 0 ST.length, .sl 900001 1 0 x.pers.length, .d (i64 e.many)])), (900000, .arr 5 (.dd (stepsC ST))), (900001, .arr 1 (.dd (persC x.pers))), (26, .map (kvV i64D PAt.d e.first)), (11, .box (.dd b.cells)), (12, .box (.dd e.now.cells)), (16, .box (.dd y.cells)), (43, .map (kvV i64D i64D e.mine)), (55, .arr 2 (.dd (persP (e.of ++ [e.now]))))], st⟩, Wk.sub ⟨rfl, rfl, rfl, rfl, rfl, rfl, rfl, rfl, rfl, rfl, rfl, rfl, ?_, rfl, rfl, rfl, rfl, rfl, rfl, rfl, trivial⟩ ⟨rfl, rfl, rfl, ?_, ?_, rfl, rfl, rfl, rfl, rfl, rfl, ?_, trivial⟩, ?_⟩
    ·show some (V.sl 55 2 0 ((persP e.of).length + 1)) = _
     simp [persP]
    ·rw [← hST]; rfl
    ·rw [← hST]; rfl
    ·show some (Obj.arr 2 (Els.dd (persP e.of ++ [e.now.cells]))) = _
     simp [persP]
    have hstl : ST.length ≤ e.steps.length + 1 := by rw [← hST]; simp
    by_cases h2 : y.kind = 2
    ·rw [if_pos h2] at hnx
     have ht : tellD y = .ifc 175 (.agg []) := by unfold tellD; rw [if_neg (by omega), if_pos h2]
     rw [ht]
     have hpo := perOf_le b k
     have hse := setsN_le b
     have hen := hB.ents
     have hnn : e.now.n = (perOf b k : Nat) := by rw [hE.now]
     conv=>whnf
     refine arith_in (wrap_i64 (by (try dsimp only); omega)) ?_
     conv=>whnf
     refine CallA_fn (pa112 l wider hw ST (by omega) x.pers e.many (by omega) ⟨e.now.book, e.now.n + 1⟩ b.set hB.set) [7, 4, 25, 900000, 900001] rfl ?lent rfl ?_
     case lent => exact ⟨_, _, rfl, box_same rfl ⟨⟨rfl, rfl⟩, trivial⟩, _, _, rfl, rfl, _, _, rfl, box_same rfl ⟨rfl, rfl, ⟨rfl, rfl, rfl, rfl⟩, ⟨rfl, rfl, rfl, rfl⟩, rfl, trivial⟩, _, _, rfl, rfl, _, _, rfl, rfl, rfl⟩
     conv=>whnf
     refine arith_in (wrap_i64 (by (try dsimp only); omega)) ?_
     conv=>whnf
     subst hnx
     refine ⟨_, ⟨hE2, hes, ?_, ?_, fun num => by have := hmi num; simp only; omega⟩, ?_⟩
     ·simp [spanS]; omega
     ·simp only; omega
     ·exact (Wk.move 106208 900000 rfl rfl).trans (Wk.sub ⟨rfl, rfl, rfl, rfl, rfl, rfl, rfl, rfl, rfl, rfl, rfl, rfl, rfl, rfl, rfl, rfl, rfl, trivial⟩ ⟨rfl, rfl, rfl, rfl, rfl, rfl, rfl, rfl, rfl, rfl, rfl, trivial⟩)
    ·rw [if_neg h2] at hnx
     by_cases h3 : y.kind = 3
     ·rw [if_pos h3] at hnx
      have ht : tellD y = .ifc 156 (.agg [.str y.word, i64 y.number]) := by unfold tellD; rw [if_neg (by omega), if_neg h2, if_pos h3]
      rw [ht]
      have hmn := hmi y.number
      have hm0 := (hE.mine y.number).1
      generalize hN : (getV e.mine y.number).getD 0 = N at hnx hmn hm0
      have hmi2 : ∀ num, (getV (putV e.mine y.number (N + 1)) num).getD 0 ≤ ((k + 1 : Nat) : Int) := fun num => by
       rw [getV_put]
       split
       ·simp only [Option.getD_some]; omega
       ·have := hmi num; omega
      conv=>whnf
      cases hgm : getV e.mine y.number with
      | none =>
       have hN0 : N = 0 := by rw [← hN, hgm]; rfl
       have hput := putV2_none (kd := i64D) (vd := i64D) (N + 1) hgm
       refine ⟨none, findV_none (kd := i64D) same_int hgm 0, ?_⟩
       conv=>whnf
       refine arith_to (N + 1) (by omega) (wrap_i64 (by omega)) ?_
       conv=>whnf
       refine ⟨none, findV_none (kd := i64D) same_int hgm 0, ?_⟩
       conv=>whnf
       have hput2 : kvV i64D i64D e.mine ++ [(i64 y.number, i64 (N + 1))] = kvV i64D i64D (putV e.mine y.number (N + 1)) := hput
       rw [hput2]
       obtain ⟨iz, _, hz1, _⟩ := findV_some (kd := i64D) (vd := i64D) same_int (show getV (putV e.mine y.number (N + 1)) y.number = some (N + 1) by rw [getV_put, if_pos rfl]) 0
       refine ⟨_, hz1, ?_⟩
       conv=>whnf
       refine brk_i (fun h5 => ?_) (fun h5 => ?_)
       ·have h5 : 1 < N + 1 := of_decide_eq_true h5
        rw [if_pos (.inl (by omega))] at hnx
        conv=>whnf
        refine arith_in (wrap_i64 (by (try dsimp only); omega)) ?_
        conv=>whnf
        subst hnx
        exact ⟨_, ⟨hE2, hes, by simp only; omega, by simp only; omega, hmi2⟩, (Wk.sub ⟨rfl, rfl, rfl, rfl, rfl, rfl, rfl, rfl, rfl, rfl, rfl, rfl, rfl, rfl, rfl, rfl, rfl, trivial⟩ ⟨rfl, rfl, rfl, rfl, rfl, rfl, rfl, rfl, rfl, rfl, rfl, trivial⟩)⟩
       ·have h5 : ¬ 1 < N + 1 := of_decide_eq_false h5
        conv=>whnf
        refine CallA_v (fn63 conf y.number (by omega)) rfl rfl ?_
        conv=>whnf
        refine brk_i (fun h6 => ?_) (fun h6 => ?_)
        ·have h6 : y.number ∈ conf := of_decide_eq_true h6
         rw [if_pos (.inr h6)] at hnx
         conv=>whnf
         refine arith_in (wrap_i64 (by (try dsimp only); omega)) ?_
         conv=>whnf
         subst hnx
         exact ⟨_, ⟨hE2, hes, by simp only; omega, by simp only; omega, hmi2⟩, (Wk.sub ⟨rfl, rfl, rfl, rfl, rfl, rfl, rfl, rfl, rfl, rfl, rfl, rfl, rfl, rfl, rfl, rfl, rfl, trivial⟩ ⟨rfl, rfl, rfl, rfl, rfl, rfl, rfl, rfl, rfl, rfl, rfl, trivial⟩)⟩
        ·have h6 : ¬ y.number ∈ conf := of_decide_eq_false h6
         rw [if_neg (fun h => h.elim (fun h => h5 (by omega)) h6)] at hnx
         conv=>whnf
         cases hgf : getV e.first y.number with
         | none =>
          rw [hgf] at hnx
          simp only at hnx
          have hpf := putV2_none (kd := i64D) (vd := PAt.d) (⟨i, k⟩ : PAt) hgf
          refine ⟨none, findV_none (kd := i64D) same_int hgf 0, ?_⟩
          conv=>whnf
          refine ⟨none, findV_none (kd := i64D) same_int hgf 0, ?_⟩
          conv=>whnf
          have hpf2 : kvV i64D PAt.d e.first ++ [(i64 y.number, PAt.d ⟨i, k⟩)] = kvV i64D PAt.d (putV e.first y.number ⟨i, k⟩) := hpf
          refine arith_in (wrap_i64 (by (try dsimp only); omega)) ?_
          conv=>whnf
          subst hnx
          refine ⟨_, ⟨hE2, hes, by simp only; omega, by simp only; omega, hmi2⟩, ?_⟩
          simp only
          rw [← hpf2]
          exact (Wk.sub ⟨rfl, rfl, rfl, rfl, rfl, rfl, rfl, rfl, rfl, rfl, rfl, rfl, rfl, rfl, rfl, rfl, rfl, trivial⟩ ⟨rfl, rfl, rfl, rfl, rfl, rfl, rfl, rfl, rfl, rfl, rfl, trivial⟩)
         | some r0 =>
          rw [hgf] at hnx
          simp only at hnx
          obtain ⟨j0, m0, c0, x0, hr0, hx0, hf0, -, hah⟩ := hE.fst _ _ hgf
          obtain ⟨iy, _, hy1, _⟩ := findV_some (kd := i64D) (vd := PAt.d) same_int hgf 0
          refine ⟨_, hy1, ?_⟩
          conv=>whnf
          subst hr0
          have hml := (List.getElem?_eq_some_iff.1 hx0.ent).1
          have hjl := (List.getElem?_eq_some_iff.1 hx0.book).1
          refine elemK_i c0.cells ⟨by show (0 : Int) ≤ ((j0 : Nat) : Int); omega, by show (l.books.map PBook.cells)[((j0 : Nat) : Int).toNat]? = _; rw [Int.toNat_natCast, List.getElem?_map, hx0.book]; rfl⟩ ?_
          conv=>whnf
          refine elemK_i x0.cells ⟨by show (0 : Int) ≤ ((m0 : Nat) : Int); omega, by show (c0.ents.map PEnt.cells)[((m0 : Nat) : Int).toNat]? = _; rw [Int.toNat_natCast, List.getElem?_map, hx0.ent]; rfl⟩ ?_
          conv=>whnf
          have hxs := (hR.book c0 (List.mem_of_getElem? hx0.book)).ent x0 (List.mem_of_getElem? hx0.ent)
          have hj0 : j0 < i := by
           rcases hah with hah | ⟨hji, hah⟩
           ·exact hah
           ·have hb0 := hx0.book
            rw [hji] at hb0
            have hcb : c0 = b := Option.some.inj (hb0.symm.trans hx)
            have h7 := (hE.mine y.number).2.2 ⟨m0, hah, hcb ▸ hf0⟩
            rw [hN] at h7
            omega
          have hpj := hI.pers.2 j0 c0 hx0.book hj0
          refine arith_to (y.shown - x0.shown) rfl (wrap_i64 (by omega)) ?_
          conv=>whnf
          refine brk_i (fun _ => ?_) (fun h => absurd h (by
           show ¬ ((decide (0 ≤ ((j0 : Nat) : Int)) && decide (((j0 : Nat) : Int) < ((x.pers.length : Nat) : Int))) = false)
           have := hI.pers.1
           simp; omega))
          conv=>whnf
          refine cellK_i [.vs ((persOf j0 c0).map Per.cells)] (by
           show (persC x.pers)[0 + ((j0 : Nat) : Int).toNat]? = _
           unfold persC
           rw [Int.toNat_natCast, Nat.zero_add, List.getElem?_map, hpj]; rfl) ?_
          conv=>whnf
          refine elemK_i (Per.cells ⟨j0, (perOf c0 m0 : Nat)⟩) ⟨by show (0 : Int) ≤ ((m0 : Nat) : Int); omega, by show ((persOf j0 c0).map Per.cells)[((m0 : Nat) : Int).toNat]? = _; rw [Int.toNat_natCast, List.getElem?_map, persOf_get hml]; rfl⟩ ?_
          conv=>whnf
          refine arith_to (-(y.shown - x0.shown)) (by omega) (wrap_i64 (by omega)) ?_
          conv=>whnf
          refine ownK_whole rfl ?_
          conv=>whnf
          refine ownK_whole (by simp [Els.len, stepsC]) ?_
          conv=>whnf
          refine chk_i (decide_eq_true (by
           show ((stepsC ST).length + 2) * 40 ≤ 140737488355328
           simp [stepsC]; omega)) ?_
          conv=>whnf
          refine arith_in (wrap_i64 (by (try dsimp only); omega)) ?_
          conv=>whnf
          rw [perAt_of hx0 hpj, entAt_of hx0] at hnx
          subst hnx
          refine ⟨_, ⟨hE2, hes, by simp only [List.length_append, List.length_cons, List.length_nil]; omega, by simp only; omega, hmi2⟩, ?_⟩
          have hsc : ∀ p q : PStep, stepsC (ST ++ [p, q]) = stepsC ST ++ stepsC [p, q] := fun p q => by unfold stepsC; rw [List.map_append]
          simp only [hsc]
          refine (Wk.move 174 900000 rfl rfl).trans (Wk.sub ⟨rfl, rfl, rfl, rfl, rfl, rfl, rfl, rfl, rfl, rfl, rfl, rfl, rfl, rfl, rfl, rfl, rfl, trivial⟩ ⟨rfl, rfl, rfl, ?_, rfl, rfl, rfl, rfl, rfl, rfl, rfl, trivial⟩)
          show some (Obj.box (Cells.vv [.d (i64 l.near), .d (booksD l.books), .sl 900000 5 0 ((stepsC ST).length + 2), .sl 900001 1 0 x.pers.length, .d (i64 e.many)])) = _
          simp [stepsC]
      | some n0 =>
       have hN0 : N = n0 := by rw [← hN, hgm]; rfl
       obtain ⟨ix, _, hx1, hx2, _⟩ := findV_some (kd := i64D) (vd := i64D) same_int hgm 0
       refine ⟨_, hx1, ?_⟩
       conv=>whnf
       refine arith_to (N + 1) (by rw [hN0]) (wrap_i64 (by omega)) ?_
       conv=>whnf
       refine ⟨_, hx1, ?_⟩
       conv=>whnf
       have hput2 : (kvV i64D i64D e.mine).set (0 + ix, i64D n0).fst (i64 y.number, i64 (N + 1)) = kvV i64D i64D (putV e.mine y.number (N + 1)) := by
        show (kvV i64D i64D e.mine).set (0 + ix) _ = _
        rw [Nat.zero_add]; exact hx2 (N + 1)
       rw [hput2]
       obtain ⟨iz, _, hz1, _⟩ := findV_some (kd := i64D) (vd := i64D) same_int (show getV (putV e.mine y.number (N + 1)) y.number = some (N + 1) by rw [getV_put, if_pos rfl]) 0
       refine ⟨_, hz1, ?_⟩
       conv=>whnf
       refine brk_i (fun h5 => ?_) (fun h5 => ?_)
       ·have h5 : 1 < N + 1 := of_decide_eq_true h5
        rw [if_pos (.inl (by omega))] at hnx
        conv=>whnf
        refine arith_in (wrap_i64 (by (try dsimp only); omega)) ?_
        conv=>whnf
        subst hnx
        exact ⟨_, ⟨hE2, hes, by simp only; omega, by simp only; omega, hmi2⟩, (Wk.sub ⟨rfl, rfl, rfl, rfl, rfl, rfl, rfl, rfl, rfl, rfl, rfl, rfl, rfl, rfl, rfl, rfl, rfl, trivial⟩ ⟨rfl, rfl, rfl, rfl, rfl, rfl, rfl, rfl, rfl, rfl, rfl, trivial⟩)⟩
       ·have h5 : ¬ 1 < N + 1 := of_decide_eq_false h5
        conv=>whnf
        refine CallA_v (fn63 conf y.number (by omega)) rfl rfl ?_
        conv=>whnf
        refine brk_i (fun h6 => ?_) (fun h6 => ?_)
        ·have h6 : y.number ∈ conf := of_decide_eq_true h6
         rw [if_pos (.inr h6)] at hnx
         conv=>whnf
         refine arith_in (wrap_i64 (by (try dsimp only); omega)) ?_
         conv=>whnf
         subst hnx
         exact ⟨_, ⟨hE2, hes, by simp only; omega, by simp only; omega, hmi2⟩, (Wk.sub ⟨rfl, rfl, rfl, rfl, rfl, rfl, rfl, rfl, rfl, rfl, rfl, rfl, rfl, rfl, rfl, rfl, rfl, trivial⟩ ⟨rfl, rfl, rfl, rfl, rfl, rfl, rfl, rfl, rfl, rfl, rfl, trivial⟩)⟩
        ·have h6 : ¬ y.number ∈ conf := of_decide_eq_false h6
         rw [if_neg (fun h => h.elim (fun h => h5 (by omega)) h6)] at hnx
         conv=>whnf
         cases hgf : getV e.first y.number with
         | none =>
          rw [hgf] at hnx
          simp only at hnx
          have hpf := putV2_none (kd := i64D) (vd := PAt.d) (⟨i, k⟩ : PAt) hgf
          refine ⟨none, findV_none (kd := i64D) same_int hgf 0, ?_⟩
          conv=>whnf
          refine ⟨none, findV_none (kd := i64D) same_int hgf 0, ?_⟩
          conv=>whnf
          have hpf2 : kvV i64D PAt.d e.first ++ [(i64 y.number, PAt.d ⟨i, k⟩)] = kvV i64D PAt.d (putV e.first y.number ⟨i, k⟩) := hpf
          refine arith_in (wrap_i64 (by (try dsimp only); omega)) ?_
          conv=>whnf
          subst hnx
          refine ⟨_, ⟨hE2, hes, by simp only; omega, by simp only; omega, hmi2⟩, ?_⟩
          simp only
          rw [← hpf2]
          exact (Wk.sub ⟨rfl, rfl, rfl, rfl, rfl, rfl, rfl, rfl, rfl, rfl, rfl, rfl, rfl, rfl, rfl, rfl, rfl, trivial⟩ ⟨rfl, rfl, rfl, rfl, rfl, rfl, rfl, rfl, rfl, rfl, rfl, trivial⟩)
         | some r0 =>
          rw [hgf] at hnx
          simp only at hnx
          obtain ⟨j0, m0, c0, x0, hr0, hx0, hf0, -, hah⟩ := hE.fst _ _ hgf
          obtain ⟨iy, _, hy1, _⟩ := findV_some (kd := i64D) (vd := PAt.d) same_int hgf 0
          refine ⟨_, hy1, ?_⟩
          conv=>whnf
          subst hr0
          have hml := (List.getElem?_eq_some_iff.1 hx0.ent).1
          have hjl := (List.getElem?_eq_some_iff.1 hx0.book).1
          refine elemK_i c0.cells ⟨by show (0 : Int) ≤ ((j0 : Nat) : Int); omega, by show (l.books.map PBook.cells)[((j0 : Nat) : Int).toNat]? = _; rw [Int.toNat_natCast, List.getElem?_map, hx0.book]; rfl⟩ ?_
          conv=>whnf
          refine elemK_i x0.cells ⟨by show (0 : Int) ≤ ((m0 : Nat) : Int); omega, by show (c0.ents.map PEnt.cells)[((m0 : Nat) : Int).toNat]? = _; rw [Int.toNat_natCast, List.getElem?_map, hx0.ent]; rfl⟩ ?_
          conv=>whnf
          have hxs := (hR.book c0 (List.mem_of_getElem? hx0.book)).ent x0 (List.mem_of_getElem? hx0.ent)
          have hj0 : j0 < i := by
           rcases hah with hah | ⟨hji, hah⟩
           ·exact hah
           ·have hb0 := hx0.book
            rw [hji] at hb0
            have hcb : c0 = b := Option.some.inj (hb0.symm.trans hx)
            have h7 := (hE.mine y.number).2.2 ⟨m0, hah, hcb ▸ hf0⟩
            rw [hN] at h7
            omega
          have hpj := hI.pers.2 j0 c0 hx0.book hj0
          refine arith_to (y.shown - x0.shown) rfl (wrap_i64 (by omega)) ?_
          conv=>whnf
          refine brk_i (fun _ => ?_) (fun h => absurd h (by
           show ¬ ((decide (0 ≤ ((j0 : Nat) : Int)) && decide (((j0 : Nat) : Int) < ((x.pers.length : Nat) : Int))) = false)
           have := hI.pers.1
           simp; omega))
          conv=>whnf
          refine cellK_i [.vs ((persOf j0 c0).map Per.cells)] (by
           show (persC x.pers)[0 + ((j0 : Nat) : Int).toNat]? = _
           unfold persC
           rw [Int.toNat_natCast, Nat.zero_add, List.getElem?_map, hpj]; rfl) ?_
          conv=>whnf
          refine elemK_i (Per.cells ⟨j0, (perOf c0 m0 : Nat)⟩) ⟨by show (0 : Int) ≤ ((m0 : Nat) : Int); omega, by show ((persOf j0 c0).map Per.cells)[((m0 : Nat) : Int).toNat]? = _; rw [Int.toNat_natCast, List.getElem?_map, persOf_get hml]; rfl⟩ ?_
          conv=>whnf
          refine arith_to (-(y.shown - x0.shown)) (by omega) (wrap_i64 (by omega)) ?_
          conv=>whnf
          refine ownK_whole rfl ?_
          conv=>whnf
          refine ownK_whole (by simp [Els.len, stepsC]) ?_
          conv=>whnf
          refine chk_i (decide_eq_true (by
           show ((stepsC ST).length + 2) * 40 ≤ 140737488355328
           simp [stepsC]; omega)) ?_
          conv=>whnf
          refine arith_in (wrap_i64 (by (try dsimp only); omega)) ?_
          conv=>whnf
          rw [perAt_of hx0 hpj, entAt_of hx0] at hnx
          subst hnx
          refine ⟨_, ⟨hE2, hes, by simp only [List.length_append, List.length_cons, List.length_nil]; omega, by simp only; omega, hmi2⟩, ?_⟩
          have hsc : ∀ p q : PStep, stepsC (ST ++ [p, q]) = stepsC ST ++ stepsC [p, q] := fun p q => by unfold stepsC; rw [List.map_append]
          simp only [hsc]
          refine (Wk.move 174 900000 rfl rfl).trans (Wk.sub ⟨rfl, rfl, rfl, rfl, rfl, rfl, rfl, rfl, rfl, rfl, rfl, rfl, rfl, rfl, rfl, rfl, rfl, trivial⟩ ⟨rfl, rfl, rfl, ?_, rfl, rfl, rfl, rfl, rfl, rfl, rfl, trivial⟩)
          show some (Obj.box (Cells.vv [.d (i64 l.near), .d (booksD l.books), .sl 900000 5 0 ((stepsC ST).length + 2), .sl 900001 1 0 x.pers.length, .d (i64 e.many)])) = _
          simp [stepsC]
     ·rw [if_neg h3] at hnx
      have h1k : y.kind = 1 := by omega
      have ht : tellD y = .ifc 138 (.agg [.str y.word]) := by unfold tellD; rw [if_pos h1k]
      rw [ht]
      conv=>whnf
      refine arith_in (wrap_i64 (by (try dsimp only); omega)) ?_
      conv=>whnf
      subst hnx
      exact ⟨_, ⟨hE2, hes, by simp only; omega, by simp only; omega, fun num => by have := hmi num; simp only; omega⟩, (Wk.sub ⟨rfl, rfl, rfl, rfl, rfl, rfl, rfl, rfl, rfl, rfl, rfl, rfl, rfl, rfl, rfl, rfl, rfl, trivial⟩ ⟨rfl, rfl, rfl, rfl, rfl, rfl, rfl, rfl, rfl, rfl, rfl, trivial⟩)⟩
  ·rintro e ⟨hE, hes, hsl, hem, hmi⟩
   conv=>whnf
   refine brk_i (fun h => absurd h (by simp)) (fun _ => ?_)
   conv=>whnf
   refine ownK_whole rfl ?_
   conv=>whnf
   refine ownK_whole (by simp [Els.len, persC]) ?_
   conv=>whnf
   have hfree : (true && !nameBL 185 ((injL (persC x.pers) ++ [[V.sl 55 2 0 e.of.length]]).flatten)) = true := by
    rw [nameBL_injL]; rfl
   refine chk_i hfree ?_
   conv=>whnf
   refine chk_i (decide_eq_true (by
    show ((persC x.pers).length + 1) * 24 ≤ 140737488355328
    have := hI.pers.1
    simp [persC]; omega)) ?_
   conv=>whnf
   refine forceN_to [55, 185] (by
    show namesOfL ((injL (persC x.pers) ++ [[V.sl 55 2 0 e.of.length]]).flatten) ++ ([185] ++ []) = _
    rw [namesOfL_injL]; rfl) ?_
   conv=>whnf
   refine arith_to ((i + 1 : Nat) : Int) (by omega) (wrap_i64 (by omega)) ?_
   conv=>whnf
   have hes : e = ER := hes
   subst hes
   have hofl : e.of.length = b.ents.length := by rw [hE.of]; simp
   refine ⟨⟨e.steps, e.many, e.first, x.pers ++ [e.of]⟩, ⟨by rw [← hy] at hlk; exact hlk, by rw [← hy] at hI2; exact hI2, by simp only; have := hB.ents; omega, by simp only; have := hB.ents; omega⟩, ?_⟩
   refine (Wk.frzArr 1 [55] 185 (sz := 1) (vs := injL (persC x.pers) ++ [[.sl 55 2 0 e.of.length]]) (ds := persC x.pers ++ [[.vs (persP e.of)]]) ?_ (viewLL_app (viewLL_one (viewL_cons (viewV_sl rfl (by simp [persP])) rfl)) _)).trans ((Wk.move 185 900001 rfl rfl).trans (Wk.sub ⟨rfl, rfl, rfl, rfl, rfl, rfl, rfl, rfl, rfl, trivial⟩ ⟨rfl, rfl, rfl, ?_, rfl, ?_, rfl, trivial⟩))
   ·rfl
   ·show some (Obj.box (Cells.vv [.d (i64 l.near), .d (booksD l.books), .sl 900000 5 0 e.steps.length, .sl 900001 1 0 ((persC x.pers).length + 1), .d (i64 e.many)])) = _
    simp [persC]
   ·show some (Obj.arr 1 (Els.dd (persC x.pers ++ [[.vs (persP e.of)]]))) = _
    unfold persC persP
    rw [List.map_append]; rfl
 ·rintro x ⟨hlk, hI, hst, hmn⟩
  have hlk : x = RES := hlk
  subst hlk
  conv=>whnf
  refine brk_i (fun h => absurd h (by simp)) (fun _ => ?_)
  conv=>whnf
  refine RetA_view 2 (ds := [lookD l x]) (viewL_cons (viewV_ptr rfl (viewL_app (a := [i64 l.near, booksD l.books]) (viewL_cons (viewV_sl' (es' := stepsC x.steps) rfl rfl (by simp [stepsC])) (viewL_cons (viewV_sl' (es' := persC x.pers) rfl rfl (by simp [persC])) rfl)))) rfl) ⟨⟨rfl, rfl⟩, rfl⟩
end Go.PX
