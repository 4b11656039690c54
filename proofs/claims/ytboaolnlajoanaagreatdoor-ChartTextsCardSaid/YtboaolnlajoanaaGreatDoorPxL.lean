import Derived.Test.YtboaolnlajoanaaGreatDoorPxK
import Derived.Test.YtboaolnlajoanaaGreatDoorPxI
import Derived.Test.YtboaolnlajoanaaGreatDoorPxJ
set_option linter.all false
set_option maxRecDepth 10000
namespace Go.PX
open Go.RowKit
structure FnX {σ : Type} (P : Program) (Y : Hd σ) (f : FuncId) (args : List V) (h : Heap) (s : σ) (Q : V → Heap → σ → Prop) (X : Value → Heap → σ → Prop) : Prop where
 enter : ∀ (vs : Array Value) (w : World), (callFunc f vs).run P w = .ok (.enter f vs) w
 run : ∀ (cx : Cx σ), Handles P Y cx → ∀ (L : Loc) (F : Nat → Nat) (vals : Array Value) (w : World), HeapOk cx L F h s w → RepVL cx.yv L F w args vals.toList →
  CallsIn Fence.wide 0 P f vals w fun e w' => (∃ x, e = .returned x ∧ ∃ v h' s' L' F', Q v h' s' ∧ HeapOk cx L' F' h' s' w' ∧ RepV cx.yv L' F' w' v x ∧ Tr F w F' w' ∧ PinEq L L') ∨
   ∃ pv h' s' L' F', e = .panicked [{ v := pv, recovered := false }] ∧ X pv h' s' ∧ HeapOk cx L' F' h' s' w' ∧ Tr F w F' w' ∧ PinEq L L'
def FnXU (P : Program) (f : FuncId) (args : List V) (h : Heap) (Q : V → Heap → Prop) (X : Value → Heap → Prop) : Prop :=
 ∀ {σ : Type} (Y : Hd σ) (s : σ), FnX P Y f args h s (fun v h' s' => Q v h' ∧ s' = s) fun pv h' s' => X pv h' ∧ s' = s
def panY {σ : Type} (Y : Hd σ) (X : Value → Heap → σ → Prop) : Hd σ := { y := Y.y, p := fun pv _ h s => RetA [] h s fun _ h' s' => X pv h' s' }
section
variable {P : Program} {T : Tys} {σ : Type}
theorem leaves_marks_p {cx : Cx σ} {L : Loc} {F0 : Nat → Nat} {w0 : World} {h : Heap} {s : σ} {fn : Func} {tmps : Array Value} {R : Ending → World → Prop} {ch : List PanicEntry} : ∀ (m : List Nat) {F : Nat → Nat} {w : World}, HeapOk cx L F h s w → Tr F0 w0 F w →
  (∀ b ∈ m, w.heap[b]? = some (.deferred (some [])) ∧ ¬ cx.C s b) → m.Nodup → (∀ w', HeapOk cx L F h s w' → Tr F w F w' → R (.panicked ch) w') →
  LeavesInM Fence.wide 0 P fn tmps R (m.map mark) (.panicking ch) w
 | [], F, w, hh, tr, hm, hn, hR => by
  simp only [List.map_nil, LeavesInM, LeavesIn]
  exact hR w hh (Tr.refl F w)
 | b :: m, F, w, hh, tr, hm, hn, hR => by
  obtain ⟨hb, hC⟩ := hm b (List.mem_cons_self ..)
  obtain ⟨hh', tr'⟩ := hh.unmark hb hC
  simp only [List.map_cons, LeavesInM]
  refine ⟨by simp, .inl ⟨b, w.putObj b (.deferred none), rfl, ?_, ?_⟩⟩
  ·simp [Instr.takeDeferred, Sem.run_bind, getObj, setObj, Sem.run, hb, Result.andThen, World.putObj]
  ·have hnd := List.nodup_cons.1 hn
   refine leaves_marks_p m hh' (Tr.trans tr tr') (fun x hx => ?_) hnd.2 fun w' h1 h2 => hR w' h1 (Tr.trans tr' h2)
   have hxb : x ≠ b := by rintro rfl; exact hnd.1 hx
   refine ⟨?_, (hm x (List.mem_cons_of_mem _ hx)).2⟩
   rw [← (hm x (List.mem_cons_of_mem _ hx)).1]
   simp [World.putObj, Array.getElem?_setIfInBounds_ne (Ne.symm hxb)]
theorem fnX_of (hm : P.follows .mixedOrders = true) (hT : TysOk P T) {Y : Hd σ} {f : FuncId} {fn : Func} {c : Code} (hf : P.funcs[f]? = some fn) (hb : fn.body = some c) {ft : FT} {args : List V} (hok : fnB ft fn args.length = true)
  {h : Heap} {s : σ} {Q : V → Heap → σ → Prop} {X : Value → Heap → σ → Prop} (hw : wpA P T ft (panY Y X) c ⟨enterE 0 args, h, s⟩ (fnK T fn.results.toList Q)) : FnX P Y f args h s Q X := by
 unfold fnB at hok
 rw [hb] at hok
 simp only [Bool.and_eq_true, bne_iff_ne, ne_eq] at hok
 obtain ⟨⟨⟨⟨hcode, hdraws⟩, hnt⟩, hname⟩, hlen⟩ := hok
 have hnt := Nat.le_of_ble_eq_true hnt
 have hlen := Nat.le_of_ble_eq_true hlen
 refine ⟨fun vs w => by simp [callFunc, hf, hname, hb, Go.mark], fun cx hY L F vals w hh hr => ?_⟩
 have hvl : vals.size = args.length := by simpa using hr.length
 have hsz : (vals ++ Array.replicate (fn.ntmps - vals.size) undef).size = fn.ntmps := by simp; omega
 refine callsIn_of_wp_marks hf hb trivial ?_
 have hg : Good { cx with pρ := L.ρ, pκ := L.κ, base := [] } none [] L F ⟨enterE 0 args, h, s⟩ { tmps := vals ++ Array.replicate (fn.ntmps - vals.size) undef, defers := [] } w := by
  refine ⟨⟨hh.hg, hh.csz, hh.fresh, hh.obj, hh.own, hh.inj⟩, fun t v ht => ?_, rfl, (fun b hb => by cases hb), List.nodup_nil, (fun l hl => by cases hl), fun _ _ => ⟨rfl, rfl⟩, by rw [hsz]; exact hnt⟩
  obtain ⟨k, hk, hv⟩ := get_enter ht
  rw [Nat.zero_add] at hk; subst hk
  obtain ⟨x, hx, hrx⟩ := hr.get t hv
  refine ⟨x, ?_, hrx⟩
  have hlt : t < vals.size := by
   have := (List.getElem?_eq_some_iff.1 hx).1
   simpa using this
  rw [Array.getElem?_append_left hlt]
  simpa using hx
 have hY' : Handles P (panY Y X) { cx with pρ := L.ρ, pκ := L.κ, base := [] } := by
  refine ⟨?_, hY.laid⟩
  intro l hl args h s Q hy L' F' vals w hh' hr
  obtain ⟨fn, tmps, asg, body, h1, h2⟩ := hY.yld l hl args h s Q hy L' F' vals w ⟨hh'.hg, hh'.csz, hh'.fresh, hh'.obj, hh'.own, hh'.inj⟩ hr
  refine ⟨fn, tmps, asg, body, h1, h2.mono ?_⟩
  rintro e w' ⟨x, he, v, h', s', L'', F'', hq, hh'', rest⟩
  exact ⟨x, he, v, h', s', L'', F'', hq, ⟨hh''.hg, hh''.csz, hh''.fresh, hh''.obj, hh''.own, hh''.inj⟩, rest⟩
 have hwp := wpA_sound hT c (drawsB_spec hm hT hdraws) ⟨enterE 0 args, h, s⟩ _ hw _ hY' none [] L F _ w hg (by rw [hsz]; exact hcode)
 have hwp : c.wpIn Fence.wide 0 P _ { tmps := vals ++ Array.replicate (fn.ntmps - vals.size) undef, defers := [] } w := hwp
 refine wpIn_mono hwp fun ex a' w' hq => ?_
 rcases hq with ⟨e', st', m', L', F', rfl, hk, hg', tr, hs⟩ | ⟨pv, e', h', s', m', L', F', rfl, hy, hg', tr, hs⟩
 case inr =>
  show LeavesInM Fence.wide 0 P fn a'.tmps _ a'.defers (.panicking [{ v := pv, recovered := false }]) w'
  rw [hg'.dfr, List.append_nil]
  refine leaves_marks_p m' hg'.heap tr hg'.mks hg'.mnd fun w'' hh'' tr'' => ?_
  obtain ⟨hy⟩ := (show RetA [] h' s' (fun _ h' s' => X pv h' s') from hy)
  obtain ⟨v, h2, L2, F2, hx, hh2, _, tr2, pin2⟩ := hy cx L' F' [] w'' ⟨hh''.hg, hh''.csz, hh''.fresh, hh''.obj, hh''.own, hh''.inj⟩ rfl
  refine .inr ⟨pv, h2, s', L2, F2, rfl, hx, hh2, Tr.trans tr (Tr.trans tr'' tr2), fun i hi => ?_⟩
  obtain ⟨p1, p2⟩ := pin2 i hi
  obtain ⟨p3, p4⟩ := hg'.pin i hi
  exact ⟨p1.trans p3, p2.trans p4⟩
 have fin : fnK T fn.results.toList Q .normal st' → LeavesInM Fence.wide 0 P fn a'.tmps (fun e w' => (∃ x, e = .returned x ∧ ∃ v h' s' L' F', Q v h' s' ∧ HeapOk cx L' F' h' s' w' ∧ RepV cx.yv L' F' w' v x ∧ Tr F w F' w' ∧ PinEq L L') ∨
   ∃ pv h' s' L' F', e = .panicked [{ v := pv, recovered := false }] ∧ X pv h' s' ∧ HeapOk cx L' F' h' s' w' ∧ Tr F w F' w' ∧ PinEq L L') a'.defers .returning w' := by
  intro hk
  rw [hg'.dfr, List.append_nil]
  refine leaves_marks m' hg'.heap tr hg'.mks hg'.mnd fun w'' hh'' tr'' => ?_
  obtain ⟨e1, h1, s1⟩ := st'
  have hk : resK T e1 h1 fn.results.toList fun l => RetA l h1 s1 Q := hk
  obtain ⟨l, ⟨hret⟩, hrun⟩ := resK_t (P := P) hT hk
  have hg'' : Good { cx with pρ := L.ρ, pκ := L.κ, base := [] } none [] L' F' ⟨e1, h1, s1⟩ { a' with defers := [] } w'' := by
   refine ⟨hh'', fun t v ht => ?_, rfl, (fun b hb => by cases hb), List.nodup_nil, (fun l hl => by cases hl), hg'.pin, hg'.tsz⟩
   obtain ⟨x, hx, hrx⟩ := hg'.env t v ht
   exact ⟨x, hx, RepV.mono tr'' v x (fun _ _ => ⟨rfl, rfl⟩) hrx⟩
  obtain ⟨vals', hres, hrep⟩ := hrun hg''
  obtain ⟨v, h', L2, F2, hq, hh2, hr2, tr2, pin2⟩ := hret cx L' F' vals' w'' ⟨hh''.hg, hh''.csz, hh''.fresh, hh''.obj, hh''.own, hh''.inj⟩ hrep
  refine ⟨_, run_results hres, .inl ⟨_, rfl, v, h', s1, L2, F2, hq, hh2, hr2, Tr.trans tr (Tr.trans tr'' tr2), fun i hi => ?_⟩⟩
  obtain ⟨p1, p2⟩ := pin2 i hi
  obtain ⟨p3, p4⟩ := hg'.pin i hi
  exact ⟨p1.trans p3, p2.trans p4⟩
 cases e' with
 | normal => exact fin hk
 | ret => exact fin hk
 | exit i => exact hk.elim
def cutO (d : Option Nat) (e : Env) : Env :=
 match d with
 | some d => cut e d
 | none => e
theorem get_cutE : ∀ {e : Env} {d s : Nat} {v : V}, get (cut e d) s = some v → s ≠ d ∧ get e s = some v
 | [], _, _, _, h => by cases h
 | (k, u) :: r, d, s, v, h => by
  simp only [cut] at h
  split at h
  ·rename_i hk
   obtain ⟨h1, h2⟩ := get_cutE h
   refine ⟨h1, ?_⟩
   simp only [get]
   split
   ·rename_i hs
    have := Nat.eq_of_beq_eq_true hk
    have := Nat.eq_of_beq_eq_true hs
    omega
   ·exact h2
  ·rename_i hk
   simp only [get] at h ⊢
   split at h
   ·rename_i hs
    refine ⟨fun e => ?_, h⟩
    subst e
    rw [hs] at hk
    cases hk
   ·exact get_cutE h
theorem Good.unput {cx : Cx σ} {r : Option Nat} {m : List Nat} {L : Loc} {F : Nat → Nat} {e : Env} {h : Heap} {s : σ} {a : Act} {w : World} {d : Option Nat} {x : Value} (hg : Good cx r m L F ⟨e, h, s⟩ (a.put d x) w) : Good cx r m L F ⟨cutO d e, h, s⟩ a w := by
 refine ⟨hg.heap, fun t v ht => ?_, ?_, hg.mks, hg.mnd, hg.lk, hg.pin, ?_⟩
 ·cases d with
  | none => exact hg.env t v ht
  | some d =>
   obtain ⟨h1, h2⟩ := get_cutE ht
   obtain ⟨y, h3, h4⟩ := hg.env t v h2
   refine ⟨y, ?_, h4⟩
   rw [← h3]
   simp [Act.put, Array.getElem?_setIfInBounds_ne (Ne.symm h1)]
 ·have := hg.dfr
  cases d <;> exact this
 ·have := hg.tsz
  cases d <;> simpa [Act.put] using this
theorem CallA_x {Y : Hd σ} {f : FuncId} {args0 : List V} {h0 : Heap} {s : σ} {Q : V → Heap → σ → Prop} {X : Value → Heap → σ → Prop} (hf : FnX P Y f args0 h0 s Q X) (tb : List Nat) {e : Env} {h : Heap} {d : Option Nat} {args : List V} {K : St σ → Prop}
  (hargs : renL (callR tb (d.getD 0)) args0 = args) (hlent : lentOk (callR tb (d.getD 0)) h 1000000 tb h0) (htb : nodupB tb = true) (hln : Nat.ble tb.length 1000 = true)
  (hq : ∀ v h1 s', Q v h1 s' → callB tb d v h1 = true ∧ applyK (callWs tb d v h1) e h fun e h => K ⟨e, h, s'⟩)
  (hx : ∀ pv h1 s', X pv h1 s' → callB tb d (.d (.tup [])) h1 = true ∧ applyK (callWs tb d (.d (.tup [])) h1) e h fun e h => Y.p pv (cutO d e) h s') : CallA P Y ⟨e, h, s⟩ d f args K := by
 refine ⟨hf.enter, fun cx hY r m L F a w vals hg hd hr => ?_⟩
 have htb := nodupB_spec htb
 have hln := Nat.le_of_ble_eq_true hln
 obtain ⟨R, hR⟩ : ∃ R, R = callR tb (d.getD 0) := ⟨_, rfl⟩
 have Rlent : ∀ k id, tb[k]? = some id → R (1000000 + k) = id := fun k id hk => by rw [hR]; exact callR_lent hk hln
 rw [← hR] at hargs hlent
 subst hargs
 have hh : SubT h (St.mk e h s).heap := fun _ _ h => h
 have hH := heap_lent hh hlent Rlent htb hg
 have hH0 : HeapOk (lendCx cx s w F (LentB R L h0)) ⟨fun i => L.ρ (R i), fun i => L.κ (R i)⟩ F h0 s w :=
  ⟨⟨hg.heap.hg, Nat.le_refl _, fun b hb hc => hc, fun b hb hl hc => ⟨rfl, rfl⟩⟩, fun b hb => hb.elim (hg.heap.csz b) (fun h => h.1), hH.fresh, hH.obj, fun i o hi hbk => ⟨(hH.own i o hi hbk).1, fun hC => hC.elim (hH.own i o hi hbk).2 fun hC => hC.2 ⟨i, o, hi, hbk, rfl⟩⟩, hH.inj⟩
 have hargs' : RepVL cx.yv ⟨fun i => L.ρ (R i), fun i => L.κ (R i)⟩ F w args0 vals.toList := (RepVL.ren (R := R) args0 _ fun _ _ => ⟨rfl, rfl⟩).1 hr
 have hcall := hf.run _ (lendCx_handles hY) _ F vals w hH0 hargs'
 refine hcall.mono ?_
 rintro en w' (⟨x, rfl, v, h', s', L', F', hq', hH', hv, tr, pin⟩ | ⟨pv, h', s', L', F', rfl, hx', hH', tr, pin⟩)
 ·obtain ⟨hB, hk⟩ := hq _ _ _ hq'
  obtain ⟨hHG, _, hCn, hkeep⟩ := hH'.hg
  obtain ⟨L2, hg2⟩ := good_after hB hR.symm hh hlent hg hd hHG (fun b hb => hH'.csz b (.inl hb)) (fun b hb hl hc => hCn b hb hc) hkeep hH'.fresh hH'.obj
   (fun i o hi hb => ⟨(hH'.own i o hi hb).1, fun hC => (hH'.own i o hi hb).2 (.inl hC), fun hlt => Classical.byContradiction fun hl => (hH'.own i o hi hb).2 (.inr ⟨hlt, hl⟩)⟩)
   hH'.inj hv tr pin
  rw [applyK_eq s'] at hk
  have hs2 : (applyWs (⟨e, h, s'⟩ : St σ) (callWs tb d v h')).s = s' := applyWs_s _ _
  refine .inl ⟨x, rfl, _, L2, F', ?_, hg2, tr⟩
  generalize applyWs (⟨e, h, s'⟩ : St σ) (callWs tb d v h') = st2 at hk hs2
  obtain ⟨e2, h2, s2⟩ := st2
  simp only at hs2
  subst hs2
  exact hk
 ·obtain ⟨hB, hk⟩ := hx _ _ _ hx'
  obtain ⟨hHG, _, hCn, hkeep⟩ := hH'.hg
  obtain ⟨L2, hg2⟩ := good_after (v := .d (.tup [])) (x := .tuple #[]) hB hR.symm hh hlent hg hd hHG (fun b hb => hH'.csz b (.inl hb)) (fun b hb hl hc => hCn b hb hc) hkeep hH'.fresh hH'.obj
   (fun i o hi hb => ⟨(hH'.own i o hi hb).1, fun hC => (hH'.own i o hi hb).2 (.inl hC), fun hlt => Classical.byContradiction fun hl => (hH'.own i o hi hb).2 (.inr ⟨hlt, hl⟩)⟩)
   hH'.inj ⟨#[], rfl, rfl⟩ tr pin
  rw [applyK_eq s'] at hk
  have hs2 : (applyWs (⟨e, h, s'⟩ : St σ) (callWs tb d (.d (.tup [])) h')).s = s' := applyWs_s _ _
  generalize applyWs (⟨e, h, s'⟩ : St σ) (callWs tb d (.d (.tup [])) h') = st2 at hk hs2 hg2
  obtain ⟨e2, h2, s2⟩ := st2
  simp only at hs2
  subst hs2
  exact .inr ⟨pv, cutO d e2, h2, s2, L2, F', rfl, hk, hg2.unput, tr⟩
end
end Go.PX
namespace Go.PX
open Go.Proofs
open Go.RowKit
def pan6 : Value := .iface 28 (.int .i64 6)
theorem ch90 (b : Bool) : FnXU Tryz.prog 90 [.d (.bool b)] [] (fun v h' => b = true ∧ v = .d (.tup []) ∧ h' = []) (fun pv h' => b = false ∧ pv = pan6 ∧ h' = []) := by
 intro σ Y st
 refine fnX_of mixed tysOk Tryz.func90 rfl (ft := ft90) (args := [.d (.bool b)]) (show fnB ft90 Tryz.f90 1 = true from by decide +kernel) ?_
 cases b with
 | true =>
  conv=>whnf
  exact RetA_hand [] [] [] rfl trivial rfl ⟨⟨rfl, rfl, rfl⟩, rfl⟩
 | false =>
  conv=>whnf
  exact RetA_hand [] [] [] rfl trivial rfl ⟨⟨rfl, rfl, rfl⟩, rfl⟩
theorem must_i {σ : Type} {Y : Hd σ} {e : Env} {h : Heap} {s : σ} {d : Option Nat} {b : Bool} {K : St σ → Prop} (hd : callB [] d (.d (.tup [])) [] = true)
  (ht : b = true → applyK (callWs [] d (.d (.tup [])) []) e h fun e h => K ⟨e, h, s⟩) (hf : b = false → applyK (callWs [] d (.d (.tup [])) []) e h fun e h => Y.p pan6 (cutO d e) h s) : CallA Tryz.prog Y ⟨e, h, s⟩ d 90 [.d (.bool b)] K := by
 refine CallA_x (ch90 b Y s) [] rfl rfl rfl rfl ?_ ?_
 ·rintro v h1 s' ⟨⟨hb, rfl, rfl⟩, rfl⟩
  exact ⟨hd, ht hb⟩
 ·rintro pv h1 s' ⟨⟨hb, rfl, rfl⟩, rfl⟩
  exact ⟨hd, hf hb⟩
def satX (s : ByteArray) : Int :=
 match Lib.atoiAll s.data.toList with
 | .range => Lib.atoiSat s.data.toList
 | _ => 0
theorem ch143_bad (s : ByteArray) (hs : s.size ≤ 1000000000) (h : atoiX s = none) : FnV Tryz.prog 143 [.str s] (.tup [i64 (satX s), .ifc 219 (.ref [])]) := by
 refine fnV_calls (enters Tryz.func143 rfl (by decide +kernel)) fun vals w F hl hf hr => ?_
 rw [str_vals hr]
 obtain ⟨t1, v1, hs1⟩ := hl.syn 4 (by kernel_rfl)
 obtain ⟨t2, v2, hs2⟩ := hl.rng 5 (by kernel_rfl)
 rcases hA : Lib.atoiAll s.data.toList with v | _ | _
 ·unfold atoiX at h
  rw [hA] at h
  cases h
 ·have hsat : satX s = 0 := by unfold satX; rw [hA]
  rw [hsat]
  refine (Any.strconv_Atoi_syntax Tryz.laysC172 s (by omega) hA _ w hs1 (.inr ⟨_, _, rfl⟩)).mono ?_
  rintro e w' ⟨N, rfl, hN, hblk, hb⟩
  exact ⟨_, rfl, Grown.of hb, F, fun _ _ => rfl, fun b hb' => hf b (Nat.le_trans hb.size hb'), _, rfl, _, _, rfl, rfl, _, _, rfl, ⟨_, rfl, _, _, rfl, trivial⟩, rfl⟩
 ·have hsat : satX s = Lib.atoiSat s.data.toList := by unfold satX; rw [hA]
  rw [hsat]
  refine (Any.strconv_Atoi_range Tryz.laysC172 s (by omega) hA _ w hs2 (.inr ⟨_, _, rfl⟩)).mono ?_
  rintro e w' ⟨N, rfl, hN, hblk, hb⟩
  exact ⟨_, rfl, Grown.of hb, F, fun _ _ => rfl, fun b hb' => hf b (Nat.le_trans hb.size hb'), _, rfl, _, _, rfl, rfl, _, _, rfl, ⟨_, rfl, _, _, rfl, trivial⟩, rfl⟩
def numW : List ByteArray → Option (Int × List ByteArray)
 | [] => none
 | x :: r => match atoiX x with
  | some n => some (n, r)
  | none => none
def wordsH (l : List ByteArray) : Heap := [(1000000, .box (.dd [wordsD l]))]
theorem ch132 (l : List ByteArray) (hl : ∀ x ∈ l, x.size ≤ 1000000000) : FnXU Tryz.prog 132 [.ptr 1000000 0] (wordsH l) (fun v h' => ∃ n r, numW l = some (n, r) ∧ v = .d (i64 n) ∧ h' = wordsH r) (fun pv h' => numW l = none ∧ pv = pan6 ∧ h' = wordsH l) := by
 intro σ Y st
 refine fnX_of mixed tysOk Tryz.func132 rfl (ft := ft132) (args := [.ptr 1000000 0]) (show fnB ft132 Tryz.f132 1 = true from by decide +kernel) ?_
 conv=>whnf
 refine must_i rfl (fun hb => ?_) (fun hb => ?_)
 ·cases l with
  | nil => cases hb
  | cons x r =>
   conv=>whnf
   cases hA : atoiX x with
   | some n =>
    refine CallA_v (ch143 x n (hl x (List.mem_cons_self ..)) hA) rfl rfl ?_
    conv=>whnf
    refine must_i rfl (fun _ => ?_) (fun h => by cases h)
    conv=>whnf
    refine chk_i (by simp; omega) ?_
    conv=>whnf
    exact RetA_hand [] [.d (i64 n)] (wordsH r) rfl ⟨by show _ = some (Obj.box (.dd [wordsD r])); refine congrArg (fun z => some (Obj.box (Cells.dd [D.vs z]))) ?_; (try simp only [List.drop_succ_cons, List.drop_zero, List.map_cons, List.length_cons, List.take_succ_cons]); exact List.take_of_length_le (by simp), trivial⟩ rfl ⟨⟨n, r, by simp [numW, hA], rfl, rfl⟩, rfl⟩
   | none =>
    refine CallA_v (ch143_bad x (hl x (List.mem_cons_self ..)) hA) rfl rfl ?_
    conv=>whnf
    refine must_i rfl (fun h => by cases h) (fun _ => ?_)
    conv=>whnf
    exact RetA_hand [] [] (wordsH (x :: r)) rfl ⟨rfl, trivial⟩ rfl ⟨⟨by simp [numW, hA], rfl, rfl⟩, rfl⟩
 ·cases l with
  | cons x r => exact absurd hb (by simp)
  | nil =>
   conv=>whnf
   exact RetA_hand [] [] (wordsH []) rfl ⟨rfl, trivial⟩ rfl ⟨⟨rfl, rfl, rfl⟩, rfl⟩
def pairW (l : List ByteArray) : Option ((Int × Int) × List ByteArray) :=
 match numW l with
 | some (a, r) => match numW r with
  | some (b, r) => some ((a, b), r)
  | none => none
 | none => none
theorem numW_mem {l r : List ByteArray} {n : Int} (h : numW l = some (n, r)) : ∃ x, l = x :: r := by
 cases l with
 | nil => cases h
 | cons x l =>
  rw [numW] at h
  split at h
  ·cases h; exact ⟨x, rfl⟩
  ·cases h
theorem ch118 (l : List ByteArray) (hl : ∀ x ∈ l, x.size ≤ 1000000000) : FnXU Tryz.prog 118 [.ptr 1000000 0] (wordsH l) (fun v h' => ∃ a b r, pairW l = some ((a, b), r) ∧ v = .d (.agg [i64 a, i64 b]) ∧ h' = wordsH r) (fun pv h' => pairW l = none ∧ pv = pan6 ∧ ∃ r, h' = wordsH r) := by
 intro σ Y st
 refine fnX_of mixed tysOk Tryz.func118 rfl (ft := ft118) (args := [.ptr 1000000 0]) (show fnB ft118 Tryz.f118 1 = true from by decide +kernel) ?_
 conv=>whnf
 refine CallA_x (ch132 l hl _ _) [1000000] rfl ⟨_, _, rfl, rfl, rfl⟩ rfl rfl ?_ ?_
 ·rintro v h1 s' ⟨⟨a, r, ha, rfl, rfl⟩, rfl⟩
  refine ⟨rfl, ?_⟩
  obtain ⟨x, rfl⟩ := numW_mem ha
  conv=>whnf
  refine CallA_x (ch132 r (fun y hy => hl y (List.mem_cons_of_mem _ hy)) _ _) [1000000] rfl ⟨_, _, rfl, rfl, rfl⟩ rfl rfl ?_ ?_
  ·rintro v h1 s' ⟨⟨b, r2, hb, rfl, rfl⟩, rfl⟩
   refine ⟨rfl, ?_⟩
   conv=>whnf
   exact RetA_hand [] [.d (.agg [i64 a, i64 b])] (wordsH r2) rfl ⟨rfl, trivial⟩ rfl ⟨⟨a, b, r2, by rw [pairW, ha]; simp only; rw [hb], rfl, rfl⟩, rfl⟩
  ·rintro pv h1 s' ⟨⟨hb, rfl, rfl⟩, rfl⟩
   refine ⟨rfl, ?_⟩
   conv=>whnf
   exact RetA_hand [] [] (wordsH r) rfl ⟨rfl, trivial⟩ rfl ⟨⟨by rw [pairW, ha]; simp only; rw [hb], rfl, r, rfl⟩, rfl⟩
 ·rintro pv h1 s' ⟨⟨ha, rfl, rfl⟩, rfl⟩
  refine ⟨rfl, ?_⟩
  conv=>whnf
  exact RetA_hand [] [] (wordsH l) rfl ⟨rfl, trivial⟩ rfl ⟨⟨by rw [pairW, ha], rfl, l, rfl⟩, rfl⟩
theorem ch119 (l : List ByteArray) (hl : ∀ x ∈ l, x.size ≤ 1000000000) : FnXU Tryz.prog 119 [.ptr 1000000 0] (wordsH l) (fun v h' => ∃ a b r, pairW l = some ((a, b), r) ∧ v = .d (.agg [i64 a, i64 b]) ∧ h' = wordsH r) (fun pv h' => pairW l = none ∧ pv = pan6 ∧ ∃ r, h' = wordsH r) := by
 intro σ Y st
 refine fnX_of mixed tysOk Tryz.func119 rfl (ft := ft119) (args := [.ptr 1000000 0]) (show fnB ft119 Tryz.f119 1 = true from by decide +kernel) ?_
 conv=>whnf
 refine CallA_x (ch132 l hl _ _) [1000000] rfl ⟨_, _, rfl, rfl, rfl⟩ rfl rfl ?_ ?_
 ·rintro v h1 s' ⟨⟨a, r, ha, rfl, rfl⟩, rfl⟩
  refine ⟨rfl, ?_⟩
  obtain ⟨x, rfl⟩ := numW_mem ha
  conv=>whnf
  refine CallA_x (ch132 r (fun y hy => hl y (List.mem_cons_of_mem _ hy)) _ _) [1000000] rfl ⟨_, _, rfl, rfl, rfl⟩ rfl rfl ?_ ?_
  ·rintro v h1 s' ⟨⟨b, r2, hb, rfl, rfl⟩, rfl⟩
   refine ⟨rfl, ?_⟩
   conv=>whnf
   exact RetA_hand [] [.d (.agg [i64 a, i64 b])] (wordsH r2) rfl ⟨rfl, trivial⟩ rfl ⟨⟨a, b, r2, by rw [pairW, ha]; simp only; rw [hb], rfl, rfl⟩, rfl⟩
  ·rintro pv h1 s' ⟨⟨hb, rfl, rfl⟩, rfl⟩
   refine ⟨rfl, ?_⟩
   conv=>whnf
   exact RetA_hand [] [] (wordsH r) rfl ⟨rfl, trivial⟩ rfl ⟨⟨by rw [pairW, ha]; simp only; rw [hb], rfl, r, rfl⟩, rfl⟩
 ·rintro pv h1 s' ⟨⟨ha, rfl, rfl⟩, rfl⟩
  refine ⟨rfl, ?_⟩
  conv=>whnf
  exact RetA_hand [] [] (wordsH l) rfl ⟨rfl, trivial⟩ rfl ⟨⟨by rw [pairW, ha], rfl, l, rfl⟩, rfl⟩
end Go.PX
namespace Go.PX
open Go.Proofs
open Go.RowKit Go.Proofs
set_option maxHeartbeats 1000000 in
set_option maxRecDepth 100000 in
theorem bld_string (b g cap : Nat) (p : Value) (s : ByteArray) (c : Array Value) (w : World) (hb : w.heap[b]? = some (.cells #[p, .slice (some ⟨g, 0, none⟩) s.size cap] 170 (0, 0))) (hg : w.heap[g]? = some (.cells c 5 (0, 0)))
  (h0 : 0 < s.size) (hcap : s.size ≤ cap) (hc : s.size ≤ c.size) (hm : s.size ≤ 140737488355328) (htake : c.toList.take s.size = byteVals s) :
  Calls Tryz.prog 114 #[.pointer (some ⟨b, 0, none⟩)] w fun e w' => e = .returned (.string s) ∧ w' = (w.drew).freeze ⟨g, 0, none⟩ s.size := by
 have c1 : w.drew.cell? ⟨b, 1, none⟩ = some (.slice (some ⟨g, 0, none⟩) s.size cap) := by
  have : w.drew.heap[b]? = some (.cells #[p, .slice (some ⟨g, 0, none⟩) s.size cap] 170 (0, 0)) := hb
  rw [Lib.cell_of_heap this]; rfl
 have hSD : (Builtin.unsafeSliceData_ #[168] 188 #[.slice (some ⟨g, 0, none⟩) s.size cap]).run Tryz.prog w.drew = .ok (.pointer (some ⟨g, 0, none⟩)) w.drew :=
  Lib.run_unsafeSliceData_row _ _ _ _ _ _ (by omega)
 have hsl : s.data.toList.length = s.size := by rw [Array.length_toList]; rfl
 have hUS : (Builtin.unsafeString_ #[188, 3] 9 #[.pointer (some ⟨g, 0, none⟩), .int .i64 s.size]).run Tryz.prog w.drew = .ok (.string s) (w.drew.freeze ⟨g, 0, none⟩ s.size) := by
  have := Lib.run_unsafeString_row (P := Tryz.prog) w.drew 188 3 9 5 Tryz.underlying188 (by kernel_rfl) g c.size (by have hg' : w.drew.heap[g]? = some (.cells c 5 (0, 0)) := hg; simp [World.shape?, hg']) s.data.toList (by intro e; rw [e] at hsl; simp at hsl; omega) (by omega) (by omega) (by
   intro j x hx
   have hj : j < s.size := by rw [← hsl]; exact (List.getElem?_eq_some_iff.1 hx).1
   have hv : (byteVals s)[j]? = some (.int .u8 x.toNat) := by simp [byteVals, hx]
   rw [← htake, List.getElem?_take_of_lt hj] at hv
   have hg' : w.drew.heap[g]? = some (.cells c 5 (0, 0)) := hg
   rw [add_none, Nat.zero_add, Lib.cell_of_heap hg']
   simpa using hv)
  rw [hsl] at this
  exact this
 go_enter Tryz.func114, Tryz.ntmps114
 go_wp2
 go_region
 all_goals (go_wp2; go_ret; exact ⟨rfl, rfl⟩)
set_option maxHeartbeats 1000000 in
set_option maxRecDepth 100000 in
theorem bld_empty (b : Nat) (p : Value) (w : World) (hb : w.heap[b]? = some (.cells #[p, .slice none 0 0] 170 (0, 0))) :
  Calls Tryz.prog 114 #[.pointer (some ⟨b, 0, none⟩)] w fun e w' => e = .returned (.string .empty) ∧ w' = w.drew := by
 have hUS : (Builtin.unsafeString_ #[188, 3] 9 #[.pointer none, .int .i64 0]).run Tryz.prog w.drew = .ok (.string .empty) w.drew := Lib.run_unsafeString_none _ _ _ _ _
 have c1 : w.drew.cell? ⟨b, 1, none⟩ = some (.slice none 0 0) := by
  have : w.drew.heap[b]? = some (.cells #[p, .slice none 0 0] 170 (0, 0)) := hb
  rw [Lib.cell_of_heap this]; rfl
 have hSD : (Builtin.unsafeSliceData_ #[168] 188 #[.slice none 0 0]).run Tryz.prog w.drew = .ok (.pointer none) w.drew := rfl
 go_enter Tryz.func114, Tryz.ntmps114
 go_wp2
 go_region
 all_goals (go_wp2; go_ret; exact ⟨rfl, rfl⟩)
end Go.PX
namespace Go.PX
open Go.Proofs
open Go.RowKit
theorem RepVL_one {yv : Option Nat} {L : Loc} {F : Nat → Nat} {w : World} {v : V} {vals : Array Value} (h : RepVL yv L F w [v] vals.toList) : ∃ x, vals = #[x] ∧ RepV yv L F w v x := by
 obtain ⟨x, l', h1, h2, h3⟩ := h
 have h3 : l' = [] := h3
 subst h3
 exact ⟨x, Array.ext' h1, h2⟩
def bldN (i : Nat) : Heap := [(i, .tb 170 [.d .nilp, .d .nils])]
def bldU (i k : Nat) (b : ByteArray) : Heap := [(i, .tb 170 [.ptr i 0, .sl k 1 0 b.size]), (k, .buf 5 b)]
theorem ch128_used (b : ByteArray) : FnU Tryz.prog 128 [.ptr 1000000 0] (bldU 1000000 1000001 b) fun v h' => v = .d (.tup []) ∧ h' = bldU 1000000 1000001 b := by
 refine fnU_calls (enters Tryz.func128 rfl (by decide +kernel)) fun {σ} cx L F s vals w hh hr => ?_
 obtain ⟨x, rfl, hx⟩ := RepVL_one hr
 have hx : x = .pointer (some ⟨L.ρ 1000000, 0, none⟩) := hx
 subst hx
 obtain ⟨c, hc, hrc⟩ := hh.obj 1000000 _ rfl
 obtain ⟨x0, l', hl, h0, _⟩ := hrc
 have h0 : x0 = .pointer (some ⟨L.ρ 1000000, 0, none⟩) := h0
 subst h0
 refine (bld_used (L.ρ 1000000) w (by rw [cell_of_row _ _ _ _ _ _ hc, ← Array.getElem?_toList, hl]; rfl)).mono ?_
 rintro e w' ⟨rfl, rfl⟩
 exact ⟨_, rfl, hh, ⟨#[], rfl, rfl⟩, Tr.refl F _⟩
theorem ch128_fresh : FnU Tryz.prog 128 [.ptr 1000000 0] (bldN 1000000) fun v h' => v = .d (.tup []) ∧ h' = [(1000000, .tb 170 [.ptr 1000000 0, .d .nils])] := by
 refine fnU_calls (enters Tryz.func128 rfl (by decide +kernel)) fun {σ} cx L F s vals w hh hr => ?_
 obtain ⟨x, rfl, hx⟩ := RepVL_one hr
 have hx : x = .pointer (some ⟨L.ρ 1000000, 0, none⟩) := hx
 subst hx
 obtain ⟨c, hc, hrc⟩ := hh.obj 1000000 _ rfl
 obtain ⟨x0, l', hl, h0, x1, l'', hl', h1, hnil⟩ := hrc
 have h0 : x0 = .pointer none := h0
 have h1 : x1 = .slice none 0 0 := h1
 have hnil : l'' = [] := hnil
 subst h0 h1 hnil hl'
 have hc' : c = #[.pointer none, .slice none 0 0] := Array.ext' hl
 subst hc'
 refine (bld_fresh (L.ρ 1000000) w (by rw [cell_of_row _ _ _ _ _ _ hc]; rfl) (by simp [World.shape?, hc]) (by simp [World.frozen?, hc])).mono ?_
 rintro e w' ⟨rfl, rfl⟩
 have hg : Good { cx with pρ := L.ρ, pκ := L.κ, base := [] } none [] L F (⟨[], bldN 1000000, s⟩ : St σ) { tmps := #[], defers := [] } w :=
  ⟨⟨hh.hg, hh.csz, hh.fresh, hh.obj, hh.own, hh.inj⟩, fun t v ht => (by cases ht), rfl, (fun b hb => by cases hb), List.nodup_nil, (fun l hl => by cases hl), fun _ _ => ⟨rfl, rfl⟩, by simp⟩
 have hblk : (w.setCell ⟨L.ρ 1000000, 0, none⟩ (.pointer (some ⟨L.ρ 1000000, 0, none⟩))).heap[L.ρ 1000000]? = some (.cells #[.pointer (some ⟨L.ρ 1000000, 0, none⟩), .slice none 0 0] 170 (0, 0)) := by
  simp [World.setCell, Array.getElem?_modify, hc]
 obtain ⟨g1, g2⟩ := hg.obj (id := 1000000) (o := .tb 170 [.ptr 1000000 0, .d .nils]) rfl trivial (w' := w.setCell ⟨L.ρ 1000000, 0, none⟩ (.pointer (some ⟨L.ρ 1000000, 0, none⟩))) rfl rfl rfl (by simp [World.setCell]) (fun b hb => by simp [World.setCell, Array.getElem?_modify, Ne.symm hb])
  (by rw [hc]; intro ds e; cases e) (by rw [hc]; intro lp e; cases e) ⟨_, hblk, _, _, rfl, rfl, _, _, rfl, rfl, rfl⟩
 have g3 := g1.heap
 exact ⟨_, rfl, ⟨g3.hg, g3.csz, g3.fresh, g3.obj, g3.own, g3.inj⟩, ⟨#[], rfl, rfl⟩, g2⟩
theorem ch114 (b : ByteArray) (h0 : 0 < b.size) (hm : b.size ≤ 140737488355328) : FnU Tryz.prog 114 [.ptr 1000000 0] (bldU 1000000 1000001 b) fun v h' => v = .d (.str b) ∧ h' = [(1000000, .tb 170 [.ptr 1000000 0, .unk])] := by
 refine fnU_calls (enters Tryz.func114 rfl (by decide +kernel)) fun {σ} cx L F s vals w hh hr => ?_
 obtain ⟨x, rfl, hx⟩ := RepVL_one hr
 have hx : x = .pointer (some ⟨L.ρ 1000000, 0, none⟩) := hx
 subst hx
 obtain ⟨c, hc, hrc⟩ := hh.obj 1000000 _ rfl
 obtain ⟨x0, l', hl, h0', x1, l'', hl', h1, hnil⟩ := hrc
 have h0' : x0 = .pointer (some ⟨L.ρ 1000000, 0, none⟩) := h0'
 have hnil : l'' = [] := hnil
 subst h0' hnil hl'
 obtain ⟨ad, cap, rfl, hcap, _, hb⟩ := h1
 rcases hb with ⟨e, _⟩ | ⟨rfl, hb⟩
 ·omega
 rw [Nat.zero_add, Nat.mul_one] at hb
 have hc' : c = #[.pointer (some ⟨L.ρ 1000000, 0, none⟩), .slice (some ⟨L.ρ 1000001, 0, none⟩) b.size cap] := Array.ext' hl
 subst hc'
 obtain ⟨c2, hc2, hk2, hs2, ht2⟩ := hh.obj 1000001 _ rfl
 refine (bld_string (L.ρ 1000000) (L.ρ 1000001) cap _ b c2 w hc hc2 h0 hcap hs2 hm ht2).mono ?_
 rintro e w' ⟨rfl, rfl⟩
 obtain ⟨q1, q2⟩ := hh.own 1000001 _ rfl trivial
 have hne : L.ρ 1000000 ≠ L.ρ 1000001 := fun e => by
  have := hh.inj 1000000 1000001 _ _ rfl rfl trivial trivial e
  omega
 have hh2 : HeapOk cx L F [(1000000, .tb 170 [.ptr 1000000 0, .unk])] s w := by
  refine ⟨hh.hg, hh.csz, hh.fresh, fun id o ho => ?_, fun id o ho hb => ?_, fun i j o p hi hj hbi hbj e => ?_⟩
  ·obtain ⟨rfl, rfl⟩ : id = 1000000 ∧ o = .tb 170 [.ptr 1000000 0, .unk] := by
    simp only [get] at ho
    split at ho
    ·rename_i he; cases ho; exact ⟨(Nat.eq_of_beq_eq_true he).symm, rfl⟩
    ·cases ho
   exact ⟨_, hc, _, _, rfl, rfl, _, _, rfl, rfl, rfl⟩
  ·obtain ⟨rfl, rfl⟩ : id = 1000000 ∧ o = .tb 170 [.ptr 1000000 0, .unk] := by
    simp only [get] at ho
    split at ho
    ·rename_i he; cases ho; exact ⟨(Nat.eq_of_beq_eq_true he).symm, rfl⟩
    ·cases ho
   exact hh.own 1000000 _ rfl trivial
  ·simp only [get] at hi hj
   split at hi
   ·rename_i he
    split at hj
    ·rename_i he2
     rw [← Nat.eq_of_beq_eq_true he, ← Nat.eq_of_beq_eq_true he2]
    ·cases hj
   ·cases hi
 obtain ⟨r1, r2⟩ := hh2.turn (w' := w.drew.freeze ⟨L.ρ 1000001, 0, none⟩ b.size) (L.ρ 1000001) q1 q2 (by simp [World.freeze]; split <;> rfl) (by simp [World.freeze]; split <;> rfl) (by simp [World.freeze]; split <;> rfl) (by simp [World.freeze]; split <;> simp)
  (fun x hx => by
   simp only [World.freeze]
   split
   ·rfl
   ·simp [Array.getElem?_modify, Ne.symm hx]; rfl) (fun id o ho hb e => by
   simp only [get] at ho
   split at ho
   ·rename_i he
    rw [← Nat.eq_of_beq_eq_true he] at e
    exact hne e
   ·cases ho)
 exact ⟨_, rfl, r1, rfl, r2⟩
theorem ch114_new : FnU Tryz.prog 114 [.ptr 1000000 0] (bldN 1000000) fun v h' => v = .d (.str .empty) ∧ h' = bldN 1000000 := by
 refine fnU_calls (enters Tryz.func114 rfl (by decide +kernel)) fun {σ} cx L F s vals w hh hr => ?_
 obtain ⟨x, rfl, hx⟩ := RepVL_one hr
 have hx : x = .pointer (some ⟨L.ρ 1000000, 0, none⟩) := hx
 subst hx
 obtain ⟨c, hc, hrc⟩ := hh.obj 1000000 _ rfl
 obtain ⟨x0, l', hl, h0, x1, l'', hl', h1, hnil⟩ := hrc
 have h1 : x1 = .slice none 0 0 := h1
 have hnil : l'' = [] := hnil
 subst h1 hnil hl'
 have hc' : c = #[x0, .slice none 0 0] := Array.ext' hl
 subst hc'
 refine (bld_empty (L.ρ 1000000) x0 w hc).mono ?_
 rintro e w' ⟨rfl, rfl⟩
 exact ⟨_, rfl, hh.same rfl rfl rfl rfl, rfl, Tr.drew _⟩
end Go.PX
namespace Go.PX
open Go.Proofs
open Go.RowKit
def wsRes (s : ByteArray) : D := .tup [i64 s.size, .nili]
theorem ch111_new (s : ByteArray) (h0 : 0 < s.size) (hm : s.size ≤ 140737488355328) : FnU Tryz.prog 111 [.ptr 1000000 0, .d (.str s)] (bldN 1000000) fun v h' => v = .d (wsRes s) ∧ h' = bldU 1000000 2000000 s := by
 intro σ Y st
 refine fnC_of mixed tysOk Tryz.func111 rfl (ft := ft111) (args := [.ptr 1000000 0, .d (.str s)]) (show fnB ft111 Tryz.f111 2 = true from by decide +kernel) ?_
 conv=>whnf
 refine CallA_fn ch128_fresh [1000000] rfl ⟨_, _, rfl, rfl, rfl⟩ rfl ?_
 conv=>whnf
 refine chk_i (by simp [h0, hm]) ?_
 conv=>whnf
 exact RetA_hand [14] [.d (i64 s.size), .d .nili] (bldU 1000000 2000000 s) rfl ⟨rfl, rfl, trivial⟩ rfl ⟨⟨rfl, rfl⟩, rfl⟩
theorem ch111 (b s : ByteArray) (h0 : 0 < b.size) (hm : b.size + s.size ≤ 140737488355328) : FnU Tryz.prog 111 [.ptr 1000000 0, .d (.str s)] (bldU 1000000 1000001 b) fun v h' => v = .d (wsRes s) ∧ h' = bldU 1000000 2000000 (b ++ s) := by
 intro σ Y st
 refine fnC_of mixed tysOk Tryz.func111 rfl (ft := ft111) (args := [.ptr 1000000 0, .d (.str s)]) (show fnB ft111 Tryz.f111 2 = true from by decide +kernel) ?_
 conv=>whnf
 refine CallA_fn (ch128_used b) [1000000, 1000001] rfl ⟨_, _, rfl, rfl, _, _, rfl, rfl, rfl⟩ rfl ?_
 conv=>whnf
 refine chk_i (by simp [h0, hm]) ?_
 conv=>whnf
 exact RetA_hand [14] [.d (i64 s.size), .d .nili] (bldU 1000000 2000000 (b ++ s)) rfl ⟨rfl, rfl, trivial⟩ rfl ⟨⟨rfl, rfl⟩, rfl⟩
theorem ch113 (b : ByteArray) (h0 : 0 < b.size) (hm : b.size + 1 ≤ 140737488355328) : FnU Tryz.prog 113 [.ptr 1000000 0, .d (.int .u8 10)] (bldU 1000000 1000001 b) fun v h' => v = .d .nili ∧ h' = bldU 1000000 2000000 (b ++ ⟨#[10]⟩) := by
 intro σ Y st
 refine fnC_of mixed tysOk Tryz.func113 rfl (ft := ft113) (args := [.ptr 1000000 0, .d (.int .u8 10)]) (show fnB ft113 Tryz.f113 2 = true from by decide +kernel) ?_
 conv=>whnf
 refine CallA_fn (ch128_used b) [1000000, 1000001] rfl ⟨_, _, rfl, rfl, _, _, rfl, rfl, rfl⟩ rfl ?_
 conv=>whnf
 refine chk_i (by simp [h0]; exact hm) ?_
 conv=>whnf
 exact RetA_hand [14] [.d .nili] (bldU 1000000 2000000 (b ++ ⟨#[10]⟩)) rfl ⟨rfl, rfl, trivial⟩ rfl ⟨⟨rfl, rfl⟩, rfl⟩
end Go.PX
namespace Go.PX
open Go.Proofs
def spB : ByteArray := ⟨#[32]⟩
def nlB : ByteArray := ⟨#[10]⟩
def numsB : List Int → ByteArray
 | [] => .empty
 | n :: r => (spB ++ numB n) ++ numsB r
def headB (w n : ByteArray) : ByteArray := (w ++ spB) ++ n
def lineB (w n : ByteArray) (l : List Int) : ByteArray := headB w n ++ numsB l ++ nlB
theorem ba_assoc (a b c : ByteArray) : a ++ b ++ c = a ++ (b ++ c) := by simp [ByteArray.append_assoc]
theorem ba_size (a b : ByteArray) : (a ++ b).size = a.size + b.size := by simp
theorem ba_nil (a : ByteArray) : a ++ ByteArray.empty = a := by simp
theorem numsB_size : ∀ (l : List Int), (numsB l).size ≤ 21 * l.length
 | [] => Nat.zero_le _
 | n :: r => by
  have h1 := numsB_size r
  have h2 := numB_size n
  have h3 : spB.size = 1 := rfl
  rw [numsB, ba_size, ba_size, List.length_cons]
  omega
def In18 (n : Int) : Prop := -1000000000000000000 ≤ n ∧ n ≤ 1000000000000000000
theorem ch110 (b w n : ByteArray) (l : List Int) (h0 : 0 < b.size) (h18 : ∀ n ∈ l, In18 n) (hll : l.length ≤ 1000000) (hm : b.size + (lineB w n l).size ≤ 140737488355328) :
  FnU Tryz.prog 110 [.d (.str w), .d (.str n), .d (intsD l), .ptr 1000000 0] (bldU 1000000 1000001 b) fun v h' => v = .d (.tup []) ∧ h' = bldU 1000000 2000000 (b ++ lineB w n l) := by
 intro σ Y st
 refine fnC_of mixed tysOk Tryz.func110 rfl (ft := ft110) (args := [.d (.str w), .d (.str n), .d (intsD l), .ptr 1000000 0]) (show fnB ft110 Tryz.f110 4 = true from by decide +kernel) ?_
 have hw : (lineB w n l).size = w.size + 1 + n.size + (numsB l).size + 1 := by simp only [lineB, headB, ba_size]; rfl
 conv=>whnf
 refine chk_i (decide_eq_true (by show w.size + 1 ≤ _; omega)) ?_
 conv=>whnf
 refine chk_i (decide_eq_true (by rw [ba_size]; show w.size + 1 + n.size ≤ _; omega)) ?_
 conv=>whnf
 refine CallA_fn (ch111 b (headB w n) h0 (by simp only [headB, ba_size]; show b.size + (w.size + 1 + n.size) ≤ _; omega)) [1000000, 1000001] rfl ⟨_, _, rfl, rfl, _, _, rfl, rfl, rfl⟩ rfl ?_
 conv=>whnf
 have hh : (headB w n).size = w.size + 1 + n.size := by simp only [headB, ba_size]; rfl
 obtain ⟨tot, htot⟩ : ∃ tot, tot = b ++ headB w n ++ numsB l := ⟨_, rfl⟩
 have hts : tot.size + 1 ≤ 140737488355328 := by rw [htot]; simp only [ba_size, hh]; omega
 refine LoopA_i (T := tys) tysOk (by exact drawsB_spec mixed tysOk (by decide +kernel)) l (fun i (acc : ByteArray) => ⟨[(3, .ptr 1000000 0), (14, .d (intsD l)), (15, .d (i64 l.length)), (16, .d (i64 i))], bldU 1000000 900000 acc, st⟩) (fun i r acc => 0 < acc.size ∧ acc ++ numsB r = tot) (b ++ headB w n) ?wk ⟨by simp only [ba_size, hh]; omega, htot.symm⟩ ?round ?fin
 case wk => exact (Wk.move 100832 900000 rfl rfl).trans (Wk.sub ⟨rfl, rfl, congrArg (fun z : Nat => some (V.d (i64 z))) (by simp), rfl, trivial⟩ ⟨rfl, rfl, trivial⟩)
 ·rintro i x r acc hx hi hir ⟨ha, hacc⟩
  have hsz : acc.size + (1 + (numB x).size) + (numsB r).size = tot.size := by
   rw [← hacc, numsB]; simp only [ba_size]; show _ = acc.size + (1 + _ + _); omega
  conv=>whnf
  refine brk_i (fun _ => ?_) (fun h1 => absurd h1 (by simp; omega))
  conv=>whnf
  refine elemK_nat hx ?_
  conv=>whnf
  refine CallA_v (ch112 x (h18 x (List.mem_of_getElem? hx))) rfl rfl ?_
  conv=>whnf
  refine chk_i (decide_eq_true (by show 1 + _ ≤ _; omega)) ?_
  conv=>whnf
  refine CallA_fn (ch111 acc (spB ++ numB x) ha (by rw [ba_size]; show acc.size + (1 + _) ≤ _; omega)) [1000000, 900000] rfl ⟨_, _, rfl, rfl, _, _, rfl, rfl, rfl⟩ rfl ?_
  conv=>whnf
  refine arith_in (wrap_i64 (by (try dsimp only); omega)) ?_
  conv=>whnf
  exact ⟨acc ++ (spB ++ numB x), ⟨by rw [ba_size]; omega, by rw [← hacc, numsB, ba_assoc]⟩, (Wk.move 101472 900000 rfl rfl).trans (Wk.sub ⟨rfl, rfl, rfl, rfl, trivial⟩ ⟨rfl, rfl, trivial⟩)⟩
 ·rintro acc ⟨ha, hacc⟩
  rw [numsB, ba_nil] at hacc
  subst hacc
  conv=>whnf
  refine brk_i (fun h1 => absurd h1 (by simp)) (fun _ => ?_)
  conv=>whnf
  refine CallA_fn (ch113 acc ha hts) [1000000, 900000] rfl ⟨_, _, rfl, rfl, _, _, rfl, rfl, rfl⟩ rfl ?_
  conv=>whnf
  have he : b ++ lineB w n l = acc ++ nlB := by rw [htot]; simp only [lineB, ba_assoc]
  rw [he]
  exact RetA_hand [101600] [] (bldU 1000000 2000000 (acc ++ nlB)) rfl ⟨rfl, rfl, trivial⟩ rfl ⟨⟨rfl, rfl⟩, rfl⟩
theorem ch110_new (w n : ByteArray) (l : List Int) (h18 : ∀ n ∈ l, In18 n) (hll : l.length ≤ 1000000) (hm : (lineB w n l).size ≤ 140737488355328) :
  FnU Tryz.prog 110 [.d (.str w), .d (.str n), .d (intsD l), .ptr 1000000 0] (bldN 1000000) fun v h' => v = .d (.tup []) ∧ h' = bldU 1000000 2000000 (lineB w n l) := by
 intro σ Y st
 refine fnC_of mixed tysOk Tryz.func110 rfl (ft := ft110) (args := [.d (.str w), .d (.str n), .d (intsD l), .ptr 1000000 0]) (show fnB ft110 Tryz.f110 4 = true from by decide +kernel) ?_
 have hw : (lineB w n l).size = w.size + 1 + n.size + (numsB l).size + 1 := by simp only [lineB, headB, ba_size]; rfl
 conv=>whnf
 refine chk_i (decide_eq_true (by show w.size + 1 ≤ _; omega)) ?_
 conv=>whnf
 refine chk_i (decide_eq_true (by rw [ba_size]; show w.size + 1 + n.size ≤ _; omega)) ?_
 conv=>whnf
 refine CallA_fn (ch111_new (headB w n) (by simp only [headB, ba_size]; show 0 < w.size + 1 + n.size; omega) (by simp only [headB, ba_size]; show (w.size + 1 + n.size) ≤ _; omega)) [1000000] rfl ⟨_, _, rfl, rfl, rfl⟩ rfl ?_
 conv=>whnf
 have hh : (headB w n).size = w.size + 1 + n.size := by simp only [headB, ba_size]; rfl
 obtain ⟨tot, htot⟩ : ∃ tot, tot = headB w n ++ numsB l := ⟨_, rfl⟩
 have hts : tot.size + 1 ≤ 140737488355328 := by rw [htot]; simp only [ba_size, hh]; omega
 refine LoopA_i (T := tys) tysOk (by exact drawsB_spec mixed tysOk (by decide +kernel)) l (fun i (acc : ByteArray) => ⟨[(3, .ptr 1000000 0), (14, .d (intsD l)), (15, .d (i64 l.length)), (16, .d (i64 i))], bldU 1000000 900000 acc, st⟩) (fun i r acc => 0 < acc.size ∧ acc ++ numsB r = tot) (headB w n) ?wk ⟨by simp only [ba_size, hh]; omega, htot.symm⟩ ?round ?fin
 case wk => exact (Wk.move 100832 900000 rfl rfl).trans (Wk.sub ⟨rfl, rfl, congrArg (fun z : Nat => some (V.d (i64 z))) (by simp), rfl, trivial⟩ ⟨rfl, rfl, trivial⟩)
 ·rintro i x r acc hx hi hir ⟨ha, hacc⟩
  have hsz : acc.size + (1 + (numB x).size) + (numsB r).size = tot.size := by
   rw [← hacc, numsB]; simp only [ba_size]; show _ = acc.size + (1 + _ + _); omega
  conv=>whnf
  refine brk_i (fun _ => ?_) (fun h1 => absurd h1 (by simp; omega))
  conv=>whnf
  refine elemK_nat hx ?_
  conv=>whnf
  refine CallA_v (ch112 x (h18 x (List.mem_of_getElem? hx))) rfl rfl ?_
  conv=>whnf
  refine chk_i (decide_eq_true (by show 1 + _ ≤ _; omega)) ?_
  conv=>whnf
  refine CallA_fn (ch111 acc (spB ++ numB x) ha (by rw [ba_size]; show acc.size + (1 + _) ≤ _; omega)) [1000000, 900000] rfl ⟨_, _, rfl, rfl, _, _, rfl, rfl, rfl⟩ rfl ?_
  conv=>whnf
  refine arith_in (wrap_i64 (by (try dsimp only); omega)) ?_
  conv=>whnf
  exact ⟨acc ++ (spB ++ numB x), ⟨by rw [ba_size]; omega, by rw [← hacc, numsB, ba_assoc]⟩, (Wk.move 101472 900000 rfl rfl).trans (Wk.sub ⟨rfl, rfl, rfl, rfl, trivial⟩ ⟨rfl, rfl, trivial⟩)⟩
 ·rintro acc ⟨ha, hacc⟩
  rw [numsB, ba_nil] at hacc
  subst hacc
  conv=>whnf
  refine brk_i (fun h1 => absurd h1 (by simp)) (fun _ => ?_)
  conv=>whnf
  refine CallA_fn (ch113 acc ha hts) [1000000, 900000] rfl ⟨_, _, rfl, rfl, _, _, rfl, rfl, rfl⟩ rfl ?_
  conv=>whnf
  have he : lineB w n l = acc ++ nlB := by rw [htot]; simp only [lineB, ba_assoc]
  rw [he]
  exact RetA_hand [101600] [] (bldU 1000000 2000000 (acc ++ nlB)) rfl ⟨rfl, rfl, trivial⟩ rfl ⟨⟨rfl, rfl⟩, rfl⟩
end Go.PX
namespace Go.PX
open Go.Proofs
def sideD (x : Pt × Pt) : D := .agg (x.1.cells ++ x.2.cells)
def sideV (x : Pt × Pt) : List V × Heap := ([.d (sideD x)], [])
def sidesL : Pt → List Pt → List (Pt × Pt)
 | _, [] => []
 | a, p :: r => (a, p.sub a) :: sidesL p r
def lastP (l : List Pt) : Pt := (l[l.length - 1]?).getD ⟨0, 0⟩
def sidesF (s : Sand) : List (Pt × Pt) := sidesL (lastP s.corners) s.corners
theorem ch103 (s : Sand) : FnV Tryz.prog 103 [s.d] (.clo 124 [.ref s.cells]) := by
 refine fnV_of mixed tysOk Tryz.func103 rfl (ft := ft103) 1 (by decide +kernel) (by rfl) fun {σ} Y st => ?_
 conv=>whnf
 exact RetA_view 1 rfl ⟨⟨rfl, rfl⟩, rfl⟩
def ft124b : FT := ⟨ft124.ks, cut ft124.tb 4⟩
def rt124 : RT := match get ft124.tb 4 with
 | some r => r
 | none => ⟨[], []⟩
theorem yields124 (s : Sand) (hl : 0 < s.corners.length) (hlm : s.corners.length < 1000000) (hp : ∀ p ∈ s.corners, Pin 1000000000000 p) : Yields Tryz.prog 124 [.ref s.cells] ((sidesF s).map sideV) := by
 intro γ Y g0 Q hit
 refine fnC_of mixed tysOk Tryz.func124 rfl (ft := ft124b) (args := [.yld, .d (.ref s.cells)]) (show fnB ft124b Tryz.f124 2 = true from by decide +kernel) ?_
 replace hit := hit.np
 generalize Y.np = Y at hit ⊢
 obtain ⟨q, hq⟩ : ∃ q, s.corners[s.corners.length - 1]? = some q := ⟨s.corners[s.corners.length - 1]'(by omega), by simp⟩
 conv=>whnf
 refine arith_to ((s.corners.length - 1 : Nat) : Int) (by simp; omega) (wrap_i64 (by omega)) ?_
 conv=>whnf
 refine elemK_nat hq ?_
 conv=>whnf
 have hsf : sidesF s = sidesL q s.corners := by unfold sidesF lastP; rw [hq]; rfl
 rw [hsf] at hit
 have hq1 : Pin 1000000000000 q := hp q (List.mem_of_getElem? hq)
 refine LoopA_p (T := tys) tysOk (by exact drawsB_spec mixed tysOk (by decide +kernel)) (α := Nat × Pt × γ)
  (fun x => ⟨[(0, .yld), (3, .ptr 3 0), (18, .d (ptsD s.corners)), (19, .d (i64 s.corners.length)), (20, .d (i64 x.1))], [(3, .box (.dd x.2.1.cells))], x.2.2⟩)
  (fun x => x.1 ≤ s.corners.length ∧ Pin 1000000000000 x.2.1 ∧ iterate Y ((sidesL x.2.1 (s.corners.drop x.1)).map sideV) x.2.2 Q) (fun x => s.corners.length - x.1) (0, q, g0) ?wk ⟨Nat.zero_le _, hq1, by simpa using hit⟩ ?_
 case wk => exact (Wk.sub ⟨(by first | rfl | (simp only [List.length_map]; rfl) | simp [PX.get]), (by first | rfl | (simp only [List.length_map]; rfl) | simp [PX.get]), (by first | rfl | (simp only [List.length_map]; rfl) | simp [PX.get]), (by first | rfl | (simp only [List.length_map]; rfl) | simp [PX.get]), (by first | rfl | (simp only [List.length_map]; rfl) | simp [PX.get]), trivial⟩ ⟨(by first | rfl | (simp only [List.length_map]; rfl) | simp [PX.get]), trivial⟩)
 clear hit g0
 rintro ⟨i, a, g0⟩ ⟨hi, ha, hit⟩
 simp only at hi ha hit
 conv=>whnf
 refine brk_i (fun h1 => ?_) (fun h1 => ?_)
 ·have h1 : i < s.corners.length := by have := of_decide_eq_true h1; simp at this; omega
  obtain ⟨p, hpi⟩ : ∃ p, s.corners[i]? = some p := ⟨s.corners[i], by simp⟩
  have hpp : Pin 1000000000000 p := hp p (List.mem_of_getElem? hpi)
  have hdr : s.corners.drop i = p :: s.corners.drop (i + 1) := by
   rw [List.drop_eq_getElem_cons h1]
   rw [List.getElem?_eq_getElem h1] at hpi
   rw [Option.some.inj hpi]
  rw [hdr, sidesL, List.map_cons] at hit
  conv=>whnf
  refine elemK_nat hpi ?_
  conv=>whnf
  refine RegionA_seq mixed tysOk rt124 6 (by decide +kernel) (by decide +kernel) ?_
  conv=>whnf
  refine DrawCall_view (ds := [a.d, p.d]) (ch81 a p ha hpp) rfl 1 rfl ?_
  conv=>whnf
  refine YldA_v (ds := [sideD (a, p.sub a)]) hit rfl rfl (fun s' hit' => ?_) (fun s' hq' => ?_)
  ·conv=>whnf
   refine arith_in (wrap_i64 (by (try dsimp only); omega)) ?_
   conv=>whnf
   exact ⟨(i + 1, p, s'), by simp only; omega, ⟨by simp only; omega, hpp, hit'⟩, (Wk.sub ⟨(by first | rfl | (simp only [List.length_map]; rfl) | simp [PX.get]), (by first | rfl | (simp only [List.length_map]; rfl) | simp [PX.get]), (by first | rfl | (simp only [List.length_map]; rfl) | simp [PX.get]), (by first | rfl | (simp only [List.length_map]; rfl) | simp [PX.get]), (by first | rfl | (simp only [List.length_map]; rfl) | simp [PX.get]), trivial⟩ ⟨(by first | rfl | (simp only [List.length_map]; rfl) | simp [PX.get]), trivial⟩)⟩
  ·conv=>whnf
   exact RetA_view 0 rfl ⟨rfl, hq'⟩
 ·have h1 : ¬ i < s.corners.length := by have := of_decide_eq_false h1; simp at this; omega
  rw [List.drop_of_length_le (by omega)] at hit
  conv=>whnf
  exact RetA_view 0 rfl ⟨rfl, hit⟩
end Go.PX
namespace Go.PX
open Go.Proofs
def rightL (x : Pt × Pt) : List Pt → Int → Int
 | [], n => n
 | p :: r, n => rightL x r (if leftF x.2 (p.sub x.1) ≤ 0 then n + 1 else n)
def sideOk (s : Sand) (x : Pt × Pt) : Bool := decide (rightL x s.corners 0 = 2) && !(decide (x.2.x = 0) && decide (x.2.y = 0))
def sandE (s : Sand) : Int :=
 if inB s.corners.length 3 8 then (if (s.corners.any fun p => !withinB 10000 p) then 7 else if boxE 500 s.moves = 0 then (if (sidesF s).all (sideOk s) then 0 else 9) else boxE 500 s.moves) else 3
theorem mem_sidesL {m : Int} : ∀ {l : List Pt} {a : Pt}, Pin m a → (∀ p ∈ l, Pin m p) → ∀ x ∈ sidesL a l, Pin m x.1 ∧ Pin (m + m) x.2
 | [], _, _, _, x, hx => by cases hx
 | p :: r, a, ha, hl, x, hx => by
  rw [sidesL] at hx
  have hp := hl p (by simp)
  rcases List.mem_cons.1 hx with rfl | hx
  ·exact ⟨ha, hp.sub ha⟩
  ·exact mem_sidesL hp (fun q hq => hl q (by simp [hq])) x hx
theorem pin_last {m : Int} {l : List Pt} (h0 : 0 < l.length) (hl : ∀ p ∈ l, Pin m p) : Pin m (lastP l) := by
 unfold lastP
 have h1 : l.length - 1 < l.length := by omega
 rw [List.getElem?_eq_getElem h1]
 exact hl _ (List.getElem_mem h1)
theorem mem_sidesF {m : Int} {s : Sand} (h0 : 0 < s.corners.length) (hl : ∀ p ∈ s.corners, Pin m p) : ∀ x ∈ sidesF s, Pin m x.1 ∧ Pin (m + m) x.2 := mem_sidesL (pin_last h0 hl) hl
set_option maxHeartbeats 1000000 in
theorem ch65 (s : Sand) : FnV Tryz.prog 65 [.agg s.cells] (i64 (sandE s)) := by
 refine fnV_of mixed tysOk Tryz.func65 rfl (ft := ft65) 1 (by decide +kernel) (by rfl) fun {σ} Y st => ?_
 conv=>whnf
 refine CallA_view (fn51_1 3 8 s.corners.length) rfl 1 (by simp; rfl) ?_
 cases h1 : inB (s.corners.length : Int) 3 8 with
 | false =>
  have he : sandE s = 3 := by unfold sandE; rw [h1]; rfl
  rw [he]
  conv=>whnf
  exact RetA_view 0 rfl ⟨⟨rfl, rfl⟩, rfl⟩
 | true =>
  have h1b := h1
  rw [inB_iff] at h1
  conv=>whnf
  refine CallA_v (ch63 10000 s.corners (by omega) (by omega)) rfl rfl ?_
  conv=>whnf
  cases h2 : s.corners.any fun p => !withinB 10000 p with
  | true =>
   have he : sandE s = 7 := by unfold sandE; rw [h1b, h2]; rfl
   rw [he]
   conv=>whnf
   exact RetA_view 0 rfl ⟨⟨rfl, rfl⟩, rfl⟩
  | false =>
   have hp : ∀ p ∈ s.corners, Pin 10000 p := by
    intro p hp
    have := List.any_eq_false.1 h2 p hp
    exact within_iff.1 (by simpa using this)
   conv=>whnf
   refine CallA_v (ch85 s.moves 500 (by omega)) rfl rfl ?_
   conv=>whnf
   refine brk_i (fun h3 => ?_) (fun h3 => ?_)
   ·have h3 : ¬ boxE 500 s.moves = 0 := by simpa using h3
    have he : sandE s = boxE 500 s.moves := by unfold sandE; rw [h1b, h2, if_pos rfl, if_neg (by simp), if_neg h3]
    rw [he]
    conv=>whnf
    exact RetA_view 0 rfl ⟨⟨rfl, rfl⟩, rfl⟩
   ·have h3 : boxE 500 s.moves = 0 := by simpa using h3
    have he : sandE s = if (sidesF s).all (sideOk s) then 0 else 9 := by unfold sandE; rw [h1b, h2, if_pos rfl, if_neg (by simp), if_pos h3]
    rw [he]
    conv=>whnf
    refine CallA_v (ch103 s) rfl rfl ?_
    conv=>whnf
    refine RangeA_list tysOk (by exact drawsB_spec mixed tysOk (by decide +kernel)) (by exact drawsB_spec mixed tysOk (by decide +kernel)) rfl 1500000 1600000 [1, 2, 13] (yields124 s (by omega) (by omega) (fun p h => (hp p h).mono (by omega)))
     (fun (_ : Unit) => ([(1500000, .box (.dd s.cells)), (1500001, .box (.dd [i64 0])), (1500002, .arr 1 (.dd [[i64 (s.corners.map Pt.cells).length]]))], st))
     (fun rest _ => (sidesF s).all (sideOk s) = rest.all (sideOk s) ∧ ∀ x ∈ rest, Pin 10000 x.1 ∧ Pin 20000 x.2) () rfl rfl rfl ⟨rfl, mem_sidesF (by omega) hp⟩ ?_ ?_
    ·rintro ⟨a, b⟩ rest _ ⟨hk, hl⟩ Q hQ1 hQ2
     refine ⟨⟨rfl, rfl⟩, ?_⟩
     obtain ⟨ha, hb⟩ := hl (a, b) (by simp)
     simp only at ha hb
     rw [List.all_cons] at hk
     conv=>whnf
     refine LoopA_i (T := tys) tysOk (by exact drawsB_spec mixed tysOk (by decide +kernel)) s.corners (fun i (n : Int) => ⟨[(1, .ptr 1500000 0), (2, .ptr 1500001 0), (4, .ptr 4 0), (5, .d (i64 n)), (32, .d (ptsD s.corners)), (33, .d (i64 (s.corners.map Pt.cells).length)), (34, .d (i64 i))], [(1500000, .box (.dd s.cells)), (1500001, .box (.dd [i64 0])), (1500002, .arr 1 (.dd [[i64 (s.corners.map Pt.cells).length]])), (4, .box (.dd (a.cells ++ b.cells)))], st⟩) (fun i r n => 0 ≤ n ∧ n ≤ i ∧ rightL (a, b) s.corners 0 = rightL (a, b) r n) 0 (Wk.sub ⟨(by first | rfl | (simp only [List.length_map]; rfl) | simp [PX.get]), (by first | rfl | (simp only [List.length_map]; rfl) | simp [PX.get]), (by first | rfl | (simp only [List.length_map]; rfl) | simp [PX.get]), (by first | rfl | (simp only [List.length_map]; rfl) | simp [PX.get]), (by first | rfl | (simp only [List.length_map]; rfl) | simp [PX.get]), (by first | rfl | (simp only [List.length_map]; rfl) | simp [PX.get]), (by first | rfl | (simp only [List.length_map]; rfl) | simp [PX.get]), trivial⟩ ⟨(by first | rfl | (simp only [List.length_map]; rfl) | simp [PX.get]), (by first | rfl | (simp only [List.length_map]; rfl) | simp [PX.get]), (by first | rfl | (simp only [List.length_map]; rfl) | simp [PX.get]), (by first | rfl | (simp only [List.length_map]; rfl) | simp [PX.get]), trivial⟩) ⟨Int.le_refl _, by simp, rfl⟩ ?_ ?_
     ·rintro i p r n hpi hi hr ⟨hn1, hn2, hn3⟩
      rw [rightL] at hn3
      have hpp := hp p (List.mem_of_getElem? hpi)
      conv=>whnf
      refine brk_i (fun _ => ?_) (fun h => absurd hi (by simpa using h))
      conv=>whnf
      refine elemK_nat hpi ?_
      conv=>whnf
      refine DrawCall_view (ds := [a.d, p.d]) (ch81 a p (ha.mono (by omega)) (hpp.mono (by omega))) rfl 1 rfl ?_
      conv=>whnf
      refine DrawCall_view (ds := [b.d, (p.sub a).d]) (ch104 b (p.sub a) (hb.mono (by omega)) ((hpp.sub ha).mono (by omega))) rfl 1 rfl ?_
      conv=>whnf
      refine brk_i (fun h4 => ?_) (fun h4 => ?_)
      ·rw [if_pos (of_decide_eq_true h4)] at hn3
       conv=>whnf
       refine arith_in (wrap_i64 (by (try dsimp only); omega)) ?_
       conv=>whnf
       conv=>whnf
       refine arith_in (wrap_i64 (by (try dsimp only); omega)) ?_
       conv=>whnf
       exact ⟨n + 1, ⟨by omega, by omega, hn3⟩, (Wk.sub ⟨(by first | rfl | (simp only [List.length_map]; rfl) | simp [PX.get]), (by first | rfl | (simp only [List.length_map]; rfl) | simp [PX.get]), (by first | rfl | (simp only [List.length_map]; rfl) | simp [PX.get]), (by first | rfl | (simp only [List.length_map]; rfl) | simp [PX.get]), (by first | rfl | (simp only [List.length_map]; rfl) | simp [PX.get]), (by first | rfl | (simp only [List.length_map]; rfl) | simp [PX.get]), (by first | rfl | (simp only [List.length_map]; rfl) | simp [PX.get]), trivial⟩ ⟨(by first | rfl | (simp only [List.length_map]; rfl) | simp [PX.get]), (by first | rfl | (simp only [List.length_map]; rfl) | simp [PX.get]), (by first | rfl | (simp only [List.length_map]; rfl) | simp [PX.get]), (by first | rfl | (simp only [List.length_map]; rfl) | simp [PX.get]), trivial⟩)⟩
      ·rw [if_neg (of_decide_eq_false h4)] at hn3
       conv=>whnf
       refine arith_in (wrap_i64 (by (try dsimp only); omega)) ?_
       conv=>whnf
       exact ⟨n, ⟨by omega, by omega, hn3⟩, (Wk.sub ⟨(by first | rfl | (simp only [List.length_map]; rfl) | simp [PX.get]), (by first | rfl | (simp only [List.length_map]; rfl) | simp [PX.get]), (by first | rfl | (simp only [List.length_map]; rfl) | simp [PX.get]), (by first | rfl | (simp only [List.length_map]; rfl) | simp [PX.get]), (by first | rfl | (simp only [List.length_map]; rfl) | simp [PX.get]), (by first | rfl | (simp only [List.length_map]; rfl) | simp [PX.get]), (by first | rfl | (simp only [List.length_map]; rfl) | simp [PX.get]), trivial⟩ ⟨(by first | rfl | (simp only [List.length_map]; rfl) | simp [PX.get]), (by first | rfl | (simp only [List.length_map]; rfl) | simp [PX.get]), (by first | rfl | (simp only [List.length_map]; rfl) | simp [PX.get]), (by first | rfl | (simp only [List.length_map]; rfl) | simp [PX.get]), trivial⟩)⟩
     ·rintro n ⟨hn1, hn2, hn3⟩
      conv=>whnf
      refine brk_i (fun h => absurd h (by simp)) (fun _ => ?_)
      conv=>whnf
      have hbad : sideOk s (a, b) = false → (sidesF s).all (sideOk s) = false := fun h => by rw [hk, h, Bool.false_and]
      have hso : sideOk s (a, b) = (decide (n = 2) && !(decide (b.x = 0) && decide (b.y = 0))) := by
       unfold sideOk
       rw [hn3, rightL]
      cases h5 : decide (n = 2) with
      | false =>
       have h6 := hbad (by rw [hso, h5]; rfl)
       conv=>whnf
       refine ⟨[(1500000, .box (.dd s.cells)), (1500001, .box (.dd [i64 9])), (1500002, .arr 1 (.dd [[i64 (s.corners.map Pt.cells).length]]))], st, (Wk.sub trivial ⟨(by first | rfl | (simp only [List.length_map]; rfl) | simp [PX.get]), (by first | rfl | (simp only [List.length_map]; rfl) | simp [PX.get]), (by first | rfl | (simp only [List.length_map]; rfl) | simp [PX.get]), trivial⟩), rfl, hQ2 _ _ _ ?_⟩
       conv=>whnf
       rw [h6]
       exact RetA_view 0 rfl ⟨⟨rfl, rfl⟩, rfl⟩
      | true =>
       conv=>whnf
       refine brk_i (fun h6 => ?_) (fun h6 => ?_)
       ·have h6 := hbad (by rw [hso, h5]; rw [Bool.and_true] at h6; rw [h6]; rfl)
        conv=>whnf
        refine ⟨[(1500000, .box (.dd s.cells)), (1500001, .box (.dd [i64 9])), (1500002, .arr 1 (.dd [[i64 (s.corners.map Pt.cells).length]]))], st, (Wk.sub trivial ⟨(by first | rfl | (simp only [List.length_map]; rfl) | simp [PX.get]), (by first | rfl | (simp only [List.length_map]; rfl) | simp [PX.get]), (by first | rfl | (simp only [List.length_map]; rfl) | simp [PX.get]), trivial⟩), rfl, hQ2 _ _ _ ?_⟩
        conv=>whnf
        rw [h6]
        exact RetA_view 0 rfl ⟨⟨rfl, rfl⟩, rfl⟩
       ·conv=>whnf
        refine ⟨(), (Wk.sub trivial ⟨(by first | rfl | (simp only [List.length_map]; rfl) | simp [PX.get]), (by first | rfl | (simp only [List.length_map]; rfl) | simp [PX.get]), (by first | rfl | (simp only [List.length_map]; rfl) | simp [PX.get]), trivial⟩), rfl, hQ1 _ ⟨?_, fun x hx => hl x (by simp [hx])⟩⟩
        rw [hk, hso, h5]; rw [Bool.and_true] at h6; rw [h6]; rfl
    ·rintro _ ⟨hk, _⟩
     rw [hk]
     conv=>whnf
     exact RetA_view 0 rfl ⟨⟨rfl, rfl⟩, rfl⟩
end Go.PX
namespace Go.PX
open Go.Proofs
abbrev Nms := List (ByteArray × Int)
def incS (m : Nms) (n : ByteArray) : Nms := putM m n ((getM m n).getD 0 + 1)
def freshE (m : Nms) (n : ByteArray) : Int := if nameF n then (if (getM m n).getD 0 + 1 > 1 then 5 else 0) else 6
def nmsH (m : Nms) : Heap := [(1000000, .box (.vv [.mp 1000001])), (1000001, .map (kvG D.str m))]
theorem same_str (a b : ByteArray) : sameD (.str a) (.str b) = some (decide (a = b)) := rfl
theorem find_inc (m : Nms) (n : ByteArray) : ∃ i, findD (.str n) (kvG D.str (incS m n)) 0 = some (some (i, i64 ((getM m n).getD 0 + 1))) := by
 obtain ⟨i, _, h1, _⟩ := findG_some (kd := D.str) same_str (t := n) (v := (getM m n).getD 0 + 1) (m := incS m n) (by unfold incS; rw [getM_put, if_pos rfl]) 0
 exact ⟨0 + i, h1⟩
theorem ch62 (m : Nms) (n : ByteArray) (hb : ∀ v, getM m n = some v → 0 ≤ v ∧ v < 1000000) : FnU Tryz.prog 62 [.d (.str n), .ptr 1000000 0] (nmsH m) fun v h' => v = .d (i64 (freshE m n)) ∧ h' = nmsH (incS m n) := by
 intro σ Y s
 refine fnC_of mixed tysOk Tryz.func62 rfl (ft := ft62) (args := [.d (.str n), .ptr 1000000 0]) (show fnB ft62 Tryz.f62 2 = true from by decide +kernel) ?_
 conv=>whnf
 cases hg : getM m n with
 | none =>
  have g1 := findG_none (kd := D.str) same_str hg 0
  refine findK.mk _ g1 ?_
  conv=>whnf
  refine arith_in (wrap_i64 (by (try dsimp only); omega)) ?_
  conv=>whnf
  refine findK.mk _ g1 ?_
  conv=>whnf
  have hm2 : kvG D.str m ++ [(D.str n, i64 (0 + 1))] = kvG D.str (incS m n) := (by rw [show i64 (0 + 1) = D.int .i64 1 from rfl, putG_none (kd := D.str) 1 hg, incS, hg]; rfl)
  obtain ⟨j, hj⟩ := find_inc m n
  refine CallA_v (fn47 n) rfl rfl ?_
  conv=>whnf
  cases hn : nameF n with
  | false =>
   have he : freshE m n = 6 := by unfold freshE; rw [hn]; rfl
   rw [he]
   conv=>whnf
   refine RetA_hand [] [.d (i64 6)] (nmsH (incS m n)) rfl ⟨rfl, congrArg (fun z => some (Obj.map z)) hm2, trivial⟩ rfl ⟨⟨rfl, rfl⟩, rfl⟩
  | true =>
   conv=>whnf
   refine findK.mk _ (show findD (.str n) (kvG D.str m ++ [(D.str n, i64 (0 + 1))]) 0 = some (some (j, i64 ((getM m n).getD 0 + 1))) from hm2 ▸ hj) ?_
   conv=>whnf
   refine brk_i (fun h1 => ?_) (fun h1 => ?_)
   ·have he : freshE m n = 5 := by unfold freshE; rw [hn, if_pos rfl, if_pos (of_decide_eq_true h1)]
    rw [he]
    conv=>whnf
    refine RetA_hand [] [.d (i64 5)] (nmsH (incS m n)) rfl ⟨rfl, congrArg (fun z => some (Obj.map z)) hm2, trivial⟩ rfl ⟨⟨rfl, rfl⟩, rfl⟩
   ·have he : freshE m n = 0 := by unfold freshE; rw [hn, if_pos rfl, if_neg (of_decide_eq_false h1)]
    rw [he]
    conv=>whnf
    refine RetA_hand [] [.d (i64 0)] (nmsH (incS m n)) rfl ⟨rfl, congrArg (fun z => some (Obj.map z)) hm2, trivial⟩ rfl ⟨⟨rfl, rfl⟩, rfl⟩
 | some v =>
  obtain ⟨i, _, g1, g3, _⟩ := findG_some (kd := D.str) same_str hg 0
  have := hb v hg
  refine findK.mk _ g1 ?_
  conv=>whnf
  refine arith_in (wrap_i64 (by (try dsimp only); omega)) ?_
  conv=>whnf
  refine findK.mk _ g1 ?_
  conv=>whnf
  have hm2 : (kvG D.str m).set (0 + i) (D.str n, i64 (v + 1)) = kvG D.str (incS m n) := (by rw [Nat.zero_add]; exact (g3 (v + 1)).trans (by rw [incS, hg]; rfl))
  obtain ⟨j, hj⟩ := find_inc m n
  refine CallA_v (fn47 n) rfl rfl ?_
  conv=>whnf
  cases hn : nameF n with
  | false =>
   have he : freshE m n = 6 := by unfold freshE; rw [hn]; rfl
   rw [he]
   conv=>whnf
   refine RetA_hand [] [.d (i64 6)] (nmsH (incS m n)) rfl ⟨rfl, congrArg (fun z => some (Obj.map z)) hm2, trivial⟩ rfl ⟨⟨rfl, rfl⟩, rfl⟩
  | true =>
   conv=>whnf
   refine findK.mk _ (show findD (.str n) ((kvG D.str m).set (0 + i) (D.str n, i64 (v + 1))) 0 = some (some (j, i64 ((getM m n).getD 0 + 1))) from hm2 ▸ hj) ?_
   conv=>whnf
   refine brk_i (fun h1 => ?_) (fun h1 => ?_)
   ·have he : freshE m n = 5 := by unfold freshE; rw [hn, if_pos rfl, if_pos (of_decide_eq_true h1)]
    rw [he]
    conv=>whnf
    refine RetA_hand [] [.d (i64 5)] (nmsH (incS m n)) rfl ⟨rfl, congrArg (fun z => some (Obj.map z)) hm2, trivial⟩ rfl ⟨⟨rfl, rfl⟩, rfl⟩
   ·have he : freshE m n = 0 := by unfold freshE; rw [hn, if_pos rfl, if_neg (of_decide_eq_false h1)]
    rw [he]
    conv=>whnf
    refine RetA_hand [] [.d (i64 0)] (nmsH (incS m n)) rfl ⟨rfl, congrArg (fun z => some (Obj.map z)) hm2, trivial⟩ rfl ⟨⟨rfl, rfl⟩, rfl⟩
def farM (m : Mark) : Bool := !withinB 30000 m.at'
def markE (ns : Nms) (m : Mark) : Int :=
 if freshE ns m.name = 0 then (if farM m then 7 else paintE m.paints) else freshE ns m.name
def marksL : Nms → Int → List Mark → (Int × Int) ⊕ Nms
 | ns, _, [] => .inr ns
 | ns, i, m :: r => if markE ns m = 0 then marksL (incS ns m.name) (i + 1) r else .inl (i, markE ns m)
def sandE' (ns : Nms) (s : Sand) : Int := if freshE ns s.name = 0 then sandE s else freshE ns s.name
def sandsL : Nms → Int → List Sand → Int × Int × Int
 | _, _, [] => (0, 0, 0)
 | ns, i, s :: r => if sandE' ns s = 0 then sandsL (incS ns s.name) (i + 1) r else (2, i, sandE' ns s)
def checkX (c : Cht) : Int × Int × Int :=
 if c.marks.length > 8 then (1, 0, 3) else match marksL [] 0 c.marks with
 | .inl (i, e) => (1, i, e)
 | .inr ns => if c.sands.length > 4 then (2, 0, 3) else sandsL ns 0 c.sands
def NmsOk (ns : Nms) (k : Nat) : Prop := ∀ n v, getM ns n = some v → 0 ≤ v ∧ v ≤ k
theorem NmsOk.inc {ns : Nms} {k : Nat} (h : NmsOk ns k) (n : ByteArray) : NmsOk (incS ns n) (k + 1) := by
 intro u v hv
 unfold incS at hv
 rw [getM_put] at hv
 split at hv
 ·cases hv
  cases hg : getM ns n with
  | none => simp only [Option.getD_none]; omega
  | some w => have := h n w hg; simp only [Option.getD_some]; omega
 ·have := h u v hv; omega
set_option maxHeartbeats 4000000 in
theorem ch20 (c : Cht) : FnV Tryz.prog 20 [c.d] (.tup [i64 (checkX c).1, i64 (checkX c).2.1, i64 (checkX c).2.2]) := by
 refine fnV_of mixed tysOk Tryz.func20 rfl (ft := ft20) 1 (by decide +kernel) (by rfl) fun {σ} Y st => ?_
 conv=>whnf
 refine brk_i (fun h0 => ?_) (fun h0 => ?_)
 ·have h0 : c.marks.length > 8 := by have := of_decide_eq_true h0; simp at this; omega
  have he : checkX c = (1, 0, 3) := by unfold checkX; rw [if_pos h0]
  rw [he]
  conv=>whnf
  exact RetA_view 0 rfl ⟨⟨rfl, rfl⟩, rfl⟩
 have h0 : ¬ c.marks.length > 8 := by have := of_decide_eq_false h0; simp at this; omega
 have he : checkX c = match marksL [] 0 c.marks with
  | .inl (i, e) => (1, i, e)
  | .inr ns => if c.sands.length > 4 then (2, 0, 3) else sandsL ns 0 c.sands := by unfold checkX; rw [if_neg h0]
 conv=>whnf
 refine LoopA_i (T := tys) tysOk (by exact drawsB_spec mixed tysOk (by decide +kernel)) c.marks (fun i (ns : Nms) => ⟨[(1, .ptr 1 0), (6, .clo 62 [.ptr 5 0]), (18, .d (marksD c.marks)), (19, .d (i64 (c.marks.map Mark.cells).length)), (20, .d (i64 i))], [(1, .box (.dd c.cells)), (5, .box (.vv [.mp 11])), (11, .map (kvG D.str ns))], st⟩) (fun i r ns => NmsOk ns i ∧ marksL [] 0 c.marks = marksL ns i r) [] (Wk.sub ⟨(by first | rfl | (simp only [List.length_map]; rfl) | simp [PX.get]), (by first | rfl | (simp only [List.length_map]; rfl) | simp [PX.get]), (by first | rfl | (simp only [List.length_map]; rfl) | simp [PX.get]), (by first | rfl | (simp only [List.length_map]; rfl) | simp [PX.get]), (by first | rfl | (simp only [List.length_map]; rfl) | simp [PX.get]), trivial⟩ ⟨(by first | rfl | (simp only [List.length_map]; rfl) | simp [PX.get]), (by first | rfl | (simp only [List.length_map]; rfl) | simp [PX.get]), (by first | rfl | (simp only [List.length_map]; rfl) | simp [PX.get]), trivial⟩) ⟨fun n v h => by simp [getM] at h, rfl⟩ ?_ ?_
 ·rintro i m r ns hmi hi hr ⟨hns, hk⟩
  rw [marksL] at hk
  conv=>whnf
  refine brk_i (fun _ => ?_) (fun h => absurd hi (by simpa using h))
  conv=>whnf
  refine elemK_nat hmi ?_
  conv=>whnf
  refine CallA_fn (ch62 ns m.name (fun v hv => by have := hns _ v hv; omega)) [5, 11] rfl ⟨_, _, rfl, rfl, _, _, rfl, rfl, rfl⟩ rfl ?_
  conv=>whnf
  by_cases hf : freshE ns m.name = 0
  case neg =>
   have hm : markE ns m = freshE ns m.name := by unfold markE; rw [if_neg hf]
   rw [hm, if_neg hf] at hk
   have he2 : checkX c = (1, (i : Int), freshE ns m.name) := by rw [he, hk]
   rw [he2, decide_eq_false hf]
   conv=>whnf
   refine brk_i (fun h => absurd h (by simp [hf])) (fun _ => ?_)
   conv=>whnf
   refine brk_i (fun _ => ?_) (fun h => absurd h (by simp [hf]))
   conv=>whnf
   exact RetA_view 0 rfl ⟨⟨rfl, rfl⟩, rfl⟩
  rw [decide_eq_true hf]
  conv=>whnf
  refine CallA_view (ds := [i64 30000, ptsD [m.at']]) (ch63 30000 [m.at'] (by omega) (by simp)) rfl 1 rfl ?_
  have hfar : ([m.at'].any fun p => !withinB 30000 p) = farM m := by simp [farM]
  rw [hfar]
  cases hfm : farM m with
  | true =>
   have hm : markE ns m = 7 := by unfold markE; rw [if_pos hf, hfm]; rfl
   rw [hm, if_neg (by simp)] at hk
   have he2 : checkX c = (1, (i : Int), 7) := by rw [he, hk]
   rw [he2]
   conv=>whnf
   exact RetA_view 0 rfl ⟨⟨rfl, rfl⟩, rfl⟩
  | false =>
   have hm : markE ns m = paintE m.paints := by unfold markE; rw [if_pos hf, hfm]; rfl
   rw [hm] at hk
   conv=>whnf
   refine brk_i (fun _ => ?_) (fun h => absurd h (by simp [hf]))
   conv=>whnf
   refine CallA_v (ch64 m.paints) rfl rfl ?_
   conv=>whnf
   refine brk_i (fun hp => ?_) (fun hp => ?_)
   ·have hp : ¬ paintE m.paints = 0 := by simpa using hp
    rw [if_neg hp] at hk
    have he2 : checkX c = (1, (i : Int), paintE m.paints) := by rw [he, hk]
    rw [he2]
    conv=>whnf
    exact RetA_view 0 rfl ⟨⟨rfl, rfl⟩, rfl⟩
   ·have hp : paintE m.paints = 0 := by simpa using hp
    rw [if_pos hp] at hk
    conv=>whnf
    refine arith_in (wrap_i64 (by (try dsimp only); omega)) ?_
    conv=>whnf
    exact ⟨incS ns m.name, ⟨hns.inc _, hk⟩, (Wk.sub ⟨(by first | rfl | (simp only [List.length_map]; rfl) | simp [PX.get]), (by first | rfl | (simp only [List.length_map]; rfl) | simp [PX.get]), (by first | rfl | (simp only [List.length_map]; rfl) | simp [PX.get]), (by first | rfl | (simp only [List.length_map]; rfl) | simp [PX.get]), (by first | rfl | (simp only [List.length_map]; rfl) | simp [PX.get]), trivial⟩ ⟨(by first | rfl | (simp only [List.length_map]; rfl) | simp [PX.get]), (by first | rfl | (simp only [List.length_map]; rfl) | simp [PX.get]), (by first | rfl | (simp only [List.length_map]; rfl) | simp [PX.get]), trivial⟩)⟩
 ·rintro ns ⟨hns, hk⟩
  have he2 : checkX c = if c.sands.length > 4 then (2, 0, 3) else sandsL ns 0 c.sands := by rw [he, hk, marksL]
  conv=>whnf
  refine brk_i (fun h => absurd h (by simp)) (fun _ => ?_)
  conv=>whnf
  refine brk_i (fun h1 => ?_) (fun h1 => ?_)
  ·have h1 : c.sands.length > 4 := by have := of_decide_eq_true h1; simp at this; omega
   rw [if_pos h1] at he2
   rw [he2]
   conv=>whnf
   exact RetA_view 0 rfl ⟨⟨rfl, rfl⟩, rfl⟩
  have h1 : ¬ c.sands.length > 4 := by have := of_decide_eq_false h1; simp at this; omega
  rw [if_neg h1] at he2
  conv=>whnf
  refine LoopA_i (T := tys) tysOk (by exact drawsB_spec mixed tysOk (by decide +kernel)) c.sands (fun i (ns : Nms) => ⟨[(1, .ptr 1 0), (6, .clo 62 [.ptr 5 0]), (52, .d (sandsD c.sands)), (53, .d (i64 (c.sands.map Sand.cells).length)), (54, .d (i64 i))], [(1, .box (.dd c.cells)), (5, .box (.vv [.mp 11])), (11, .map (kvG D.str ns))], st⟩) (fun i r ns => NmsOk ns (8 + i) ∧ checkX c = sandsL ns i r) ns (Wk.sub ⟨(by first | rfl | (simp only [List.length_map]; rfl) | simp [PX.get]), (by first | rfl | (simp only [List.length_map]; rfl) | simp [PX.get]), (by first | rfl | (simp only [List.length_map]; rfl) | simp [PX.get]), (by first | rfl | (simp only [List.length_map]; rfl) | simp [PX.get]), (by first | rfl | (simp only [List.length_map]; rfl) | simp [PX.get]), trivial⟩ ⟨(by first | rfl | (simp only [List.length_map]; rfl) | simp [PX.get]), (by first | rfl | (simp only [List.length_map]; rfl) | simp [PX.get]), (by first | rfl | (simp only [List.length_map]; rfl) | simp [PX.get]), trivial⟩) ⟨fun n v h => by have := hns n v h; omega, he2⟩ ?_ ?_
  ·rintro i m r ns hmi hi hr ⟨hns, hk⟩
   rw [sandsL] at hk
   conv=>whnf
   refine brk_i (fun _ => ?_) (fun h => absurd hi (by simpa using h))
   conv=>whnf
   refine elemK_nat hmi ?_
   conv=>whnf
   refine CallA_fn (ch62 ns m.name (fun v hv => by have := hns _ v hv; omega)) [5, 11] rfl ⟨_, _, rfl, rfl, _, _, rfl, rfl, rfl⟩ rfl ?_
   conv=>whnf
   by_cases hf : freshE ns m.name = 0
   case neg =>
    have hm : sandE' ns m = freshE ns m.name := by unfold sandE'; rw [if_neg hf]
    rw [hm, if_neg hf] at hk
    rw [hk, decide_eq_false hf]
    conv=>whnf
    refine brk_i (fun _ => ?_) (fun h => absurd h (by simp [hf]))
    conv=>whnf
    exact RetA_view 0 rfl ⟨⟨rfl, rfl⟩, rfl⟩
   have hm : sandE' ns m = sandE m := by unfold sandE'; rw [if_pos hf]
   rw [hm] at hk
   rw [decide_eq_true hf]
   conv=>whnf
   refine CallA_v (ch65 m) rfl rfl ?_
   conv=>whnf
   refine brk_i (fun hp => ?_) (fun hp => ?_)
   ·have hp : ¬ sandE m = 0 := by simpa using hp
    rw [if_neg hp] at hk
    rw [hk]
    conv=>whnf
    exact RetA_view 0 rfl ⟨⟨rfl, rfl⟩, rfl⟩
   ·have hp : sandE m = 0 := by simpa using hp
    rw [if_pos hp] at hk
    conv=>whnf
    refine arith_in (wrap_i64 (by (try dsimp only); omega)) ?_
    conv=>whnf
    exact ⟨incS ns m.name, ⟨hns.inc _, hk⟩, (Wk.sub ⟨(by first | rfl | (simp only [List.length_map]; rfl) | simp [PX.get]), (by first | rfl | (simp only [List.length_map]; rfl) | simp [PX.get]), (by first | rfl | (simp only [List.length_map]; rfl) | simp [PX.get]), (by first | rfl | (simp only [List.length_map]; rfl) | simp [PX.get]), (by first | rfl | (simp only [List.length_map]; rfl) | simp [PX.get]), trivial⟩ ⟨(by first | rfl | (simp only [List.length_map]; rfl) | simp [PX.get]), (by first | rfl | (simp only [List.length_map]; rfl) | simp [PX.get]), (by first | rfl | (simp only [List.length_map]; rfl) | simp [PX.get]), trivial⟩)⟩
  ·rintro ns ⟨hns, hk⟩
   rw [sandsL] at hk
   rw [hk]
   conv=>whnf
   refine brk_i (fun h => absurd h (by simp)) (fun _ => ?_)
   conv=>whnf
   exact RetA_view 0 rfl ⟨⟨rfl, rfl⟩, rfl⟩
end Go.PX
namespace Go.PX
open Go.Proofs
def openX (c : Cht) (p : Pt) : Int := if (checkX c).2.2 = 0 then (if withinB 10000 p then 0 else 7) else (checkX c).2.2
theorem ch70 (c : Cht) (p : Pt) : FnV Tryz.prog 70 [c.d, p.d] (i64 (openX c p)) := by
 refine fnV_of mixed tysOk Tryz.func70 rfl (ft := ft70) 2 (by decide +kernel) (by rfl) fun {σ} Y st => ?_
 conv=>whnf
 refine CallA_v (ch20 c) rfl rfl ?_
 conv=>whnf
 by_cases h0 : (checkX c).2.2 = 0
 case neg =>
  have he : openX c p = (checkX c).2.2 := by unfold openX; rw [if_neg h0]
  rw [he, decide_eq_false h0]
  conv=>whnf
  exact RetA_view 0 rfl ⟨⟨rfl, rfl⟩, rfl⟩
 have he : openX c p = if withinB 10000 p then 0 else 7 := by unfold openX; rw [if_pos h0]
 rw [he, decide_eq_true h0]
 conv=>whnf
 refine CallA_view (ds := [i64 10000, ptsD [p]]) (ch63 10000 [p] (by omega) (by simp)) rfl 1 rfl ?_
 have hfar : ([p].any fun p => !withinB 10000 p) = !withinB 10000 p := by simp
 rw [hfar]
 cases withinB 10000 p with
 | true =>
  conv=>whnf
  rw [h0]
  exact RetA_view 0 rfl ⟨⟨rfl, rfl⟩, rfl⟩
 | false =>
  conv=>whnf
  exact RetA_view 0 rfl ⟨⟨rfl, rfl⟩, rfl⟩
theorem floor_eq {n b : Int} (hb : 0 < b) : (if n.tmod b < 0 then n.tdiv b - 1 else n.tdiv b) = n / b := by
 rcases Int.lt_or_le n 0 with hn | hn
 ·have h1 := Int.mul_tdiv_add_tmod n b
  have h2 : -b < n.tmod b := by
   have := Int.tmod_lt_of_pos (-n) hb
   rw [Int.neg_tmod] at this; omega
  have h3 : n.tmod b ≤ 0 := by
   have := Int.tmod_nonneg b (show (0 : Int) ≤ -n by omega)
   rw [Int.neg_tmod] at this; omega
  split
  ·rename_i h4
   refine Int.le_antisymm ?_ ?_
   ·rw [Int.le_ediv_iff_mul_le hb, Int.sub_mul, Int.mul_comm]; omega
   ·have : n / b < n.tdiv b := by
     rw [Int.ediv_lt_iff_lt_mul hb, Int.mul_comm]; omega
    omega
  ·rename_i h4
   have h5 : n.tmod b = 0 := by omega
   refine Int.le_antisymm ?_ ?_
   ·rw [Int.le_ediv_iff_mul_le hb, Int.mul_comm]; omega
   ·have : n / b < n.tdiv b + 1 := by
     rw [Int.ediv_lt_iff_lt_mul hb, Int.add_mul, Int.mul_comm]; omega
    omega
 ·rw [Int.tdiv_eq_ediv_of_nonneg hn, Int.tmod_eq_emod_of_nonneg hn, if_neg (by have := Int.emod_nonneg n (show b ≠ 0 by omega); omega)]
theorem ch125 (n b : Int) (hb : 0 < b) (hn : -4000000000000000000 ≤ n ∧ n ≤ 4000000000000000000) : FnV Tryz.prog 125 [i64 n, i64 b] (i64 (n / b)) := by
 refine fnV_of mixed tysOk Tryz.func125 rfl (ft := ft125) 2 (by decide +kernel) (by rfl) fun {σ} Y st => ?_
 conv=>whnf
 have hq := floor_eq (n := n) hb
 have hq1 : -4000000000000000000 ≤ n / b := by
  rw [Int.le_ediv_iff_mul_le hb]
  have : -4000000000000000000 * b ≤ -4000000000000000000 * 1 := by omega
  omega
 have hq2 : n / b ≤ 4000000000000000000 := by
  have : n / b < 4000000000000000001 := by
   rw [Int.ediv_lt_iff_lt_mul hb]; omega
  omega
 refine chk_i (by simp; omega) ?_
 by_cases h1 : n.tmod b < 0
 ·rw [if_pos h1] at hq
  refine arith_to (n.tdiv b) rfl (wrap_i64 (by omega)) ?_
  conv=>whnf
  refine chk_i (by simp; omega) ?_
  conv=>whnf
  refine brk_i (fun _ => ?_) (fun h => absurd h (by simp [h1]))
  conv=>whnf
  refine arith_in (wrap_i64 (by (try dsimp only); omega)) ?_
  conv=>whnf
  conv=>whnf
  rw [hq]
  exact RetA_view 0 rfl ⟨⟨rfl, rfl⟩, rfl⟩
 ·rw [if_neg h1] at hq
  refine arith_to (n.tdiv b) rfl (wrap_i64 (by omega)) ?_
  conv=>whnf
  refine chk_i (by simp; omega) ?_
  conv=>whnf
  refine brk_i (fun h => absurd h (by simp [h1])) (fun _ => ?_)
  conv=>whnf
  rw [hq]
  exact RetA_view 0 rfl ⟨⟨rfl, rfl⟩, rfl⟩
def cutF (l : Span) (f n : Int) : Span :=
 if 0 < f then ⟨max l.lo (-((-n) / f)), l.hi⟩ else if f < 0 then ⟨l.lo, min l.hi ((-n) / (-f))⟩ else if 0 < n then ⟨l.lo, l.lo - 1⟩ else l
theorem ch107 (l : Span) (f n : Int) (hl : -4000000000000000000 ≤ l.lo ∧ l.lo ≤ 4000000000000000000) (hf : -1000000 ≤ f ∧ f ≤ 1000000) (hn : -4000000000000000000 ≤ n ∧ n ≤ 4000000000000000000) : FnV Tryz.prog 107 [.agg (Span.cells l), i64 f, i64 n] (.agg (Span.cells (cutF l f n))) := by
 refine fnV_of mixed tysOk Tryz.func107 rfl (ft := ft107) 3 (by decide +kernel) (by rfl) fun {σ} Y st => ?_
 conv=>whnf
 unfold cutF
 refine brk_i (fun h1 => ?_) (fun h1 => ?_)
 ·have h1 : 0 < f := of_decide_eq_true h1
  rw [if_pos h1]
  have hq1 : -4000000000000000000 ≤ (-n) / f := by
   rw [Int.le_ediv_iff_mul_le h1]; omega
  have hq2 : (-n) / f ≤ 4000000000000000000 := by
   have : (-n) / f < 4000000000000000001 := by
    rw [Int.ediv_lt_iff_lt_mul h1]; omega
   omega
  conv=>whnf
  refine arith_to ((-n)) (by (try dsimp only); omega) (wrap_i64 (by (try dsimp only); omega)) ?_
  conv=>whnf
  refine DrawCall_view (ds := [i64 (-n), i64 f]) (ch125 (-n) f h1 (by omega)) rfl 1 rfl ?_
  conv=>whnf
  refine arith_to ((-((-n) / f))) (by (try dsimp only); omega) (wrap_i64 (by (try dsimp only); omega)) ?_
  conv=>whnf
  exact RetA_view 0 rfl ⟨⟨rfl, rfl⟩, rfl⟩
 ·have h1 : ¬ 0 < f := of_decide_eq_false h1
  rw [if_neg h1]
  conv=>whnf
  refine brk_i (fun h2 => ?_) (fun h2 => ?_)
  ·have h2 : f < 0 := of_decide_eq_true h2
   have h3 : 0 < -f := by omega
   rw [if_pos h2]
   have hq1 : -4000000000000000000 ≤ (-n) / (-f) := by
    rw [Int.le_ediv_iff_mul_le h3]; omega
   have hq2 : (-n) / (-f) ≤ 4000000000000000000 := by
    have : (-n) / (-f) < 4000000000000000001 := by
     rw [Int.ediv_lt_iff_lt_mul h3]; omega
    omega
   conv=>whnf
   refine arith_to ((-n)) (by (try dsimp only); omega) (wrap_i64 (by (try dsimp only); omega)) ?_
   conv=>whnf
   refine arith_to ((-f)) (by (try dsimp only); omega) (wrap_i64 (by (try dsimp only); omega)) ?_
   conv=>whnf
   refine DrawCall_view (ds := [i64 (-n), i64 (-f)]) (ch125 (-n) (-f) h3 (by omega)) rfl 1 rfl ?_
   conv=>whnf
   exact RetA_view 0 rfl ⟨⟨rfl, rfl⟩, rfl⟩
  ·rw [if_neg (of_decide_eq_false h2)]
   conv=>whnf
   refine brk_i (fun h2 => ?_) (fun h2 => ?_)
   ·rw [if_pos (of_decide_eq_true h2)]
    conv=>whnf
    refine arith_in (wrap_i64 (by (try dsimp only); omega)) ?_
    conv=>whnf
    conv=>whnf
    exact RetA_view 0 rfl ⟨⟨rfl, rfl⟩, rfl⟩
   ·rw [if_neg (of_decide_eq_false h2)]
    conv=>whnf
    exact RetA_view 0 rfl ⟨⟨rfl, rfl⟩, rfl⟩
theorem cutF_bd {l : Span} {f n : Int} (hl : -4000000000000000000 ≤ l.lo ∧ l.lo ≤ 4000000000000000000) (hn : -4000000000000000000 ≤ n ∧ n ≤ 4000000000000000000) : -4000000000000000000 ≤ (cutF l f n).lo ∧ (cutF l f n).lo ≤ 4000000000000000000 := by
 unfold cutF
 split
 ·rename_i h1
  have hq1 : -4000000000000000000 ≤ (-n) / f := by
   rw [Int.le_ediv_iff_mul_le h1]; omega
  have hq2 : (-n) / f ≤ 4000000000000000000 := by
   have : (-n) / f < 4000000000000000001 := by
    rw [Int.ediv_lt_iff_lt_mul h1]; omega
   omega
  simp only
  omega
 ·split
  ·exact hl
  ·split
   ·exact hl
   ·exact hl
structure SandR (s : Sand) : Prop where
 len : 3 ≤ s.corners.length ∧ s.corners.length ≤ 8
 pin : ∀ p ∈ s.corners, Pin 10000 p
 x : -500 ≤ s.moves.x.lo ∧ s.moves.x.lo ≤ s.moves.x.hi ∧ s.moves.x.hi ≤ 500 ∧ s.moves.x.hi - s.moves.x.lo ≤ 40
 y : -500 ≤ s.moves.y.lo ∧ s.moves.y.lo ≤ s.moves.y.hi ∧ s.moves.y.hi ≤ 500 ∧ s.moves.y.hi - s.moves.y.lo ≤ 40
 sides : ∀ x ∈ sidesF s, sideOk s x = true
theorem sandE_ok {s : Sand} (h : sandE s = 0) : SandR s := by
 unfold sandE at h
 split at h
 case isFalse => cases h
 rename_i h1
 split at h
 ·cases h
 rename_i h2
 split at h
 case isFalse => rename_i h3; exact absurd h h3
 rename_i h3
 split at h
 case isFalse => cases h
 rename_i h4
 rw [inB_iff] at h1
 unfold boxE at h3
 split at h3
 case isFalse => cases h3
 rename_i h5
 split at h3
 case isFalse => cases h3
 rename_i h6
 simp only [Bool.and_eq_true, inB_iff] at h5 h6
 refine ⟨by omega, fun p hp => ?_, by omega, by omega, fun x hx => List.all_eq_true.1 h4 x hx⟩
 have := List.any_eq_false.1 (by simpa using h2 : (s.corners.any fun p => !withinB 10000 p) = false) p hp
 exact within_iff.1 (by simpa using this)
def rowStep (x : Int) (p : Pt) (l : Span) (z : Pt × Pt) : Span := cutF l (-z.2.x) (z.2.y * ((p.x - z.1.x) - x) - z.2.x * (p.y - z.1.y))
def rowsX (s : Sand) (x : Int) (p : Pt) : Span := (sidesF s).foldl (rowStep x p) s.moves.y
set_option maxHeartbeats 1000000 in
theorem ch71 (s : Sand) (hR : SandR s) (x : Int) (hx : -500 ≤ x ∧ x ≤ 500) (p : Pt) (hp : Pin 10000 p) : FnV Tryz.prog 71 [.agg s.cells, i64 x, p.d] (.agg (rowsX s x p).cells) := by
 refine fnV_of mixed tysOk Tryz.func71 rfl (ft := ft71) 3 (by decide +kernel) (by rfl) fun {σ} Y st => ?_
 conv=>whnf
 have hlen := hR.len
 refine CallA_v (ch103 s) rfl rfl ?_
 conv=>whnf
 refine RangeA_list tysOk (by exact drawsB_spec mixed tysOk (by decide +kernel)) (by exact drawsB_spec mixed tysOk (by decide +kernel)) rfl 1500000 1600000 [3, 4, 5, 6, 7] (yields124 s (by omega) (by omega) (fun p h => (hR.pin p h).mono (by omega)))
  (fun (l : Span) => ([(1500000, .box (.dd s.cells)), (1500001, .box (.dd [i64 x])), (1500002, .box (.dd p.cells)), (1500003, .box (.dd [i64 0, i64 0])), (1500004, .box (.dd l.cells))], st))
  (fun rest l => rowsX s x p = rest.foldl (rowStep x p) l ∧ (∀ x ∈ rest, Pin 10000 x.1 ∧ Pin 20000 x.2) ∧ -4000000000000000000 ≤ l.lo ∧ l.lo ≤ 4000000000000000000) s.moves.y rfl rfl rfl ⟨rfl, mem_sidesF (by omega) hR.pin, by have := hR.y; omega⟩ ?_ ?_
 ·rintro ⟨a, b⟩ rest l ⟨hk, hl, hlo⟩ Q hQ1 -
  refine ⟨⟨rfl, rfl⟩, ?_⟩
  obtain ⟨ha, hb⟩ := hl (a, b) (by simp)
  simp only at ha hb
  rw [List.foldl_cons] at hk
  have hto := hp.sub ha
  conv=>whnf
  refine CallA_view (ds := [a.d, p.d]) (ch81 a p (ha.mono (by omega)) (hp.mono (by omega))) rfl 1 rfl ?_
  have ht1 := hto.x
  have ht2 := hto.y
  have hb1 := hb.x
  have hb2 := hb.y
  have hm1 := mul_big (a := b.y) (b := (p.sub a).x - x) (by omega) (by omega)
  have hm2 := mul_big (a := b.x) (b := (p.sub a).y) (by omega) (by omega)
  conv=>whnf
  refine arith_to ((-b.x)) (by (try dsimp only); omega) (wrap_i64 (by (try dsimp only); omega)) ?_
  conv=>whnf
  refine arith_in (wrap_i64 (by (try dsimp only); omega)) ?_
  conv=>whnf
  refine arith_in (wrap_i64 (by (try dsimp only); omega)) ?_
  conv=>whnf
  refine arith_in (wrap_i64 (by (try dsimp only); omega)) ?_
  conv=>whnf
  refine arith_in (wrap_i64 (by (try dsimp only); omega)) ?_
  conv=>whnf
  refine CallA_view (ds := [.agg l.cells, i64 (-b.x), i64 (b.y * ((p.sub a).x - x) - b.x * (p.sub a).y)]) (ch107 l (-b.x) (b.y * ((p.sub a).x - x) - b.x * (p.sub a).y) hlo (by omega) (by omega)) rfl 1 rfl ?_
  conv=>whnf
  exact ⟨rowStep x p l (a, b), (Wk.sub trivial ⟨(by first | rfl | (simp only [List.length_map]; rfl) | simp [PX.get]), (by first | rfl | (simp only [List.length_map]; rfl) | simp [PX.get]), (by first | rfl | (simp only [List.length_map]; rfl) | simp [PX.get]), (by first | rfl | (simp only [List.length_map]; rfl) | simp [PX.get]), (by first | rfl | (simp only [List.length_map]; rfl) | simp [PX.get]), trivial⟩), rfl, hQ1 _ ⟨hk, fun x hx => hl x (by simp [hx]), cutF_bd hlo (by show -4000000000000000000 ≤ b.y * ((p.sub a).x - x) - b.x * (p.sub a).y ∧ b.y * ((p.sub a).x - x) - b.x * (p.sub a).y ≤ 4000000000000000000; omega)⟩⟩
 ·rintro l ⟨hk, _⟩
  rw [List.foldl_nil] at hk
  rw [hk]
  conv=>whnf
  exact RetA_view 0 rfl ⟨⟨rfl, rfl⟩, rfl⟩
end Go.PX
