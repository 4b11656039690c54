import Derived.Test.YtgpmlbbkfmkmkaaGreatDoorPxN
import Derived.Test.YtgpmlbbkfmkmkaaGreatDoorPxJ
import Derived.Test.YtgpmlbbkfmkmkaaGreatDoorPxM
import Derived.RecoverIn
import Derived.Recover
import Derived.Tactics
import Derived.Tactics2
set_option linter.all false
set_option maxRecDepth 10000
namespace Go.PX
open Go.Proofs
open Go.RowKit
set_option maxHeartbeats 4000000 in
theorem take1b (near : Int) (init : List PBook) (last : PBook) (s x n : ByteArray) (t : Int) (hin : init.length ≤ 100000) (hss : s.size ≤ 1000000) (hns : n.size ≤ 1000000) (ht : atoiX s = some t) (hn : atoiX n = none) :
  FnXU Tryz.prog 98 [.ptr 1000000 0, .d (wordsD [reportW, s, x, n])] (lg1 1000000 1000001 1000002 near init last) (fun _ _ => False) (fun pv h' => pv = pan6 ∧ h' = lg1 1000000 1000001 1000002 near init last) := by
 intro σ Y st
 refine fnX_of mixed tysOk Tryz.func98 rfl (ft := ft98.less 21) (args := [.ptr 1000000 0, .d (wordsD [reportW, s, x, n])]) (show fnB (ft98.less 21) Tryz.f98 2 = true from by decide +kernel) ?_
 conv=>whnf
 refine must_i rfl (fun _ => ?_) (fun h2 => absurd h2 (by first | (simp; done) | (simp; omega)))
 conv=>whnf
 refine num_i (by omega) (fun t2 ht2 => ?_) (fun ht2 => by rw [ht] at ht2; cases ht2) rfl (by intro k; rfl)
 conv=>whnf
 refine CallA.wkK ?_
 refine must_i rfl (fun _ => ?_) (fun h2 => absurd h2 (by first | (simp; done) | (simp; omega)))
 refine ⟨⟨[(0, .ptr 1000000 0), (1, .d (wordsD [reportW, s, x, n])), (7, .ptr 7 0)], (7, .box (.dd [i64 t2, i64 0, .str ⟨#[]⟩, i64 0])) :: lg1 1000000 1000001 1000002 near init last, st⟩, Wk.sub ⟨rfl, rfl, rfl, trivial⟩ ⟨rfl, rfl, (by show some (Obj.arr 6 (.vv (mapIdLL _ (injL _ ++ _)))) = _; rw [mapIdLL_injL]; rfl), rfl, trivial⟩, ?_⟩
 conv=>whnf
 refine RegionA_all mixed tysOk [[], [0], [1], [], [3], [4], [5], [], [7, 6], [0, 1, 2, 7, 8], [9, 2, 8, 0, 1, 7], [0, 1, 2, 3, 4, 5, 6, 7, 8, 9, 10], [11, 6, 10, 0, 1, 2, 3, 4, 5, 7, 8, 9]] (by decide +kernel) ?_
 have hns9 : n.size ≤ 1000000000 := by omega
 have hno : ∀ k, atoiX n ≠ some k := fun k hk => by rw [hn] at hk; cases hk
 conv=>whnf
 repeat' (first
  | (refine And.intro ?_ ?_ <;> conv=>whnf)
  | trivial
  | (refine num_i hns9 (fun k hk => absurd hk (hno k)) (fun _ => ?_) rfl (by intro k; rfl); (conv=>whnf); exact RetA_hand [] [] (lg1 1000000 1000001 1000002 near init last) rfl ⟨rfl, (congrArg some (ren_last (handR []) (init.map PBook.cells) last 1000002 last.ents.length)).symm, rfl, trivial⟩ rfl ⟨⟨rfl, rfl⟩, rfl⟩))
end Go.PX
namespace Go.PX
open Go.RowKit
def CloD (P : Program) (g : FuncId) (u u' : FrameMode) (h h' : Heap) : Prop :=
 ∀ {σ : Type} (cx : Cx σ), LaidCx P cx → ∀ (L : Loc) (F : Nat → Nat) (s : σ) (w : World), HeapOk cx L F h s w →
  CallsDIn Fence.wide 0 P g #[.pointer (some ⟨L.ρ 1000000, 0, none⟩), .pointer (some ⟨L.ρ 1000001, 0, none⟩)] u w fun e u2 w' => (∃ x, e = .returned x) ∧ u2 = u' ∧ ∃ L' F', HeapOk cx L' F' h' s w' ∧ Tr F w F' w' ∧ PinEq L L'
def EndD {σ : Type} (P : Program) (T : Tys) (fn : Func) (g : FuncId) (c e : Nat) (r : D) (s0 : σ) (u : FrameMode) (en : Env) (h : Heap) (s : σ) : Prop :=
 get en c = some (.ptr 1000000 0) ∧ get en e = some (.ptr 1000001 0) ∧ ∃ u' hR, settle u' = .returning ∧ CloD P g u u' h hR ∧
  resK T [(c, .ptr 1000000 0), (e, .ptr 1000001 0)] hR fn.results.toList fun l => RetA l hR s fun v h' s' => v = .d r ∧ h' = [] ∧ s' = s0
section
variable {P : Program} {T : Tys} {σ : Type}
theorem leaves_marks_t {cx : Cx σ} {L : Loc} {F0 : Nat → Nat} {w0 : World} {h : Heap} {s : σ} {fn : Func} {tmps : Array Value} {R : Ending → World → Prop} {ds : List Deferred} {u : FrameMode} (hu : u ≠ .run) : ∀ (m : List Nat) {F : Nat → Nat} {w : World}, HeapOk cx L F h s w → Tr F0 w0 F w →
  (∀ b ∈ m, w.heap[b]? = some (.deferred (some [])) ∧ ¬ cx.C s b) → m.Nodup → (∀ w', HeapOk cx L F h s w' → Tr F w F w' → LeavesInM Fence.wide 0 P fn tmps R ds u w') →
  LeavesInM Fence.wide 0 P fn tmps R (m.map mark ++ ds) u w
 | [], F, w, hh, tr, hm, hn, hR => hR w hh (Tr.refl F w)
 | b :: m, F, w, hh, tr, hm, hn, hR => by
  obtain ⟨hb, hC⟩ := hm b (List.mem_cons_self ..)
  obtain ⟨hh', tr'⟩ := hh.unmark hb hC
  simp only [List.map_cons, List.cons_append, LeavesInM]
  refine ⟨hu, .inl ⟨b, w.putObj b (.deferred none), rfl, ?_, ?_⟩⟩
  ·simp [Instr.takeDeferred, Sem.run_bind, getObj, setObj, Sem.run, hb, Result.andThen, World.putObj]
  ·have hnd := List.nodup_cons.1 hn
   refine leaves_marks_t hu m hh' (Tr.trans tr tr') (fun x hx => ?_) hnd.2 fun w' h1 h2 => hR w' h1 (Tr.trans tr' h2)
   have hxb : x ≠ b := by rintro rfl; exact hnd.1 hx
   refine ⟨?_, (hm x (List.mem_cons_of_mem _ hx)).2⟩
   rw [← (hm x (List.mem_cons_of_mem _ hx)).1]
   simp [World.putObj, Array.getElem?_setIfInBounds_ne (Ne.symm hxb)]
theorem HeapOk.cxs {cx cx' : Cx σ} {L : Loc} {F : Nat → Nat} {h : Heap} {s : σ} {w : World} (hh : HeapOk cx L F h s w) (h1 : cx'.C = cx.C) (h2 : cx'.HG = cx.HG) (h3 : cx'.yv = cx.yv) : HeapOk cx' L F h s w := by
 refine ⟨by rw [h2]; exact hh.hg, fun b hb => hh.csz b (by rw [← h1]; exact hb), hh.fresh, fun id o ho => by rw [h3]; exact hh.obj id o ho, fun id o ho hb => ?_, hh.inj⟩
 rw [h1]; exact hh.own id o ho hb
theorem Handles.same {Y : Hd σ} {cx cx' : Cx σ} (hY : Handles P Y cx) (h1 : cx'.C = cx.C) (h2 : cx'.HG = cx.HG) (h3 : cx'.yv = cx.yv) (p : Value → Env → Heap → σ → Prop) : Handles P { y := Y.y, p := p } cx' := by
 refine ⟨?_, fun s w F h => hY.laid s w F (by rw [← h2]; exact h)⟩
 intro l hl args h s Q hy L' F' vals w hh' hr
 rw [h3] at hl hr
 obtain ⟨fn, tmps, asg, body, e1, e2⟩ := hY.yld l hl args h s Q hy L' F' vals w (hh'.cxs h1.symm h2.symm h3.symm) hr
 refine ⟨fn, tmps, asg, body, e1, e2.mono ?_⟩
 rintro e w' ⟨x, he, v, h', s', L'', F'', hq, hh'', hv, tr, pin, r1, r2, r3⟩
 exact ⟨x, he, v, h', s', L'', F'', hq, hh''.cxs h1 h2 h3, by rw [h3]; exact hv, tr, pin, by rw [h1]; exact r1, by rw [h1]; exact r2, r3⟩
theorem region_m (hT : TysOk P T) {ft : FT} {Y : Hd σ} {cx : Cx σ} {r : Option Nat} {m : List Nat} {L : Loc} {F : Nat → Nat} {a : Act} {w : World} (hY : Handles P Y cx) {id : Nat} {ops : Array Oper} {st : St σ} {K : AExit → St σ → Prop} (h : wpA P T ft Y (.region id ops false) st K) (hg : Good cx r m L F st a w) (hc : codeOk a.tmps.size (.region id ops false) = true) :
  (Code.region id ops false).wpIn (fr r) 0 P (fun ex a' w' => (∃ st' L' F', ex = .normal ∧ K .normal st' ∧ Good cx r m L' F' st' a' w' ∧ Tr F w F' w' ∧ a'.tmps.size = a.tmps.size) ∨ PanicP Y cx r F w a.tmps.size ex a' w') a w := by
 obtain ⟨e, hp, s⟩ := st
 have h : wpOps P T Y ops.toList ops.toList e hp s (fun e h s => forceE (keepT ft.ks e) fun e => K .normal ⟨e, h, s⟩) := h
 refine wpIn_mono (wpIn_region (id := id) (Q := OpsPostP Y cx r m F w a.tmps.size (fun e h s => forceE (keepT ft.ks e) fun e => K .normal ⟨e, h, s⟩)) ?_) fun ex a' w' hq => ?_
 ·have := wpOps_sound hT hY ops.toList 0 (fun j => by simp) hg rfl (opsOk_of hc) (Tr.refl F w) h
  rwa [← List.range_eq_range', Array.length_toList] at this
 ·rcases hq with ⟨e', h', s', L', F', hex, hk, hg', tr, hs⟩ | hp
  ·rw [forceE_eq] at hk
   exact .inl ⟨_, L', F', hex, hk, hg'.sub (sub_keepT ft.ks e') (fun _ _ h => h), tr, hs⟩
  ·exact .inr hp
theorem region_md (hT : TysOk P T) {ft : FT} {Y : Hd σ} {cx : Cx σ} {r : Option Nat} {m : List Nat} {L : Loc} {F : Nat → Nat} {a : Act} {w : World} (hY : Handles P Y cx) {id : Nat} {ops : Array Oper} {rt : RT} (hrt : get ft.tb id = some rt) (hD : drawsOk P T ft (.region id ops true)) {st : St σ} {K : AExit → St σ → Prop} (h : wpA P T ft Y (.region id ops true) st K) (hg : Good cx r m L F st a w) (hc : codeOk a.tmps.size (.region id ops true) = true) :
  (Code.region id ops true).wpIn (fr r) 0 P (fun ex a' w' => ∃ st' L' F', ex = .normal ∧ K .normal st' ∧ Good cx r m L' F' st' a' w' ∧ Tr F w F' w' ∧ a'.tmps.size = a.tmps.size) a w := by
 obtain ⟨e, hp, s⟩ := st
 obtain ⟨made, ots⟩ := rt
 have h : (match get ft.tb id with
  | some ⟨made, ots⟩ => awayK made e hp fun e h => wpD P T made ops.toList (ops.toList.zip ots) [] e h fun e h => forceE (keepT ft.ks e) fun e => K .normal ⟨e, h, s⟩
  | none => RegionA P ft Y id ops ⟨e, hp, s⟩ K) := h
 rw [hrt] at h
 have hdr := hD rfl ⟨made, ots⟩ hrt cx hY.laid r m L F e hp s a w _ hg (opsOk_of hc) h
 refine wpIn_mono (hdr id) fun ex a' w' hq => ?_
 obtain ⟨e', h', s', L', F', hex, ⟨hk, rfl⟩, hg', tr, hs⟩ := hq
 rw [forceE_eq] at hk
 exact ⟨_, L', F', hex, hk, hg'.sub (sub_keepT ft.ks e') (fun _ _ h => h), tr, hs⟩
def noY {σ : Type} : Hd σ := { y := fun _ _ _ _ => False }
theorem handles_no {cx cx' : Cx σ} (hl : LaidCx P cx) (h : cx'.HG = cx.HG) : Handles P (noY (σ := σ)) cx' := ⟨fun _ _ _ _ _ _ hy => hy.elim, fun s w F hh => hl s w F (by rw [← h]; exact hh)⟩
theorem clo_tail (hT : TysOk P T) {ft : FT} {cx : Cx σ} (hl : LaidCx P cx) {L : Loc} {F : Nat → Nat} {s : σ} {w : World} {h h' : Heap} (hh : HeapOk cx L F h s w) {n : Nat} (hn : Nat.ble n 1000000 = true) {v : Value} {d : D} (hd : RepD F w d v) (hone : True) {a : Act} (hsz : a.tmps.size = n) (hdf : a.defers = [])
  (t0 : a.tmps[0]? = some (.pointer (some ⟨L.ρ 1000000, 0, none⟩))) (t1 : a.tmps[1]? = some (.pointer (some ⟨L.ρ 1000001, 0, none⟩))) (t2 : a.tmps[2]? = some v)
  {i1 i2 : Nat} {ops1 ops2 : Array Oper} {cd : Operand} (hc : codeOk n (.seq (.region i1 ops1 false) (.cond cd (.region i2 ops2 true) .skip)) = true) (hD : drawsOk P T ft (.region i2 ops2 true)) {rt : RT} (hrt : get ft.tb i2 = some rt)
  {Q : Exit → Act → World → Prop} (hQ : ∀ a' w' L' F', a'.defers = [] → HeapOk cx L' F' h' s w' → Tr F w F' w' → PinEq L L' → Q .normal a' w')
  (hw : wpA P T ft noY (.region i1 ops1 false) ⟨[(0, .ptr 1000000 0), (1, .ptr 1000001 0), (2, .d d)], h, s⟩ fun _ st1 => condK (opnd st1.env cd) (wpA P T ft noY (.region i2 ops2 true) st1 fun _ st2 => SubT h' st2.heap ∧ st2.s = s) (SubT h' st1.heap ∧ st1.s = s)) :
  (Code.seq (.region i1 ops1 false) (.cond cd (.region i2 ops2 true) .skip)).wpIn Fence.wide 0 P Q a w := by
 obtain ⟨cx1, hcx1⟩ : ∃ cx1 : Cx σ, cx1 = { cx with pρ := L.ρ, pκ := L.κ, base := [] } := ⟨_, rfl⟩
 have f1 : cx1.C = cx.C := by rw [hcx1]
 have f2 : cx1.HG = cx.HG := by rw [hcx1]
 have f3 : cx1.yv = cx.yv := by rw [hcx1]
 have hY : Handles P noY cx1 := handles_no hl f2
 have hn := Nat.le_of_ble_eq_true hn
 simp only [codeOk, Bool.and_eq_true] at hc
 obtain ⟨hc1, hc2, _⟩ := hc
 have hg : Good cx1 none [] L F ⟨[(0, .ptr 1000000 0), (1, .ptr 1000001 0), (2, .d d)], h, s⟩ a w := by
  refine ⟨hh.cxs f1 f2 f3, fun k u hk => ?_, by rw [hdf, hcx1]; rfl, (fun b hb => by cases hb), List.nodup_nil, (fun l hl => by cases hl), fun i hi => by rw [hcx1]; exact ⟨rfl, rfl⟩, by omega⟩
  simp only [get] at hk
  split at hk
  ·rename_i h0; have := (Nat.eq_of_beq_eq_true h0).symm; subst this; cases hk
   exact ⟨_, t0, rfl⟩
  ·split at hk
   ·rename_i h0; have := (Nat.eq_of_beq_eq_true h0).symm; subst this; cases hk
    exact ⟨_, t1, rfl⟩
   ·split at hk
    ·rename_i h0; have := (Nat.eq_of_beq_eq_true h0).symm; subst this; cases hk
     exact ⟨_, t2, hd⟩
    ·cases hk
 have fin : ∀ {st' : St σ} {L' : Loc} {F' : Nat → Nat} {a' : Act} {w' : World}, SubT h' st'.heap ∧ st'.s = s → Good cx1 none [] L' F' st' a' w' → Tr F w F' w' → Q .normal a' w' := by
  rintro ⟨e', hp', s'⟩ L' F' a' w' ⟨hs1, hs2⟩ hg' tr
  have hs2 : s' = s := hs2
  subst hs2
  have hg2 := hg'.sub (e := []) (h := h') (fun k u hk => by cases hk) hs1
  refine hQ a' w' L' F' (by have := hg'.dfr; rw [hcx1] at this; exact this) (hg2.heap.cxs f1.symm f2.symm f3.symm) tr fun i hi => ?_
  have := hg'.pin i hi
  rw [hcx1] at this
  exact this
 refine wpIn_seq (wpIn_mono (region_m hT hY hw hg (by rw [hsz]; simpa [codeOk] using hc1)) fun ex a1 w1 hq => ?_)
 rcases hq with ⟨st1, L1, F1, rfl, hw1, hg1, tr1, hs1⟩ | ⟨v, e', h', s', m', L', F', _, hy, _⟩
 case inr => exact hy.elim
 obtain ⟨en1, hp1, s1⟩ := st1
 unfold condK at hw1
 split at hw1
 case h_2 => exact hw1.elim
 rename_i tb htb
 have hev : a1.eval cd = .bool tb := hg1.opnd htb
 rcases brk_t hw1 with ⟨rfl, hw3⟩ | ⟨rfl, hw3⟩
 ·refine wpIn_cond hev (wpIn_mono (region_md hT hY hrt hD hw3 hg1 (by rw [hs1, hsz]; simpa [codeOk] using hc2)) fun ex a2 w2 hq => ?_)
  obtain ⟨st2, L2, F2, rfl, hk, hg2, tr2, _⟩ := hq
  exact fin hk hg2 (Tr.trans tr1 tr2)
 ·exact wpIn_cond hev (wpIn_skip (fin hw3 hg1 tr1))
theorem CloD.sub {g : FuncId} {u u' : FrameMode} {h0 h h' : Heap} (hc : CloD P g u u' h0 h') (hs : subHeap h h0) : CloD P g u u' h h' := by
 intro σ cx hl L F s w hh
 exact hc cx hl L F s w ⟨hh.hg, hh.csz, hh.fresh, fun i o hi => hh.obj i o (subHeap_t hs i o hi), fun i o hi hb => hh.own i o (subHeap_t hs i o hi) hb, fun i j o p hi hj hbi hbj => hh.inj i j o p (subHeap_t hs i o hi) (subHeap_t hs j p hj) hbi hbj⟩
theorem get_app {α : Type} : ∀ (A B : Tab α) (k : Nat), get (A ++ B) k = match get A k with
  | some v => some v
  | none => get B k
 | [], B, k => rfl
 | (j, v) :: A, B, k => by
  show (match Nat.beq j k with | true => some v | false => get (A ++ B) k) = _
  rw [get_app A B k]
  simp only [get]
  cases Nat.beq j k <;> rfl
theorem get_enterD {ds : List D} {i k : Nat} {v : V} (h : get (enterE i (inj ds)) k = some v) : ∃ d, v = .d d := by
 obtain ⟨j, _, hj⟩ := get_enter h
 have : ∀ (l : List D) (j : Nat) (v : V), (inj l)[j]? = some v → ∃ d, v = .d d := by
  intro l
  induction l with
  | nil => intro j v h; cases h
  | cons a r ih =>
   intro j v h
   cases j with
   | zero => cases h; exact ⟨a, rfl⟩
   | succ j => exact ih j v h
 exact this ds j v hj
def EndR (P : Program) (cx : Cx σ) (L : Loc) (F : Nat → Nat) (w : World) (r : D) (s : σ) : Ending → World → Prop := fun e w' =>
 ∃ x, e = .returned x ∧ ∃ v h' s' L' F', ((v = .d r ∧ h' = []) ∧ s' = s) ∧ HeapOk cx L' F' h' s' w' ∧ RepV cx.yv L' F' w' v x ∧ Tr F w F' w' ∧ PinEq L L'
theorem EndR.of {cx : Cx σ} {L L0 : Loc} {F F2 : Nat → Nat} {w w2 : World} {r : D} {s : σ} {x : Value} (hh : HeapOk cx L0 F2 [] s w2) (hv : RepD F2 w2 r x) (tr : Tr F w F2 w2) : EndR P cx L F w r s (.returned x) w2 :=
 ⟨x, rfl, .d r, [], s, L, F2, ⟨⟨rfl, rfl⟩, rfl⟩, ⟨hh.hg, hh.csz, hh.fresh, (fun id o h => by cases h), (fun id o h => by cases h), (fun i j o p h => by cases h)⟩, hv, tr, fun _ _ => ⟨rfl, rfl⟩⟩
theorem fnV_defer (hm : P.follows .mixedOrders = true) (hT : TysOk P T) {f g : FuncId} {fn : Func} {idA idB idD : Nat} {opsA opsB opsD : Array Oper} {cd : Operand} {B C : Code} {ft : FT} {ds : List D} {r : D} (c e t : Nat) {lc le : List D}
  (hf : P.funcs[f]? = some fn)
  (hb : fn.body = some (.seq (.region idA opsA false) (.seq (.seq (.region idB opsB false) (.cond cd B .skip)) (.seq (.region idD opsD false) C))))
  (hok : fnB ft fn ds.length = true) (hce : c ≠ e) (hct : c ≠ t) (het : e ≠ t) (hAt : get (enterE 0 (inj ds)) t = none) (hAc : get (enterE 0 (inj ds)) c = none) (hAe : get (enterE 0 (inj ds)) e = none)
  (hdef : ∀ (a : Act) (w : World) (p q : Value) (Q : Exit → Act → World → Prop), a.tmps[c]? = some p → a.tmps[e]? = some q → a.tmps.size = fn.ntmps → Q .normal { tmps := a.tmps.setIfInBounds t (.func (.func g) #[] #[p, q]), defers := { target := .fn (.func g) #[p, q], args := #[] } :: a.defers } w → (Code.region idD opsD false).wpIn Fence.wide 0 P Q a w)
  (hinv : ∀ (p q : Value) (w : World), (invoke (.fn (.func g) #[p, q]) #[]).run P w = .ok (.enter g #[p, q]) w)
  (hA : ∀ {σ : Type} (Y : Hd σ) (s : σ), wpA P T ft Y.np (.region idA opsA false) ⟨enterE 0 (inj ds), [], s⟩ fun _ st1 => wpA P T ft Y.np (.region idB opsB false) st1 fun _ st2 =>
   condK (opnd st2.env cd) (wpA P T ft Y.np B st2 fun ex st3 => ex = .ret ∧ fnK T fn.results.toList (fun v h' s' => (v = .d r ∧ h' = []) ∧ s' = s) .ret st3)
    (Wk st2 ⟨enterE 0 (inj ds) ++ [(c, .ptr c 0), (e, .ptr e 0)], [(c, .box (.dd lc)), (e, .box (.dd le))], s⟩ ∧
     wpA P T ft { y := Y.y, p := fun pv en h s' => EndD P T fn g c e r s (.panicking [{ v := pv, recovered := false }]) en h s' } C ⟨enterE 0 (inj ds) ++ [(c, .ptr 1000000 0), (e, .ptr 1000001 0)], [(1000000, .box (.dd lc)), (1000001, .box (.dd le))], s⟩
      fun ex st3 => (ex = .normal ∨ ex = .ret) ∧ EndD P T fn g c e r s .returning st3.env st3.heap st3.s)) : FnV P f ds r := by
 intro σ Y s
 unfold fnB at hok
 rw [hb] at hok
 simp only [Bool.and_eq_true, bne_iff_ne, ne_eq] at hok
 obtain ⟨⟨⟨⟨hcode, hdraws⟩, hnt⟩, hname⟩, hlen⟩ := hok
 have hnt := Nat.le_of_ble_eq_true hnt
 have hlen := Nat.le_of_ble_eq_true hlen
 refine ⟨fun vs w => by simp [callFunc, hf, hname, hb, Go.mark], fun cx hY L F vals w hh hr => ?_⟩
 have hvl : vals.size = ds.length := by
  have := hr.length
  rw [inj_length] at this
  simpa using this
 have hsz : (vals ++ Array.replicate (fn.ntmps - vals.size) undef).size = fn.ntmps := by simp; omega
 refine callsIn_of_wp_marks hf hb trivial ?_
 have hdr := drawsB_spec (P := P) hm hT hdraws
 obtain ⟨hdA, ⟨hdB, hdB2, _⟩, hdD, hdC⟩ := hdr
 simp only [codeOk, Bool.and_eq_true] at hcode
 obtain ⟨hcA, ⟨hcB, hcB2, _⟩, hcD, hcC⟩ := hcode
 have hg : Good { cx with pρ := L.ρ, pκ := L.κ, base := [] } none [] L F ⟨enterE 0 (inj ds), [], s⟩ { tmps := vals ++ Array.replicate (fn.ntmps - vals.size) undef, defers := [] } w := by
  refine ⟨⟨hh.hg, hh.csz, hh.fresh, hh.obj, hh.own, hh.inj⟩, fun t v ht => ?_, rfl, (fun b hb => by cases hb), List.nodup_nil, (fun l hl => by cases hl), fun _ _ => ⟨rfl, rfl⟩, by rw [hsz]; exact hnt⟩
  obtain ⟨k, hk, hv⟩ := get_enter ht
  rw [Nat.zero_add] at hk; subst hk
  obtain ⟨x, hx, hrx⟩ := hr.get t hv
  refine ⟨x, ?_, hrx⟩
  have hlt : t < vals.size := by
   have := (List.getElem?_eq_some_iff.1 hx).1
   simpa using this
  rw [Array.getElem?_append_left hlt]
  simpa using hx
 generalize hcx0 : ({ cx with pρ := L.ρ, pκ := L.κ, base := [] } : Cx σ) = cx0 at hg
 have e1 : cx0.C = cx.C := by rw [← hcx0]
 have e2 : cx0.HG = cx.HG := by rw [← hcx0]
 have e3 : cx0.yv = cx.yv := by rw [← hcx0]
 have e4 : cx0.base = [] := by rw [← hcx0]
 have hY0 : Handles P Y.np cx0 := hY.same e1 e2 e3 _
 have hwA := hA Y s
 show (Code.seq _ _).wpIn Fence.wide 0 P (bodyPostM Fence.wide 0 P fn (EndR P cx L F w r s)) _ w
 generalize ha0 : ({ tmps := vals ++ Array.replicate (fn.ntmps - vals.size) undef, defers := [] } : Act) = a0 at hg
 have hs0 : a0.tmps.size = fn.ntmps := by rw [← ha0]; exact hsz
 refine wpIn_seq (wpIn_mono (region_m hT hY0 hwA hg (by rw [hs0]; simpa [codeOk] using hcA)) fun ex a1 w1 hq => ?_)
 rcases hq with ⟨st1, L1, F1, rfl, hw1, hg1, tr1, hs1⟩ | ⟨v, e', h', s', m', L', F', _, hy, _⟩
 case inr => exact hy.elim
 refine wpIn_seq (wpIn_seq (wpIn_mono (region_m hT hY0 hw1 hg1 (by rw [hs1, hs0]; simpa [codeOk] using hcB)) fun ex a2 w2 hq => ?_))
 rcases hq with ⟨st2, L2, F2, rfl, hw2, hg2, tr2, hs2⟩ | ⟨v, e', h', s', m', L', F', _, hy, _⟩
 case inr => exact hy.elim
 have tr02 := Tr.trans tr1 tr2
 have hs02 : a2.tmps.size = fn.ntmps := by rw [hs2, hs1, hs0]
 obtain ⟨en2, hp2, s2⟩ := st2
 unfold condK at hw2
 split at hw2
 case h_2 => exact hw2.elim
 rename_i tb htb
 have hev : a2.eval cd = .bool tb := hg2.opnd htb
 rcases brk_t hw2 with ⟨rfl, hw2⟩ | ⟨rfl, hw2⟩
 ·-- the early end
  refine wpIn_cond hev ?_
  refine wpIn_mono (wpA_sound hT B hdB2 _ _ hw2 cx0 hY0 none [] L2 F2 a2 w2 hg2 (by rw [hs02]; exact hcB2)) fun ex a' w' hq => ?_
  rcases hq with ⟨e', st', m', L', F', rfl, ⟨rfl, hk⟩, hg', tr, hs⟩ | ⟨v, e', h', s', m', L', F', _, hy, _⟩
  case inr => exact hy.elim
  show LeavesInM Fence.wide 0 P fn a'.tmps _ a'.defers .returning w'
  rw [hg'.dfr, e4, List.append_nil]
  refine leaves_marks m' hg'.heap (Tr.trans tr02 tr) hg'.mks hg'.mnd fun w'' hh'' tr'' => ?_
  obtain ⟨en1, h1, s1⟩ := st'
  have hk : resK T en1 h1 fn.results.toList fun l => RetA l h1 s1 _ := hk
  obtain ⟨l, ⟨hret⟩, hrun⟩ := resK_t (P := P) hT hk
  have hg'' : Good { cx0 with base := [] } none [] L' F' ⟨en1, h1, s1⟩ { a' with defers := [] } w'' := by
   refine ⟨hh''.cxs rfl rfl rfl, fun t v ht => ?_, rfl, (fun b hb => by cases hb), List.nodup_nil, (fun l hl => by cases hl), hg'.pin, hg'.tsz⟩
   obtain ⟨x, hx, hrx⟩ := hg'.env t v ht
   exact ⟨x, hx, RepV.mono tr'' v x (fun _ _ => ⟨rfl, rfl⟩) hrx⟩
  obtain ⟨vals', hres, hrep⟩ := hrun hg''
  obtain ⟨v, h', L3, F3, ⟨⟨rfl, rfl⟩, rfl⟩, hh2, hr2, tr3, pin2⟩ := hret cx L' F' vals' w'' (hh''.cxs e1.symm e2.symm e3.symm) (by rw [← e3]; exact hrep)
  exact ⟨_, run_results hres, EndR.of hh2 hr2 (Tr.trans tr02 (Tr.trans tr (Tr.trans tr'' tr3)))⟩
 ·-- the closure is deferred
  obtain ⟨hwk, hwC⟩ := hw2
  refine wpIn_cond hev (wpIn_skip ?_)
  obtain ⟨L3, F3, hg3, tr3⟩ := hwk cx0 none [] L2 F2 a2 w2 hg2
  have tr03 := Tr.trans tr02 tr3
  have gc : get (enterE 0 (inj ds) ++ [(c, V.ptr c 0), (e, V.ptr e 0)]) c = some (.ptr c 0) := by rw [get_app, hAc]; simp [get]
  have ge : get (enterE 0 (inj ds) ++ [(c, V.ptr c 0), (e, V.ptr e 0)]) e = some (.ptr e 0) := by
   rw [get_app, hAe]
   have : Nat.beq c e = false := by rw [Bool.eq_false_iff]; intro h; exact hce (Nat.eq_of_beq_eq_true h)
   simp [get, this]
  obtain ⟨p, hp, rp⟩ := hg3.env c _ gc
  obtain ⟨q, hq, rq⟩ := hg3.env e _ ge
  have rp : p = .pointer (some ⟨L3.ρ c, 0, none⟩) := rp
  have rq : q = .pointer (some ⟨L3.ρ e, 0, none⟩) := rq
  refine wpIn_seq (hdef a2 w2 p q _ hp hq hs02 ?_)
  have hde : a2.defers = [] := by have := hg3.dfr; rw [e4] at this; simpa using this
  rw [hde]
  obtain ⟨L4, hL4⟩ : ∃ L4 : Loc, L4 = ⟨fun k => if k = 1000000 then L3.ρ c else if k = 1000001 then L3.ρ e else L3.ρ k, fun k => if k = 1000000 then L3.κ c else if k = 1000001 then L3.κ e else L3.κ k⟩ := ⟨_, rfl⟩
  have r0 : L4.ρ 1000000 = L3.ρ c := by rw [hL4]; rfl
  have r1 : L4.ρ 1000001 = L3.ρ e := by rw [hL4]; rfl
  obtain ⟨d, hd⟩ : ∃ d : Deferred, d = { target := .fn (.func g) #[p, q], args := #[] } := ⟨_, rfl⟩
  rw [← hd]
  obtain ⟨cx1, hcx1⟩ : ∃ cx1 : Cx σ, cx1 = { cx0 with pρ := L4.ρ, pκ := L4.κ, base := [d] } := ⟨_, rfl⟩
  have f1 : cx1.C = cx.C := by rw [hcx1]; exact e1
  have f2 : cx1.HG = cx.HG := by rw [hcx1]; exact e2
  have f3 : cx1.yv = cx.yv := by rw [hcx1]; exact e3
  have hbc := hg3.heap.obj c (.box (.dd lc)) (by simp [get])
  have hbe := hg3.heap.obj e (.box (.dd le)) (by
   have : Nat.beq c e = false := by rw [Bool.eq_false_iff]; intro h; exact hce (Nat.eq_of_beq_eq_true h)
   simp [get, this])
  have hoc := hg3.heap.own c (.box (.dd lc)) (by simp [get]) trivial
  have hoe := hg3.heap.own e (.box (.dd le)) (by
   have : Nat.beq c e = false := by rw [Bool.eq_false_iff]; intro h; exact hce (Nat.eq_of_beq_eq_true h)
   simp [get, this]) trivial
  have hne : L3.ρ c ≠ L3.ρ e := fun h => hce (hg3.heap.inj c e (.box (.dd lc)) (.box (.dd le)) (by simp [get]) (by
   have : Nat.beq c e = false := by rw [Bool.eq_false_iff]; intro h; exact hce (Nat.eq_of_beq_eq_true h)
   simp [get, this]) trivial trivial h)
  have key : ∀ i o, get [(1000000, Obj.box (.dd lc)), (1000001, Obj.box (.dd le))] i = some o → (i = 1000000 ∧ o = .box (.dd lc)) ∨ (i = 1000001 ∧ o = .box (.dd le)) := by
   intro i o hi
   simp only [get] at hi
   split at hi
   ·rename_i h; cases hi; exact .inl ⟨(Nat.eq_of_beq_eq_true h).symm, rfl⟩
   ·split at hi
    ·rename_i h; cases hi; exact .inr ⟨(Nat.eq_of_beq_eq_true h).symm, rfl⟩
    ·cases hi
  have hg4 : Good cx1 none [] L4 F3 ⟨enterE 0 (inj ds) ++ [(c, .ptr 1000000 0), (e, .ptr 1000001 0)], [(1000000, .box (.dd lc)), (1000001, .box (.dd le))], s⟩ { tmps := a2.tmps.setIfInBounds t (.func (.func g) #[] #[p, q]), defers := [d] } w2 := by
   refine ⟨⟨by rw [f2, ← e2]; exact hg3.heap.hg, fun b hb => hg3.heap.csz b (by rw [e1, ← f1]; exact hb), hg3.heap.fresh, fun i o hi => ?_, fun i o hi hbk => ?_, fun i j o o' hi hj hbi hbj he => ?_⟩, fun k v hk => ?_, by rw [hcx1]; rfl, (fun b hb => by cases hb), List.nodup_nil, (fun l hl => by cases hl), fun i hi => by rw [hcx1]; exact ⟨rfl, rfl⟩, by rw [Array.size_setIfInBounds]; exact hg3.tsz⟩
   ·rcases key i o hi with ⟨rfl, rfl⟩ | ⟨rfl, rfl⟩
    ·obtain ⟨cs, TT, h1, h2⟩ := hbc
     exact ⟨cs, TT, by rw [r0]; exact h1, RepVL.inj.2 (RepVL.inj.1 h2)⟩
    ·obtain ⟨cs, TT, h1, h2⟩ := hbe
     exact ⟨cs, TT, by rw [r1]; exact h1, RepVL.inj.2 (RepVL.inj.1 h2)⟩
   ·rw [f1, ← e1]
    rcases key i o hi with ⟨rfl, rfl⟩ | ⟨rfl, rfl⟩
    ·rw [r0]; exact hoc
    ·rw [r1]; exact hoe
   ·rcases key i o hi with ⟨rfl, rfl⟩ | ⟨rfl, rfl⟩ <;> rcases key j o' hj with ⟨rfl, rfl⟩ | ⟨rfl, rfl⟩
    ·rfl
    ·rw [r0, r1] at he; exact absurd he hne
    ·rw [r0, r1] at he; exact absurd he.symm hne
    ·rfl
   ·rw [get_app] at hk
    have hset : ∀ k, k ≠ t → (a2.tmps.setIfInBounds t (.func (.func g) #[] #[p, q]))[k]? = a2.tmps[k]? := fun k hkt => Array.getElem?_setIfInBounds_ne (Ne.symm hkt)
    split at hk
    ·rename_i u hu
     cases hk
     obtain ⟨dd, rfl⟩ := get_enterD hu
     obtain ⟨x, hx, hrx⟩ := hg3.env k (.d dd) (by rw [get_app, hu])
     refine ⟨x, ?_, hrx⟩
     show (a2.tmps.setIfInBounds t _)[k]? = _
     rw [hset k (by rintro rfl; rw [hAt] at hu; cases hu)]
     exact hx
    ·simp only [get] at hk
     split at hk
     ·rename_i h
      have := (Nat.eq_of_beq_eq_true h).symm; subst this
      cases hk
      refine ⟨p, ?_, ?_⟩
      ·show (a2.tmps.setIfInBounds t _)[k]? = _
       rw [hset k hct]; exact hp
      ·show p = _
       rw [rp, r0]
     ·split at hk
      ·rename_i h
       have := (Nat.eq_of_beq_eq_true h).symm; subst this
       cases hk
       refine ⟨q, ?_, ?_⟩
       ·show (a2.tmps.setIfInBounds t _)[k]? = _
        rw [hset k het]; exact hq
       ·show q = _
        rw [rq, r1]
      ·cases hk
  have hY1 : Handles P { y := Y.y, p := fun pv en h s' => EndD P T fn g c e r s (.panicking [{ v := pv, recovered := false }]) en h s' } cx1 := hY.same f1 f2 f3 _
  have hfin : ∀ {u : FrameMode} {st' : St σ} {m' : List Nat} {L' : Loc} {F' : Nat → Nat} {a' : Act} {w' : World}, u ≠ .run → EndD P T fn g c e r s u st'.env st'.heap st'.s → Good cx1 none m' L' F' st' a' w' → Tr F3 w2 F' w' → LeavesInM Fence.wide 0 P fn a'.tmps (EndR P cx L F w r s) a'.defers u w' := by
   rintro u st' m' L' F' a' w' hu ⟨ec, ee, u', hR, hset, hclo, hres⟩ hg' tr
   have hbs : cx1.base = [d] := by rw [hcx1]
   rw [hg'.dfr, hbs]
   refine leaves_marks_t hu m' hg'.heap (Tr.trans tr03 tr) hg'.mks hg'.mnd fun w'' hh'' tr'' => ?_
   have p0 : L'.ρ 1000000 = L3.ρ c := by
    have := (hg'.pin 1000000 (by unfold pinned; omega)).1
    rw [hcx1] at this
    exact this.trans r0
   have p1 : L'.ρ 1000001 = L3.ρ e := by
    have := (hg'.pin 1000001 (by unfold pinned; omega)).1
    rw [hcx1] at this
    exact this.trans r1
   refine ⟨hu, .inr ⟨by simp [Fence.wide], .func g, #[p, q], g, #[p, q], by rw [hd], ?_, fun _ _ => trivial, ?_⟩⟩
   ·rw [hd]; exact hinv p q w''
   have hlaid : LaidCx P cx1 := hY1.laid
   have hcall := hclo cx1 hlaid L' F' st'.s w'' hh''
   rw [p0, p1, ← rp, ← rq] at hcall
   refine hcall.mono ?_
   rintro en u2 w3 ⟨⟨x, rfl⟩, rfl, L5, F5, hh5, tr5, pin5⟩
   show LeavesInM Fence.wide 0 P fn a'.tmps _ [] (settle u2) w3
   rw [hset]
   simp only [LeavesInM, LeavesIn]
   obtain ⟨l, ⟨hret⟩, hrun⟩ := resK_t (P := P) hT hres
   have hg5 : Good { cx1 with pρ := L5.ρ, pκ := L5.κ, base := [] } none [] L5 F5 ⟨[(c, .ptr 1000000 0), (e, .ptr 1000001 0)], hR, st'.s⟩ { a' with defers := [] } w3 := by
    refine ⟨hh5.cxs rfl rfl rfl, fun k v hk => ?_, rfl, (fun b hb => by cases hb), List.nodup_nil, (fun l hl => by cases hl), fun _ _ => ⟨rfl, rfl⟩, hg'.tsz⟩
    simp only [get] at hk
    split at hk
    ·rename_i h
     have := (Nat.eq_of_beq_eq_true h).symm; subst this
     cases hk
     obtain ⟨x, hx, hrx⟩ := hg'.env _ _ ec
     refine ⟨x, hx, ?_⟩
     have hrx : x = .pointer (some ⟨L'.ρ 1000000, 0, none⟩) := hrx
     show x = _
     rw [hrx, (pin5 1000000 (by unfold pinned; omega)).1]
    ·split at hk
     ·rename_i h
      have := (Nat.eq_of_beq_eq_true h).symm; subst this
      cases hk
      obtain ⟨x, hx, hrx⟩ := hg'.env _ _ ee
      refine ⟨x, hx, ?_⟩
      have hrx : x = .pointer (some ⟨L'.ρ 1000001, 0, none⟩) := hrx
      show x = _
      rw [hrx, (pin5 1000001 (by unfold pinned; omega)).1]
     ·cases hk
   obtain ⟨vals', hres', hrep⟩ := hrun hg5
   obtain ⟨v, h', L6, F6, ⟨rfl, rfl, hss⟩, hh6, hr6, tr6, _⟩ := hret cx L5 F5 vals' w3 (hh5.cxs f1.symm f2.symm f3.symm) (by rw [← f3]; exact hrep)
   refine ⟨_, run_results hres', ?_⟩
   rw [hss] at hh6
   exact EndR.of hh6 hr6 (Tr.trans tr03 (Tr.trans tr (Tr.trans tr'' (Tr.trans tr5 tr6))))
  refine wpIn_mono (wpA_sound hT C hdC _ _ hwC cx1 hY1 none [] L4 F3 _ w2 hg4 (by simp only [Array.size_setIfInBounds]; rw [hs02]; exact hcC)) fun ex a' w' hq => ?_
  rcases hq with ⟨e', st', m', L', F', rfl, ⟨he, hk⟩, hg', tr, hs⟩ | ⟨pv, e', h', s', m', L', F', rfl, hy, hg', tr, hs⟩
  ·rcases he with rfl | rfl
   ·exact hfin (by simp) hk hg' tr
   ·exact hfin (by simp) hk hg' tr
  ·exact hfin (st' := ⟨e', h', s'⟩) (by simp) hy hg' tr
end
end Go.PX
namespace Go.PX
open Go.Proofs
open Go.RowKit
theorem res93 (l : Array Value) (w : World) : (results Tryz.f93 l).run Tryz.prog w = .ok (.tuple #[]) w := by
 have h : (([] : List ResultVar).mapM (resOne l)).run Tryz.prog w = .ok [] w := by simp
 exact run_results (fn := Tryz.f93) h
theorem clo93_idle (h : Heap) : CloD Tryz.prog 93 .returning .returning h h := by
 intro σ cx hl L F s w hh
 refine callsDIn_of_wpSIn Tryz.func93 rfl trivial fun c₀ cs hu => ?_
 apply wpSIn_seq
 apply wpSIn_region
 simp [wpOpsSIn, go_sem, recoverD, hu, Exit.thenS]
 refine wpSIn_of_wpIn rfl ?_
 refine clo_tail tysOk (ft := ft93) hl hh (n := 9) rfl (v := .nilIface) (d := .nili) rfl trivial (by simp) rfl (by rfl) (by rfl) (by rfl) (by decide +kernel) (by exact (drawsB_spec mixed tysOk (by decide +kernel))) rfl (h' := h) ?_ ?_
 ·intro a' w' L' F' hdf hh' tr pin
  refine ⟨hdf, .returning, by cases c₀; simp_all, .tuple #[], res93 _ _, ⟨⟨_, rfl⟩, rfl, L', F', hh', tr, pin⟩⟩
 ·conv=>whnf
  exact ⟨fun _ _ h => h, rfl⟩
theorem clo93_pan (near : Int) (i n : Nat) : CloD Tryz.prog 93 (.panicking [{ v := pan6, recovered := false }]) (.panicking [{ v := pan6, recovered := true }]) [(1000000, .box (.vv [.d (i64 near), .sl i 6 0 n])), (1000001, .box (.dd [i64 0]))] [(1000000, .box (.vv [.d (i64 0), .d .nils])), (1000001, .box (.dd [i64 6]))] := by
 intro σ cx hl L F s w hh
 refine callsDIn_of_wpSIn Tryz.func93 rfl trivial fun c₀ cs hu => ?_
 apply wpSIn_seq
 apply wpSIn_region
 simp [wpOpsSIn, go_sem, recoverD, hu, Exit.thenS]
 refine wpSIn_of_wpIn rfl ?_
 refine clo_tail tysOk (ft := ft93) hl hh (n := 9) rfl (v := pan6) (d := .ifc 27 (i64 6)) ⟨_, rfl, rfl⟩ trivial (by simp) rfl (by rfl) (by rfl) (by rfl) (by decide +kernel) (by exact (drawsB_spec mixed tysOk (by decide +kernel))) rfl (h' := [(1000000, .box (.vv [.d (i64 0), .d .nils])), (1000001, .box (.dd [i64 6]))]) ?_ ?_
 ·intro a' w' L' F' hdf hh' tr pin
  refine ⟨hdf, .panicking [{ v := pan6, recovered := true }], rfl, .tuple #[], res93 _ _, ⟨⟨_, rfl⟩, rfl, L', F', hh', tr, pin⟩⟩
 ·conv=>whnf
  exact ⟨subHeap_t ⟨rfl, rfl, trivial⟩, rfl⟩
end Go.PX
namespace Go.PX
open Go.Proofs
def nearP : ByteArray := ⟨#[110, 101, 97, 114, 32]⟩
def hasP (s p : ByteArray) : Bool := decide (p.size ≤ s.size) && decide (s.extract 0 p.size = p)
theorem pa133 (s p : ByteArray) : FnV Tryz.prog 133 [.str s, .str p] (.bool (hasP s p)) := by
 refine fnV_of mixed tysOk Tryz.func133 rfl (ft := ft133) 2 (by decide +kernel) (by rfl) fun {σ} Y st => ?_
 conv=>whnf
 unfold hasP
 have e : decide (((p.size : Nat) : Int) ≤ ((s.size : Nat) : Int)) = decide (p.size ≤ s.size) := by
  rw [Bool.eq_iff_iff, decide_eq_true_eq, decide_eq_true_eq]; omega
 rw [e]
 cases hd : decide (p.size ≤ s.size) with
 | false =>
  conv=>whnf
  exact RetA_view 0 rfl ⟨⟨rfl, rfl⟩, rfl⟩
 | true =>
  have hd := of_decide_eq_true hd
  conv=>whnf
  refine chk_i (by simp; omega) ?_
  conv=>whnf
  exact RetA_view 0 rfl ⟨⟨congrArg (fun z => V.d (.bool z)) (by simp), rfl⟩, rfl⟩
def cutP (s p : ByteArray) : ByteArray × Bool := if hasP s p then (s.extract p.size s.size, true) else (s, false)
theorem pa124 (s p : ByteArray) : FnV Tryz.prog 124 [.str s, .str p] (.tup [.str (cutP s p).1, .bool (cutP s p).2]) := by
 unfold cutP
 refine fnV_of mixed tysOk Tryz.func124 rfl (ft := ft124) 2 (by decide +kernel) (by rfl) fun {σ} Y st => ?_
 conv=>whnf
 refine CallA_v (pa133 s p) rfl rfl ?_
 conv=>whnf
 cases hh : hasP s p with
 | false =>
  conv=>whnf
  exact RetA_view 0 rfl ⟨⟨rfl, rfl⟩, rfl⟩
 | true =>
  have hle : p.size ≤ s.size := by
   unfold hasP at hh
   rw [Bool.and_eq_true] at hh
   exact of_decide_eq_true hh.1
  conv=>whnf
  refine chk_i (by simp; omega) ?_
  conv=>whnf
  exact RetA_view 0 rfl ⟨⟨congrArg (fun z => V.d (.tup [.str z, .bool true])) (by simp), rfl⟩, rfl⟩
theorem pa95 (s p : ByteArray) : FnV Tryz.prog 95 [.str s, .str p] (.tup [.str (cutP s p).1, .bool (cutP s p).2]) := by
 refine fnV_of mixed tysOk Tryz.func95 rfl (ft := ft95) 2 (by decide +kernel) (by rfl) fun {σ} Y st => ?_
 conv=>whnf
 refine CallA_v (pa124 s p) rfl rfl ?_
 conv=>whnf
 exact RetA_view 0 rfl ⟨⟨rfl, rfl⟩, rfl⟩
end Go.PX
namespace Go.PX
open Go.Proofs
theorem injL_last (A : List (List D)) (a : List D) : injL (A ++ [a ++ [.nils]]) = injL A ++ [inj a ++ [.d .nils]] := by
 rw [injL_eq, injL_eq, List.map_append]
 have : inj (a ++ [.nils]) = inj a ++ [.d .nils] := by rw [inj_append]; rfl
 rw [List.map_cons, List.map_nil, this]
theorem lensAre_swap {sz : Nat} {X : List (List V)} {a : List V} {x y : V} (h : lensAre sz (X ++ [a ++ [x]])) : lensAre sz (X ++ [a ++ [y]]) := by
 intro e he
 rcases List.mem_append.1 he with he | he
 ·exact h e (List.mem_append_left _ he)
 ·rw [List.mem_singleton] at he
  have := h (a ++ [x]) (by simp)
  rw [he, ← this]; simp
theorem Wk.bornArr {σ : Type} {e : Env} {h : Heap} {s : σ} (b k sz sz2 : Nat) (A : List (List D)) (a : List D) (hk : Nat.blt k 1000000 = true) (hs : Nat.blt 0 sz2 = true) (hb : get h b = some (.arr sz (.dd (A ++ [a ++ [.nils]])))) (hbk : Nat.beq b k = false) :
  Wk (⟨e, h, s⟩ : St σ) ⟨mapT (mapId (killF k)) e, put (((k, .arr sz2 (.dd [])) :: mapT (Obj.mapId (killF k)) (cut h k))) b (.arr sz (.vv (injL A ++ [inj a ++ [.sl k sz2 0 0]]))), s⟩ := by
 have hk := Nat.le_of_ble_eq_true hk
 have hs := Nat.le_of_ble_eq_true hs
 have hne : b ≠ k := by rintro rfl; simp at hbk
 have h1 : Wk (⟨e, h, s⟩ : St σ) ⟨mapT (mapId (killF k)) e, ((k, .arr sz2 (.dd [])) :: mapT (Obj.mapId (killF k)) (cut h k)), s⟩ := by
  intro cx r m L F a w hg
  exact ⟨_, F, hg.newEmpty k sz2 (by unfold pinned; omega) hs (.dd []) rfl, Tr.refl F w⟩
 refine h1.trans (Wk.reobj b (o := .arr sz (.dd (A ++ [a ++ [.nils]]))) _ (by rw [get_one, if_neg hne, get_mapT, get_cut, if_neg hne, hb]; rfl) (fun yv L F w h => ?_) fun L hb => hb)
 obtain ⟨h0, hl, hr⟩ := h
 have hl : lensAre sz (injL (A ++ [a ++ [.nils]])) := hl
 have hr : (injL (A ++ [a ++ [.nils]]) = [] ∧ L.κ b = 0) ∨ ∃ (c : Array Value) (T : TypeId), w.heap[L.ρ b]? = some (.cells c T (0, 0)) ∧ c.size = L.κ b ∧ (injL (A ++ [a ++ [.nils]])).length * sz ≤ c.size ∧ RepVL yv L F w (injL (A ++ [a ++ [.nils]])).flatten (c.toList.take ((injL (A ++ [a ++ [.nils]])).length * sz)) := hr
 rw [injL_last] at hl hr
 refine ⟨h0, lensAre_swap hl, .inr ?_⟩
 rcases hr with ⟨hr, _⟩ | ⟨c, T, h2, h3, h4, h5⟩
 ·simp at hr
 ·have hlen : (injL A ++ [inj a ++ [V.sl k sz2 0 0]]).length = (injL A ++ [inj a ++ [V.d .nils]]).length := by simp
  refine ⟨c, T, h2, h3, by show (injL A ++ [inj a ++ [V.sl k sz2 0 0]]).length * sz ≤ c.size; rw [hlen]; exact h4, ?_⟩
  show RepVL yv L F w (injL A ++ [inj a ++ [V.sl k sz2 0 0]]).flatten (c.toList.take ((injL A ++ [inj a ++ [V.sl k sz2 0 0]]).length * sz))
  rw [hlen]
  have e1 : (injL A ++ [inj a ++ [V.d .nils]]).flatten = ((injL A).flatten ++ inj a) ++ V.d .nils :: [] := by simp
  have e2 : (injL A ++ [inj a ++ [V.sl k sz2 0 0]]).flatten = ((injL A).flatten ++ inj a) ++ V.sl k sz2 0 0 :: [] := by simp
  rw [e1] at h5
  rw [e2]
  exact RepVL.nil_at k sz2 hs h5
end Go.PX
namespace Go.PX
open Go.Proofs
open Go.RowKit
theorem clo93_pan2 (near : Int) : CloD Tryz.prog 93 (.panicking [{ v := pan6, recovered := false }]) (.panicking [{ v := pan6, recovered := true }]) [(1000000, .box (.dd [i64 near, .nils])), (1000001, .box (.dd [i64 0]))] [(1000000, .box (.dd [i64 0, .nils])), (1000001, .box (.dd [i64 6]))] := by
 intro σ cx hl L F s w hh
 refine callsDIn_of_wpSIn Tryz.func93 rfl trivial fun c₀ cs hu => ?_
 apply wpSIn_seq
 apply wpSIn_region
 simp [wpOpsSIn, go_sem, recoverD, hu, Exit.thenS]
 refine wpSIn_of_wpIn rfl ?_
 refine clo_tail tysOk (ft := ft93) hl hh (n := 9) rfl (v := pan6) (d := .ifc 27 (i64 6)) ⟨_, rfl, rfl⟩ trivial (by simp) rfl (by rfl) (by rfl) (by rfl) (by decide +kernel) (by exact (drawsB_spec mixed tysOk (by decide +kernel))) rfl (h' := [(1000000, .box (.dd [i64 0, .nils])), (1000001, .box (.dd [i64 6]))]) ?_ ?_
 ·intro a' w' L' F' hdf hh' tr pin
  refine ⟨hdf, .panicking [{ v := pan6, recovered := true }], rfl, .tuple #[], res93 _ _, ⟨⟨_, rfl⟩, rfl, L', F', hh', tr, pin⟩⟩
 ·conv=>whnf
  exact ⟨subHeap_t ⟨rfl, rfl, trivial⟩, rfl⟩
def readP : Nat → PLog → List UInt8 → Option PLog
 | 0, c, _ => some c
 | n + 1, c, l => if l = [] then some c else
  if (cut1 10 l).2.2 then
   match takeP c (piecesB 32 ⟨(cut1 10 l).1.toArray⟩) with
   | some c' => readP n c' (cut1 10 l).2.1
   | none => none
  else none
def logO : PLog := ⟨0, []⟩
def firstF (l : List UInt8) : Option (Int × List UInt8) :=
 if (cut1 10 l).2.2 then
  if (cutP ⟨(cut1 10 l).1.toArray⟩ nearP).2 then (atoiX (cutP ⟨(cut1 10 l).1.toArray⟩ nearP).1).map fun n => (n, (cut1 10 l).2.1) else none
 else none
def readAll (l : List UInt8) : Option PLog := match firstF l with
 | none => none
 | some x => readP x.2.length ⟨x.1, []⟩ x.2
def readX (s : ByteArray) : PLog × Int :=
 if 1500 < s.size then (logO, 3) else
 match readAll s.data.toList with
 | some c => if checkN c = 0 ∧ logT c = s then (c, 0) else (logO, 6)
 | none => (logO, 6)
theorem cut1_len (c : UInt8) : ∀ l : List UInt8, (cut1 c l).1.length + (cut1 c l).2.1.length ≤ l.length ∧ (l ≠ [] → (cut1 c l).2.1.length < l.length)
 | [] => by simp [cut1]
 | x :: r => by
  have ih := cut1_len c r
  rw [cut1]
  split
  ·simp
  ·simp only [List.length_cons]
   refine ⟨by omega, fun _ => ?_⟩
   omega
theorem readP_fuel : ∀ (n m : Nat) (c : PLog) (l : List UInt8), l.length ≤ n → l.length ≤ m → readP n c l = readP m c l
 | 0, 0, _, _, _, _ => rfl
 | 0, m + 1, c, l, hn, _ => by
  have : l = [] := List.length_eq_zero_iff.1 (by omega)
  rw [readP, readP, if_pos this]
 | n + 1, 0, c, l, _, hm => by
  have : l = [] := List.length_eq_zero_iff.1 (by omega)
  rw [readP, readP, if_pos this]
 | n + 1, m + 1, c, l, hn, hm => by
  rw [readP, readP]
  by_cases h : l = []
  ·rw [if_pos h, if_pos h]
  ·rw [if_neg h, if_neg h]
   have := (cut1_len 10 l).2 h
   split
   ·cases takeP c (piecesB 32 ⟨(cut1 10 l).1.toArray⟩) with
    | none => rfl
    | some c' => exact readP_fuel n m c' _ (by omega) (by omega)
   ·rfl
def readL (c : PLog) (l : List UInt8) : Option PLog := readP l.length c l
theorem readL_eq (c : PLog) (l : List UInt8) : readL c l = if l = [] then some c else
  if (cut1 10 l).2.2 then
   match takeP c (piecesB 32 ⟨(cut1 10 l).1.toArray⟩) with
   | some c' => readL c' (cut1 10 l).2.1
   | none => none
  else none := by
 unfold readL
 by_cases h : l = []
 ·subst h; rfl
 ·obtain ⟨x, r, rfl⟩ := List.exists_cons_of_ne_nil h
  rw [if_neg h]
  have hl := (cut1_len 10 (x :: r)).2 h
  show readP (r.length + 1) c (x :: r) = _
  rw [readP, if_neg h]
  split
  ·cases takeP c (piecesB 32 ⟨(cut1 10 (x :: r)).1.toArray⟩) with
   | none => rfl
   | some c' => exact readP_fuel _ _ c' _ (by simp at hl; omega) (Nat.le_refl _)
  ·rfl
def failD (e : Int) : D := .tup [.agg [i64 0, .nils], i64 e]
theorem pa94L (l : List UInt8) (c : UInt8) (hs : l.length ≤ 1000000000) : FnV Tryz.prog 94 [.str ⟨l.toArray⟩, .str ⟨#[c]⟩] (.tup [.str ⟨(cut1 c l).1.toArray⟩, .str ⟨(cut1 c l).2.1.toArray⟩, .bool (cut1 c l).2.2]) := by
 have h := @pa94 ⟨l.toArray⟩ c (by show l.toArray.size ≤ _; simpa using hs)
 have e : (⟨l.toArray⟩ : ByteArray).data.toList = l := rfl
 rw [e] at h
 exact fun {σ} => h
theorem endPan {σ : Type} {st : σ} {en : Env} {h : Heap} {near : Int} {i n : Nat} (h2 : get en 2 = some (.ptr 1000000 0)) (h3 : get en 3 = some (.ptr 1000001 0)) (hh : subHeap h [(1000000, .box (.vv [.d (i64 near), .sl i 6 0 n])), (1000001, .box (.dd [i64 0]))]) :
  EndD Tryz.prog tys Tryz.f41 93 2 3 (failD 6) st (.panicking [{ v := pan6, recovered := false }]) en h st := by
 refine ⟨h2, h3, .panicking [{ v := pan6, recovered := true }], _, rfl, CloD.sub (h0 := [(1000000, .box (.vv [.d (i64 near), .sl i 6 0 n])), (1000001, .box (.dd [i64 0]))]) (fun {σ} => clo93_pan near i n) hh, ?_⟩
 conv=>whnf
 exact RetA_view 1 rfl ⟨rfl, rfl, rfl⟩
theorem endPan2 {σ : Type} {st : σ} {en : Env} {h : Heap} {near : Int} (h2 : get en 2 = some (.ptr 1000000 0)) (h3 : get en 3 = some (.ptr 1000001 0)) (hh : subHeap h [(1000000, .box (.dd [i64 near, .nils])), (1000001, .box (.dd [i64 0]))]) :
  EndD Tryz.prog tys Tryz.f41 93 2 3 (failD 6) st (.panicking [{ v := pan6, recovered := false }]) en h st := by
 refine ⟨h2, h3, .panicking [{ v := pan6, recovered := true }], _, rfl, CloD.sub (h0 := [(1000000, .box (.dd [i64 near, .nils])), (1000001, .box (.dd [i64 0]))]) (fun {σ} => clo93_pan2 near) hh, ?_⟩
 conv=>whnf
 exact RetA_view 1 rfl ⟨rfl, rfl, rfl⟩
end Go.PX
namespace Go.PX
open Go.Proofs
open Go.RowKit
def rdH (near : Int) (o : Option (List PBook × PBook)) : Heap := match o with
 | none => [(1000000, .box (.vv [.d (i64 near), .sl 900001 6 0 0])), (900001, .arr 6 (.dd []))]
 | some x => lg1 1000000 900001 900002 near x.1 x.2
def rdL (near : Int) (o : Option (List PBook × PBook)) : PLog := match o with
 | none => ⟨near, []⟩
 | some x => ⟨near, x.1 ++ [x.2]⟩
def totE (bs : List PBook) : Nat := (bs.map fun b => 1 + b.ents.length).sum
theorem splitL_len (c : UInt8) : ∀ l : List UInt8, (splitL c l).length ≤ l.length + 1
 | [] => by simp [splitL]
 | x :: r => by
  have ih := splitL_len c r
  rw [splitL]
  split
  ·simpa using ih
  ·have : (headC x (splitL c r)).length ≤ max 1 (splitL c r).length := by cases splitL c r <;> simp [headC]
   simp only [List.length_cons]
   omega
theorem splitL_mem (c : UInt8) : ∀ (l : List UInt8), ∀ x ∈ splitL c l, x.length ≤ l.length
 | [], x, hx => by simp [splitL] at hx; subst hx; simp
 | y :: r, x, hx => by
  have ih := splitL_mem c r
  rw [splitL] at hx
  split at hx
  ·rcases List.mem_cons.1 hx with rfl | hx
   ·simp
   ·have := ih x hx; simp only [List.length_cons]; omega
  ·cases hs : splitL c r with
   | nil => rw [hs] at hx; simp [headC] at hx; subst hx; simp
   | cons a t =>
    rw [hs] at hx ih
    rcases List.mem_cons.1 hx with rfl | hx
    ·have := ih a (by simp); simp only [List.length_cons]; omega
    ·have := ih x (by simp [hx]); simp only [List.length_cons]; omega
theorem piecesB_len (c : UInt8) (s : ByteArray) : (piecesB c s).length ≤ s.size + 1 := by
 have := splitL_len c s.data.toList
 simp only [piecesB, List.length_map]
 simpa using this
theorem piecesB_mem (c : UInt8) (s : ByteArray) : ∀ x ∈ piecesB c s, x.size ≤ s.size := by
 intro x hx
 obtain ⟨y, hy, rfl⟩ := List.mem_map.1 hx
 have := splitL_mem c s.data.toList y hy
 show y.length ≤ s.size
 simpa using this
theorem piecesB_ne (c : UInt8) (s : ByteArray) : piecesB c s ≠ [] := by
 unfold piecesB
 intro h
 exact splitL_ne c _ (List.map_eq_nil_iff.1 h)
theorem cutP_size (s p : ByteArray) : (cutP s p).1.size ≤ s.size := by
 unfold cutP
 split
 ·simp
 ·exact Nat.le_refl _
theorem bookF_ents {r : List ByteArray} {b : PBook} (h : bookF r = some b) : ∃ n o s, b = ⟨n, o, s, []⟩ := by
 unfold bookF at h
 split at h
 ·rename_i n a b' c d
  cases h2 : four a b' c d with
  | none => rw [h2] at h; cases h
  | some x => rw [h2] at h; cases h; exact ⟨_, _, _, rfl⟩
 ·cases h
theorem totE_last (init : List PBook) (last : PBook) : totE (init ++ [last]) = totE init + 1 + last.ents.length ∧ init.length ≤ totE init := by
 have h1 : totE (init ++ [last]) = totE init + (1 + last.ents.length) := by unfold totE; rw [List.map_append, List.sum_append]; simp
 refine ⟨by omega, ?_⟩
 clear h1
 induction init with
 | nil => exact Nat.zero_le _
 | cons b r ih =>
  have : totE (b :: r) = (1 + b.ents.length) + totE r := by unfold totE; rw [List.map_cons, List.sum_cons]
  rw [List.length_cons]; omega
theorem lg1_names (b i j : Nat) (near : Int) (init : List PBook) (last : PBook) : heapNames (lg1 b i j near init last) = [b, i, i, j, j] := by
 show b :: ([i] ++ (i :: (namesOfL (List.flatten (injL (init.map PBook.cells) ++ [inj (hdC last) ++ [V.sl j 4 0 last.ents.length]])) ++ [j]))) = _
 rw [namesOfL_injL]; rfl
theorem lg1_callB2 (near : Int) (init : List PBook) (last : PBook) : callB [1000000, 900001, 900002] (some 51) (.d (.tup [])) (lg1 1000000 1000001 1000002 near init last) = true := by
 unfold callB; rw [lg1_names]; rfl
theorem lg1_callBn (near : Int) (init : List PBook) (last : PBook) : callB [1000000, 900001, 900002] (some 51) (.d (.tup [])) (lg1 1000000 1000001 2000000 near init last) = true := by
 unfold callB; rw [lg1_names]; rfl
theorem viewV_slv {h : Heap} {k id sz n : Nat} {vs : List (List V)} {es : List (List D)} (hg : get h id = some (.arr sz (.vv vs))) (hv : viewLL (objD h k) vs = some es) (hn : n = es.length) : viewV (objD h (k + 1)) (.sl id sz 0 n) = some (.vs es) := by
 have h1 : Nat.beq sz sz = true := Nat.beq_refl sz
 have h2 : Nat.ble (0 + es.length) es.length = true := Nat.ble_eq_true_of_le (by omega)
 subst hn
 simp only [viewV, objD, hg, hv, h1, h2]
 simp
theorem viewR_agg {h : Heap} {near : Int} {n : Nat} {l : List PBook} (hs : viewV (objD h 2) (.sl 900001 6 0 n) = some (booksD l)) : viewL (objD h 2) [.agg [.d (i64 near), .sl 900001 6 0 n]] = some [(⟨near, l⟩ : PLog).d] := by
 have : viewL (objD h 2) [.d (i64 near), .sl 900001 6 0 n] = some [i64 near, booksD l] := viewL_cons rfl (viewL_cons hs rfl)
 refine viewL_cons ?_ rfl
 rw [viewV, this]; rfl
theorem viewR_two {h : Heap} {v : V} {d e : D} (hv : viewL (objD h 2) [v] = some [d]) : viewL (objD h 2) [v, .d e] = some [d, e] := by
 rw [viewL] at hv
 rw [viewL]
 cases hx : viewV (objD h 2) v with
 | none => rw [hx] at hv; cases hv
 | some d => rw [hx] at hv; cases hv; rfl
theorem viewR0 {h : Heap} (near : Int) (h1 : get h 900001 = some (.arr 6 (.dd []))) : viewL (objD h 2) [.agg [.d (i64 near), .sl 900001 6 0 0]] = some [(rdL near none).d] :=
 viewR_agg (l := []) (viewV_sl h1 (by simp))
theorem viewR1 {h : Heap} (near : Int) (init : List PBook) (last : PBook) (h1 : get h 900001 = some (.arr 6 (.vv (injL (init.map PBook.cells) ++ [inj (hdC last) ++ [.sl 900002 4 0 last.ents.length]])))) (h2 : get h 900002 = some (.arr 4 (.dd (last.ents.map PEnt.cells)))) :
  viewL (objD h 2) [.agg [.d (i64 near), .sl 900001 6 0 (init.length + 1)]] = some [(rdL near (some (init, last))).d] := by
 have e1 : viewV (objD h 1) (.sl 900002 4 0 last.ents.length) = some (entsD last.ents) := viewV_sl h2 (by simp)
 have e2 : viewLL (objD h 1) (injL (init.map PBook.cells) ++ [inj (hdC last) ++ [.sl 900002 4 0 last.ents.length]]) = some (init.map PBook.cells ++ [last.cells]) := viewLL_app (viewLL_one (viewL_app (a := hdC last) (viewL_cons e1 rfl))) _
 have e3 : init.map PBook.cells ++ [last.cells] = (init ++ [last]).map PBook.cells := by simp
 rw [e3] at e2
 exact viewR_agg (l := init ++ [last]) (viewV_slv h1 e2 (by simp))
set_option maxHeartbeats 4000000 in
theorem pa41r (s : ByteArray) (r : D) (h3 : 1500 < s.size → r = failD 3) (h6 : s.size ≤ 1500 → readAll s.data.toList = none → r = failD 6)
  (h7 : s.size ≤ 1500 → ∀ c, readAll s.data.toList = some c → ((checkN c = 0 ∧ logT c = s) → r = .tup [c.d, i64 0]) ∧ (¬ (checkN c = 0 ∧ logT c = s) → r = failD 6)) : FnV Tryz.prog 41 [.str s] r := by
 refine fnV_defer (ds := [.str s]) (ft := ft41) (g := 93) mixed tysOk 2 3 19 (lc := [i64 0, .nils]) (le := [i64 0]) Tryz.func41 rfl (show fnB ft41 Tryz.f41 1 = true from by decide +kernel) (by decide) (by decide) (by decide) rfl rfl rfl ?_ ?_ fun {σ} Y st => ?_
 ·intro a w p q Q hp hq hs h
  have hmf : ∀ (fn : Fn) (first cap : Array Value) (w : World), (Instr.makeFunc fn first cap).run Tryz.prog w = .ok (.func fn first cap) w := fun _ _ _ _ => rfl
  apply wpIn_region
  have e2 : a.tmps.getD 2 undef = p := by rw [Array.getD_eq_getD_getElem?, hp]; rfl
  have e3 : a.tmps.getD 3 undef = q := by rw [Array.getD_eq_getD_getElem?, hq]; rfl
  have hsz : 19 < a.tmps.size := by rw [hs]; decide
  simp [wpOpsIn, wpOpIn, go_sem, hmf, e2, e3, hsz, Oper.uponIn, Result.andThen]
  simpa using h
 ·intro p q w
  rfl
 conv=>whnf
 refine brk_i (fun hb => ?_) (fun hb => ?_)
 ·have h0 := h3 (by have := of_decide_eq_true hb; omega)
  subst h0
  conv=>whnf
  refine ⟨rfl, ?_⟩
  conv=>whnf
  exact RetA_view 0 rfl ⟨⟨rfl, rfl⟩, rfl⟩
 refine ⟨?_, ?_⟩
 ·exact Wk.sub ⟨rfl, rfl, rfl, trivial⟩ ⟨rfl, rfl, trivial⟩
 have hs4 : s.size ≤ 1500 := by have := of_decide_eq_false hb; omega
 have h6 := h6 hs4
 have h7 := h7 hs4
 have hsd : s = ⟨s.data.toList.toArray⟩ := by cases s; simp
 have hsl : s.data.toList.length ≤ 1500 := by simpa using hs4
 generalize hl0 : s.data.toList = l0 at h6 h7 hsd hsl
 conv=>whnf
 rw [hsd]
 refine CallA_v (ds := [.str ⟨l0.toArray⟩, .str ⟨#[10]⟩]) (pa94L l0 10 (by omega)) rfl rfl ?_
 conv=>whnf
 refine CallA_v (ds := [.str ⟨(cut1 10 l0).1.toArray⟩, .str nearP]) (pa95 ⟨(cut1 10 l0).1.toArray⟩ nearP) rfl rfl ?_
 have hlen0 := (cut1_len 10 l0).1
 have hRA : readAll l0 = match firstF l0 with
  | none => none
  | some x => readP x.2.length ⟨x.1, []⟩ x.2 := rfl
 have hcs := cutP_size ⟨(cut1 10 l0).1.toArray⟩ nearP
 have hhs : (⟨(cut1 10 l0).1.toArray⟩ : ByteArray).size ≤ 1500 := by show (cut1 10 l0).1.toArray.size ≤ _; rw [List.size_toArray]; omega
 unfold firstF at hRA
 generalize cutP ⟨(cut1 10 l0).1.toArray⟩ nearP = CP at hRA hcs ⊢
 generalize (⟨(cut1 10 l0).1.toArray⟩ : ByteArray) = HD at hhs hcs
 generalize cut1 10 l0 = C1 at hRA hlen0 ⊢
 obtain ⟨c1, rest, is⟩ := C1
 obtain ⟨nm, is2⟩ := CP
 simp only at hRA hlen0 hcs
 cases is with
 | false =>
  simp only [Bool.false_eq_true, if_false] at hRA
  have h0 := h6 hRA
  subst h0
  conv=>whnf
  refine must_i rfl (fun h => by cases h) (fun _ => ?_)
  conv=>whnf
  exact endPan2 rfl rfl ⟨rfl, rfl, trivial⟩
 | true =>
 simp only [if_true] at hRA
 cases is2 with
 | false =>
  simp only [Bool.false_eq_true, if_false] at hRA
  have h0 := h6 hRA
  subst h0
  conv=>whnf
  refine must_i rfl (fun h => by cases h) (fun _ => ?_)
  conv=>whnf
  exact endPan2 rfl rfl ⟨rfl, rfl, trivial⟩
 | true =>
 simp only [if_true] at hRA
 conv=>whnf
 refine must_i rfl (fun _ => ?_) (fun h => by cases h)
 conv=>whnf
 refine num_i (x := nm) (by omega) (fun near hnr => ?_) (fun hnr => ?_) rfl (by intro k; rfl)
 case refine_2 =>
  rw [hnr] at hRA
  have h0 := h6 hRA
  subst h0
  conv=>whnf
  exact endPan2 rfl rfl ⟨rfl, rfl, trivial⟩
 rw [hnr] at hRA
 have hRA : readAll l0 = readL ⟨near, []⟩ rest := hRA
 conv=>whnf
 refine LoopA_p (T := tys) tysOk (by exact drawsB_spec mixed tysOk (by decide +kernel)) (fun x : Option (List PBook × PBook) × List UInt8 => ⟨[(0, .d (.str ⟨l0.toArray⟩)), (2, .ptr 1000000 0), (3, .ptr 1000001 0), (5, .d (.str ⟨x.2.toArray⟩))], (1000001, .box (.dd [i64 0])) :: rdH near x.1, st⟩) (fun x => readAll l0 = readL (rdL near x.1) x.2 ∧ totE (rdL near x.1).books + x.2.length ≤ 1500) (fun x => x.2.length) (none, rest) ?_ ⟨hRA, ?_⟩ ?_
 ·exact (Wk.bornAtD 1000000 900001 6 [i64 near] [] rfl rfl rfl rfl rfl).trans (Wk.sub ⟨rfl, rfl, rfl, rfl, trivial⟩ ⟨rfl, rfl, rfl, trivial⟩)
 ·show 0 + rest.length ≤ 1500
  omega
 rintro ⟨o, l⟩ ⟨hl, hlen⟩
 simp only at hlen
 have hl : readAll l0 = readL (rdL near o) l := hl
 conv=>whnf
 refine brk_i (fun hb => ?_) (fun hb => ?_)
 ·have hne : l ≠ [] := by rintro rfl; simp at hb
  have hcl := cut1_len 10 l
  rw [readL_eq _ l, if_neg hne] at hl
  conv=>whnf
  refine CallA_v (pa94L l 10 (by omega)) rfl rfl ?_
  conv=>whnf
  refine must_i rfl (fun ht => ?_) (fun ht => ?_)
  ·rw [ht, if_pos rfl] at hl
   have hps : (⟨(cut1 10 l).1.toArray⟩ : ByteArray).size ≤ 1500 := by show (cut1 10 l).1.toArray.size ≤ _; rw [List.size_toArray]; omega
   have hwl := piecesB_len 32 ⟨(cut1 10 l).1.toArray⟩
   have hwm := piecesB_mem 32 ⟨(cut1 10 l).1.toArray⟩
   have hwn : piecesB 32 ⟨(cut1 10 l).1.toArray⟩ ≠ [] := piecesB_ne _ _
   have hcl2 := hcl.2 hne
   conv=>whnf
   refine CallA_v (ds := [.str ⟨(cut1 10 l).1.toArray⟩, .str ⟨#[32]⟩]) (pa99 ⟨(cut1 10 l).1.toArray⟩ 32 (by omega)) rfl rfl ?_
   generalize piecesB 32 ⟨(cut1 10 l).1.toArray⟩ = w at hl hwl hwm hwn ⊢
   generalize (⟨(cut1 10 l).1.toArray⟩ : ByteArray) = HD at hps hwl hwm
   generalize (cut1 10 l).2.1 = l2 at hl hcl hcl2 ⊢
   conv=>whnf
   cases o with
   | none =>
    refine CallA_x (take0 near w hwn (fun x hx => by have := hwm x hx; omega) (by omega) _ _) [1000000, 900001] rfl ⟨_, _, rfl, rfl, _, _, rfl, rfl, rfl⟩ rfl rfl ?_ ?_
    ·rintro v h1 s' ⟨⟨h, q, b, hw, hbk, hbF, rfl, rfl⟩, rfl⟩
     refine ⟨rfl, ?_⟩
     have htk : takeP (rdL near none) w = some ⟨near, [b]⟩ := by show takeP ⟨near, []⟩ w = _; rw [hw, takeP_cons, if_pos hbk, hbF]; rfl
     rw [htk] at hl
     obtain ⟨bn, bo, bs, rfl⟩ := bookF_ents hbF
     conv=>whnf
     exact ⟨(some ([], ⟨bn, bo, bs, []⟩), l2), hcl2, ⟨hl, by have h0 : 0 + l.length ≤ 1500 := hlen; show 1 + 0 + 0 + l2.length ≤ 1500; omega⟩, (Wk.bornArr 103264 900002 6 4 [] (hdC ⟨bn, bo, bs, []⟩) rfl rfl rfl rfl).trans ((Wk.move 103264 900001 rfl rfl).trans (Wk.sub ⟨rfl, rfl, rfl, rfl, trivial⟩ ⟨rfl, rfl, rfl, rfl, trivial⟩))⟩
    ·rintro pv h1 s' ⟨⟨hno, rfl, rfl⟩, rfl⟩
     refine ⟨rfl, ?_⟩
     rw [show takeP (rdL near none) w = none from hno] at hl
     have h0 := h6 hl
     subst h0
     conv=>whnf
     exact endPan (i := 900001) (n := 0) (near := near) rfl rfl ⟨rfl, rfl, trivial⟩
   | some x =>
    obtain ⟨init, last⟩ := x
    have htot : totE (init ++ [last]) + l.length ≤ 1500 := hlen
    have htl := totE_last init last
    by_cases hbad : ∃ s x n, w = [reportW, s, x, n] ∧ atoiX s ≠ none ∧ atoiX n = none
    ·obtain ⟨ws, wx, wn, rfl, hb1, hb2⟩ := hbad
     obtain ⟨t, ht1⟩ : ∃ t, atoiX ws = some t := by
      cases h : atoiX ws with
      | none => exact absurd h hb1
      | some t => exact ⟨t, rfl⟩
     have htk : takeP (rdL near (some (init, last))) [reportW, ws, wx, wn] = none := by
      rw [takeP_cons, if_neg (by decide), if_neg (by simp [rdL])]
      unfold entF
      simp only [ht1, if_neg (show ¬ reportW = passW by decide), if_neg (show ¬ reportW = setW by decide), if_pos, hb2]
      rfl
     refine CallA_x (take1b near init last ws wx wn t (by omega) (by have := hwm ws (by simp); omega) (by have := hwm wn (by simp); omega) ht1 hb2 _ _) [1000000, 900001, 900002] rfl ⟨_, _, rfl, rfl, _, _, rfl, (congrArg some (ren_last (callR [1000000, 900001, 900002] 51) (init.map PBook.cells) last 1000002 last.ents.length)).symm, _, _, rfl, rfl, rfl⟩ rfl rfl ?_ ?_
     ·rintro v h1 s' ⟨hF, _⟩
      exact absurd hF id
     ·rintro pv h1 s' ⟨⟨rfl, rfl⟩, rfl⟩
      refine ⟨lg1_callB2 _ _ _, ?_⟩
      rw [htk] at hl
      have h0 := h6 hl
      subst h0
      conv=>whnf
      exact endPan (i := 900001) (n := init.length + 1) (near := near) rfl rfl ⟨rfl, rfl, trivial⟩
    ·refine CallA_x (take1 near init last w hwn (fun x hx => by have := hwm x hx; omega) (by omega) (by omega) (by omega) (fun s x n hw h1 h2 => hbad ⟨s, x, n, hw, h1, h2⟩) _ _) [1000000, 900001, 900002] rfl ⟨_, _, rfl, rfl, _, _, rfl, (congrArg some (ren_last (callR [1000000, 900001, 900002] 51) (init.map PBook.cells) last 1000002 last.ents.length)).symm, _, _, rfl, rfl, rfl⟩ rfl rfl ?_ ?_
     ·rintro v h1 s' ⟨⟨rfl, h, q, hw, hp⟩, rfl⟩
      rcases hp with ⟨hbk, b, hbF, rfl⟩ | ⟨hbk, e, hE, rfl⟩
      ·refine ⟨rfl, ?_⟩
       have htk : takeP (rdL near (some (init, last))) w = some ⟨near, (init ++ [last]) ++ [b]⟩ := by rw [hw, takeP_cons, if_pos hbk, hbF]; rfl
       rw [htk] at hl
       obtain ⟨bn, bo, bs, rfl⟩ := bookF_ents hbF
       conv=>whnf
       refine ⟨(some (init ++ [last], ⟨bn, bo, bs, []⟩), l2), hcl2, ⟨hl, ?_⟩, (Wk.bornArr 103264 900002 6 4 ((init ++ [last]).map PBook.cells) (hdC ⟨bn, bo, bs, []⟩) rfl rfl rfl rfl).trans ((Wk.move 103264 900001 rfl rfl).trans (Wk.sub ⟨rfl, rfl, rfl, rfl, trivial⟩ ⟨rfl, rfl, (by first | (show some (Obj.arr 6 (.vv (mapIdLL _ (mapIdLL _ (mapIdLL _ (injL _ ++ _)))))) = _; rw [mapIdLL_injL, mapIdLL_injL, mapIdLL_injL]; rfl) | (show some (Obj.arr 6 (.vv (mapIdLL _ (mapIdLL _ (injL _ ++ _))))) = _; rw [mapIdLL_injL, mapIdLL_injL]; rfl) | (show some (Obj.arr 6 (.vv (mapIdLL _ (injL _ ++ _)))) = _; rw [mapIdLL_injL]; rfl) | rfl), rfl, trivial⟩))⟩
       have := totE_last (init ++ [last]) ⟨bn, bo, bs, []⟩
       show totE ((init ++ [last]) ++ [⟨bn, bo, bs, []⟩]) + l2.length ≤ 1500
       simp at this
       simp at hlen htot ⊢
       omega
      ·refine ⟨lg1_callBn _ _ _, ?_⟩
       have htk : takeP (rdL near (some (init, last))) w = some ⟨near, init ++ [{ last with ents := last.ents ++ [e] }]⟩ := by
        rw [hw, takeP_cons, if_neg hbk, if_neg (by simp [rdL]), hE]
        show some (⟨near, addB e (init ++ [last])⟩ : PLog) = _
        rw [addB_last]
       rw [htk] at hl
       conv=>whnf
       refine ⟨(some (init, { last with ents := last.ents ++ [e] }), l2), hcl2, ⟨hl, ?_⟩, (Wk.move 103264 900002 rfl rfl).trans (Wk.sub ⟨rfl, rfl, rfl, rfl, trivial⟩ ⟨rfl, rfl, (by first | (show some (Obj.arr 6 (.vv (mapIdLL _ (mapIdLL _ (mapIdLL _ (injL _ ++ _)))))) = _; rw [mapIdLL_injL, mapIdLL_injL, mapIdLL_injL]; rfl) | (show some (Obj.arr 6 (.vv (mapIdLL _ (mapIdLL _ (injL _ ++ _))))) = _; rw [mapIdLL_injL, mapIdLL_injL]; rfl) | (show some (Obj.arr 6 (.vv (mapIdLL _ (injL _ ++ _)))) = _; rw [mapIdLL_injL]; rfl) | rfl), rfl, trivial⟩)⟩
       have h5 := totE_last init { last with ents := last.ents ++ [e] }
       have h6 := totE_last init last
       show totE (init ++ [{ last with ents := last.ents ++ [e] }]) + l2.length ≤ 1500
       simp at h5 h6 hlen htot ⊢
       omega
     ·rintro pv h1 s' ⟨⟨hno, rfl, rfl⟩, rfl⟩
      refine ⟨lg1_callB2 _ _ _, ?_⟩
      rw [show takeP (rdL near (some (init, last))) w = none from hno] at hl
      have h0 := h6 hl
      subst h0
      conv=>whnf
      exact endPan (i := 900001) (n := init.length + 1) (near := near) rfl rfl ⟨rfl, rfl, trivial⟩
  ·rw [ht, if_neg (by simp)] at hl
   have h0 := h6 hl
   subst h0
   cases o with
   | none =>
    conv=>whnf
    exact endPan (i := 900001) (n := 0) (near := near) rfl rfl ⟨rfl, rfl, trivial⟩
   | some x =>
    obtain ⟨init, last⟩ := x
    conv=>whnf
    exact endPan (i := 900001) (n := init.length + 1) (near := near) rfl rfl ⟨rfl, rfl, trivial⟩
 ·have hle : l = [] := by
   by_cases h : l = []
   ·exact h
   ·exact absurd hb (by simp [h])
  subst hle
  have hl : readAll l0 = some (rdL near o) := hl
  obtain ⟨h7a, h7b⟩ := h7 _ hl
  cases o with
  | none =>
   have hlen2 : (rdL near none).books.length ≤ 1500 := by show 0 ≤ 1500; omega
   conv=>whnf
   obtain ⟨cp, cq, ce, hcp⟩ : ∃ p q e, checkP (rdL near none) = (p, q, e) := ⟨_, _, _, rfl⟩
   have hce : checkN (rdL near none) = ce := by show (checkP _).2.2 = ce; rw [hcp]
   refine CallA_view (pa17k (rdL near none) _ _ _ hcp) rfl 2 (viewR0 near rfl) ?_
   conv=>whnf
   refine brk_i (fun hb1 => ?_) (fun hb1 => ?_)
   ·have hk : checkN (rdL near none) = 0 := by rw [hce]; simpa using hb1
    conv=>whnf
    refine CallA_view (pa91 (rdL near none) (check_ok hk) (check_nm hk)) rfl 2 (viewR0 near rfl) ?_
    conv=>whnf
    refine must_i rfl (fun ht => ?_) (fun ht => ?_)
    ·rw [← hsd] at ht
     have h0 := h7a ⟨hk, of_decide_eq_true ht⟩
     subst h0
     conv=>whnf
     refine ⟨.inr rfl, rfl, rfl, .returning, _, rfl, fun {σ} => clo93_idle _, ?_⟩
     conv=>whnf
     exact RetA_view 2 (viewR_two (viewR0 near rfl)) ⟨rfl, rfl, rfl⟩
    ·rw [← hsd] at ht
     have h0 := h7b fun h => absurd ht (by rw [decide_eq_true h.2]; simp)
     subst h0
     conv=>whnf
     exact endPan (i := 900001) (n := 0) (near := near) rfl rfl ⟨rfl, rfl, trivial⟩
   ·have hk : checkN (rdL near none) ≠ 0 := by rw [hce]; simpa using hb1
    have h0 := h7b fun h => hk h.1
    subst h0
    conv=>whnf
    refine must_i rfl (fun h => by cases h) (fun _ => ?_)
    conv=>whnf
    exact endPan (i := 900001) (n := 0) (near := near) rfl rfl ⟨rfl, rfl, trivial⟩
  | some x =>
   obtain ⟨init, last⟩ := x
   have hlen2 : (rdL near (some (init, last))).books.length ≤ 1500 := by
    have htot : totE (init ++ [last]) + 0 ≤ 1500 := hlen
    have htl := totE_last init last
    show (init ++ [last]).length ≤ 1500
    simp; omega
   conv=>whnf
   obtain ⟨cp, cq, ce, hcp⟩ : ∃ p q e, checkP (rdL near (some (init, last))) = (p, q, e) := ⟨_, _, _, rfl⟩
   have hce : checkN (rdL near (some (init, last))) = ce := by show (checkP _).2.2 = ce; rw [hcp]
   refine CallA_view (pa17k (rdL near (some (init, last))) _ _ _ hcp) rfl 2 (viewR1 near init last rfl rfl) ?_
   conv=>whnf
   refine brk_i (fun hb1 => ?_) (fun hb1 => ?_)
   ·have hk : checkN (rdL near (some (init, last))) = 0 := by rw [hce]; simpa using hb1
    conv=>whnf
    refine CallA_view (pa91 (rdL near (some (init, last))) (check_ok hk) (check_nm hk)) rfl 2 (viewR1 near init last rfl rfl) ?_
    conv=>whnf
    refine must_i rfl (fun ht => ?_) (fun ht => ?_)
    ·rw [← hsd] at ht
     have h0 := h7a ⟨hk, of_decide_eq_true ht⟩
     subst h0
     conv=>whnf
     refine ⟨.inr rfl, rfl, rfl, .returning, _, rfl, fun {σ} => clo93_idle _, ?_⟩
     conv=>whnf
     exact RetA_view 2 (viewR_two (viewR1 near init last rfl rfl)) ⟨rfl, rfl, rfl⟩
    ·rw [← hsd] at ht
     have h0 := h7b fun h => absurd ht (by rw [decide_eq_true h.2]; simp)
     subst h0
     conv=>whnf
     exact endPan (i := 900001) (n := (init.length + 1)) (near := near) rfl rfl ⟨rfl, rfl, trivial⟩
   ·have hk : checkN (rdL near (some (init, last))) ≠ 0 := by rw [hce]; simpa using hb1
    have h0 := h7b fun h => hk h.1
    subst h0
    conv=>whnf
    refine must_i rfl (fun h => by cases h) (fun _ => ?_)
    conv=>whnf
    exact endPan (i := 900001) (n := (init.length + 1)) (near := near) rfl rfl ⟨rfl, rfl, trivial⟩
theorem readX_cases (s : ByteArray) : ∃ r, (PX.relax r = .tup [(readX s).1.d, i64 (readX s).2] ∨ r = .tup [(readX s).1.d, i64 (readX s).2]) ∧ (1500 < s.size → r = failD 3) ∧ (s.size ≤ 1500 → readAll s.data.toList = none → r = failD 6) ∧
  (s.size ≤ 1500 → ∀ c, readAll s.data.toList = some c → ((checkN c = 0 ∧ logT c = s) → r = .tup [c.d, i64 0]) ∧ (¬ (checkN c = 0 ∧ logT c = s) → r = failD 6)) := by
 have hrx : readX s = if 1500 < s.size then (logO, (3 : Int)) else
  match readAll s.data.toList with
  | some c => if checkN c = 0 ∧ logT c = s then (c, 0) else (logO, 6)
  | none => (logO, 6) := rfl
 by_cases h3 : 1500 < s.size
 ·rw [hrx, if_pos h3]
  exact ⟨failD 3, .inl rfl, fun _ => rfl, fun h => absurd h (by omega), fun h => absurd h (by omega)⟩
 rw [hrx, if_neg h3]
 cases hl : readAll s.data.toList with
 | none => exact ⟨failD 6, .inl rfl, fun h => absurd h h3, fun _ _ => rfl, fun _ c h => by cases h⟩
 | some c =>
  by_cases hk : checkN c = 0 ∧ logT c = s
  ·simp only [if_pos hk]
   refine ⟨.tup [c.d, i64 0], .inr rfl, fun h => absurd h h3, fun _ h => ?_, fun _ c' h => ?_⟩
   ·cases h
   ·cases h; exact ⟨fun _ => rfl, fun h => absurd hk h⟩
  ·simp only [if_neg hk]
   refine ⟨failD 6, .inl rfl, fun h => absurd h h3, fun _ _ => rfl, fun _ c' h => ?_⟩
   cases h; exact ⟨fun h => absurd h hk, fun _ => rfl⟩
theorem pa41 (s : ByteArray) : FnV Tryz.prog 41 [.str s] (.tup [(readX s).1.d, i64 (readX s).2]) := by
 obtain ⟨r, hr, h3, h6, h7⟩ := readX_cases s
 rcases hr with hr | rfl
 ·exact FnV.relax (fun {σ} => pa41r s r h3 h6 h7) hr
 ·exact pa41r s _ h3 h6 h7
end Go.PX
namespace Go.PX
open Go.Proofs
theorem pa85 (l : PLog) (hR : LogR l) (w : Int) (hw : 0 ≤ w ∧ w ≤ 1048576) : FnV Tryz.prog 85 [i64 w, .ref l.cells] (.bool (fitP l w [])) := by
 refine fnV_of mixed tysOk Tryz.func85 rfl (ft := ft85) 2 (by decide +kernel) (by rfl) fun {σ} Y st => ?_
 conv=>whnf
 refine CallA_nil2 ?_
 refine CallA_v (pa68 l hR w hw [] (by simp)) rfl rfl ?_
 conv=>whnf
 refine CallA_v (pa70) rfl rfl ?_
 conv=>whnf
 obtain ⟨m, hm⟩ := pa69l l hR w hw []
 refine CallA_v (hm) rfl rfl ?_
 conv=>whnf
 exact RetA_view 0 rfl ⟨⟨rfl, rfl⟩, rfl⟩
theorem leastB_fuel (does : Int → Bool) : ∀ (k j : Nat) {lo hi : Int}, hi - lo ≤ 2 ^ k → hi - lo ≤ 2 ^ j → leastB does k lo hi = leastB does j lo hi
 | 0, 0, _, _, _, _ => rfl
 | 0, j + 1, lo, hi, h1, _ => by
  rw [leastB, leastB, if_neg (by simp at h1; omega)]
 | k + 1, 0, lo, hi, _, h2 => by
  rw [leastB, leastB, if_neg (by simp at h2; omega)]
 | k + 1, j + 1, lo, hi, h1, h2 => by
  have e1 : (2 : Int) ^ (k + 1) = 2 ^ k * 2 := Int.pow_succ 2 k
  have e2 : (2 : Int) ^ (j + 1) = 2 ^ j * 2 := Int.pow_succ 2 j
  rw [leastB, leastB]
  split
  ·split
   ·exact leastB_fuel does k j (by omega) (by omega)
   ·exact leastB_fuel does k j (by omega) (by omega)
  ·rfl
theorem pa84 (g : FuncId) (caps : List D) (does : Int → Bool) (hg : ∀ n, 0 ≤ n → n ≤ 1048576 → FnV Tryz.prog g (i64 n :: caps) (.bool (does n))) :
  FnV Tryz.prog 84 [i64 1048576, .clo g caps] (.tup [i64 (if does 1048576 = true then leastB does 40 (-1) 1048576 else 0), .bool (does 1048576)]) := by
 refine fnV_of mixed tysOk Tryz.func84 rfl (ft := ft84) 2 (by decide +kernel) (by rfl) fun {σ} Y st => ?_
 conv=>whnf
 refine CallA_v (hg 1048576 (by omega) (by omega)) rfl rfl ?_
 cases h0 : does 1048576 with
 | false =>
  simp only [Bool.false_eq_true, if_false]
  conv=>whnf
  exact RetA_view 0 rfl ⟨⟨rfl, rfl⟩, rfl⟩
 | true =>
  simp only [if_true]
  conv=>whnf
  generalize hRES : leastB does 40 (-1) 1048576 = RES
  refine LoopA_p (T := tys) tysOk (by exact drawsB_spec mixed tysOk (by decide +kernel)) (α := Int × Int) (fun z => ⟨[(0, .d (i64 1048576)), (1, .d (.clo g caps)), (6, .d (i64 z.1)), (7, .d (i64 z.2))], [], st⟩) (fun z => -1 ≤ z.1 ∧ z.1 < z.2 ∧ z.2 ≤ 1048576 ∧ leastB does 40 z.1 z.2 = RES) (fun z => (z.2 - z.1).toNat) (-1, 1048576) (Wk.sub (by repeat' first|exact trivial|refine⟨?_,?_⟩|rfl|(simp only[List.length_map];rfl)|simp[PX.get]) trivial) ⟨by simp, by simp, by simp, hRES⟩ ?_
  rintro ⟨lo, hi⟩ ⟨h1, h2, h3, h4⟩
  simp only at h1 h2 h3 h4
  conv=>whnf
  refine arith_in (wrap_i64 (by (try dsimp only); omega)) ?_
  conv=>whnf
  have h239 : leastB does 40 lo hi = if hi - lo > 1 then (if does ((lo + hi) / 2) then leastB does 39 lo ((lo + hi) / 2) else leastB does 39 ((lo + hi) / 2) hi) else hi := rfl
  rw [h239] at h4
  have hp : (2 : Int) ^ 39 = 549755813888 := by decide
  have hp' : (2 : Int) ^ 40 = 1099511627776 := by decide
  refine brk_i (fun h5 => ?_) (fun h5 => ?_)
  ·have h5 : hi - lo > 1 := of_decide_eq_true h5
   rw [if_pos h5] at h4
   conv=>whnf
   refine arith_in (wrap_i64 (by (try dsimp only); omega)) ?_
   conv=>whnf
   refine arith_to ((lo + hi) / 2) (by show (lo + hi).tdiv 2 = (lo + hi) / 2; exact Int.tdiv_eq_ediv_of_nonneg (by omega)) (wrap_i64 (by omega)) ?_
   generalize hM : (lo + hi) / 2 = M at h4 ⊢
   have hM1 : lo < M ∧ M < hi := by omega
   conv=>whnf
   refine CallA_v (hg M (by omega) (by omega)) rfl rfl ?_
   conv=>whnf
   cases hd : does M with
   | true =>
    rw [hd] at h4
    simp only [if_true] at h4
    conv=>whnf
    exact ⟨(lo, M), by simp only; omega, ⟨by simp only; omega, by simp only; omega, by simp only; omega, by simp only; rw [← h4]; exact leastB_fuel does 40 39 (by omega) (by omega)⟩, (Wk.sub (by repeat' first|exact trivial|refine⟨?_,?_⟩|rfl|(simp only[List.length_map];rfl)|simp[PX.get]) trivial)⟩
   | false =>
    rw [hd] at h4
    simp only [Bool.false_eq_true, if_false] at h4
    conv=>whnf
    exact ⟨(M, hi), by simp only; omega, ⟨by simp only; omega, by simp only; omega, by simp only; omega, by simp only; rw [← h4]; exact leastB_fuel does 40 39 (by omega) (by omega)⟩, (Wk.sub (by repeat' first|exact trivial|refine⟨?_,?_⟩|rfl|(simp only[List.length_map];rfl)|simp[PX.get]) trivial)⟩
  ·have h5 : ¬ hi - lo > 1 := of_decide_eq_false h5
   rw [if_neg h5] at h4
   subst h4
   conv=>whnf
   exact RetA_view 0 rfl ⟨⟨rfl, rfl⟩, rfl⟩
theorem pa32 (l : PLog) : FnV Tryz.prog 32 [l.d] (.tup [i64 (needF l).1, i64 (needF l).2]) := by
 unfold needF
 refine fnV_of mixed tysOk Tryz.func32 rfl (ft := ft32) 1 (by decide +kernel) (by rfl) fun {σ} Y st => ?_
 conv=>whnf
 by_cases hc : checkN l = 0
 ·rw [if_pos hc]
  have hR := check_ok hc
  refine CallA_v (pa17k l 0 0 0 (checkP_ok hc)) rfl rfl ?_
  conv=>whnf
  refine CallA_view (ds := [i64 1048576, .clo 85 [.ref l.cells]]) (pa84 85 [.ref l.cells] (fun w => fitP l w []) fun w h0 h1 => pa85 l hR w ⟨h0, h1⟩) rfl 1 rfl ?_
  cases hf : fitP l 1048576 [] with
  | false =>
   simp only [Bool.false_eq_true, if_false]
   conv=>whnf
   exact RetA_view 0 rfl ⟨⟨rfl, rfl⟩, rfl⟩
  | true =>
   simp only [if_true]
   conv=>whnf
   exact RetA_view 0 rfl ⟨⟨rfl, rfl⟩, rfl⟩
 ·rw [if_neg hc]
  refine CallA_v (pa17k l _ _ _ (checkP_eq l)) rfl rfl ?_
  conv=>whnf
  generalize checkN l = E at hc
  refine brk_i (fun _ => ?_) (fun h => absurd hc (by simpa using h))
  conv=>whnf
  exact RetA_view 0 rfl ⟨⟨rfl, rfl⟩, rfl⟩
end Go.PX
namespace Go.PX
open Go.Proofs
end Go.PX
namespace Go.PX
open Go.Proofs
theorem lists_mem {of : List Int} : ∀ {n : Nat} {p : List Int} {start : Nat} {q : List Int}, q ∈ listsL of n p start → ∃ s, q = p ++ s ∧ s.Sublist (of.drop start) ∧ s.length = n
 | 0, p, start, q, h => by
  rw [listsL, List.mem_singleton] at h
  exact ⟨[], by rw [h, List.append_nil], List.nil_sublist _, rfl⟩
 | n + 1, p, start, q, h => by
  rw [listsL, List.mem_flatMap] at h
  obtain ⟨i, hi, h⟩ := h
  rw [List.mem_range'_1] at hi
  obtain ⟨s, rfl, h2, h3⟩ := lists_mem h
  have hil : i < of.length := by omega
  refine ⟨of[i] :: s, by rw [List.getElem?_eq_getElem hil]; simp, ?_, by rw [List.length_cons, h3]⟩
  have e : of.drop i = of[i] :: of.drop (i + 1) := List.drop_eq_getElem_cons hil
  have h4 : (of[i] :: s).Sublist (of.drop i) := by rw [e]; exact h2.cons₂ _
  refine h4.trans ?_
  rw [show i = start + (i - start) by omega, ← List.drop_drop]
  exact List.drop_sublist _ _
theorem lists_len {of : List Int} {n : Nat} {q : List Int} (h : q ∈ listsL of n [] 0) : q.length = n := by
 obtain ⟨s, rfl, _, h3⟩ := lists_mem h
 simpa using h3
end Go.PX
namespace Go.PX
open Go.Proofs
theorem has_pos {b : PBook} {n : Int} : 0 < hasN b n ↔ ∃ y ∈ b.ents, y.kind = 3 ∧ y.number = n := by
 unfold hasN
 constructor
 ·intro h
  obtain ⟨y, hy⟩ := List.exists_mem_of_length_pos h
  obtain ⟨hy, hq⟩ := List.mem_filter.1 hy
  exact ⟨y, hy, of_decide_eq_true hq⟩
 ·rintro ⟨y, hy, h⟩
  exact List.length_pos_of_mem (List.mem_filter.2 ⟨hy, decide_eq_true h⟩)
theorem in_pos {l : PLog} {n : Int} : 0 < inN l n ↔ ∃ b ∈ l.books, 0 < hasN b n := by
 unfold inN
 constructor
 ·intro h
  obtain ⟨b, hb⟩ := List.exists_mem_of_length_pos h
  obtain ⟨hb, hq⟩ := List.mem_filter.1 hb
  exact ⟨b, hb, of_decide_eq_true hq⟩
 ·rintro ⟨b, hb, h⟩
  exact List.length_pos_of_mem (List.mem_filter.2 ⟨hb, decide_eq_true h⟩)
theorem mem_reps {l : PLog} {y : PEnt} : y ∈ repsL l ↔ (∃ b ∈ l.books, y ∈ b.ents) ∧ y.kind = 3 := by
 unfold repsL
 rw [List.mem_filter, List.mem_flatMap, decide_eq_true_eq]
theorem in_reps {l : PLog} {n : Int} : 0 < inN l n ↔ ∃ y ∈ repsL l, y.number = n := by
 rw [in_pos]
 constructor
 ·rintro ⟨b, hb, h⟩
  obtain ⟨y, hy, h1, h2⟩ := has_pos.1 h
  exact ⟨y, mem_reps.2 ⟨⟨b, hb, hy⟩, h1⟩, h2⟩
 ·rintro ⟨y, hy, h2⟩
  obtain ⟨⟨b, hb, hyb⟩, h1⟩ := mem_reps.1 hy
  exact ⟨b, hb, has_pos.2 ⟨y, hyb, h1, h2⟩⟩
theorem rep_R {l : PLog} (h : checkN l = 0) {y : PEnt} (hy : y ∈ repsL l) : 1 ≤ y.number ∧ y.number ≤ 99 := by
 obtain ⟨⟨b, hb, hyb⟩, h1⟩ := mem_reps.1 hy
 have hE := (check_book h hb).2.2.2 y hyb
 exact ⟨(hE.rep h1).2, hE.number.2⟩
theorem fold_max (L : List PEnt) : ∀ m0 : Int, m0 ≤ L.foldl (fun m y => max m y.number) m0 ∧ (∀ y ∈ L, y.number ≤ L.foldl (fun m y => max m y.number) m0) ∧ (L.foldl (fun m y => max m y.number) m0 = m0 ∨ ∃ y ∈ L, y.number = L.foldl (fun m y => max m y.number) m0) := by
 induction L with
 | nil => intro m0; exact ⟨Int.le_refl _, fun y hy => (by cases hy), .inl rfl⟩
 | cons a r ih =>
  intro m0
  rw [List.foldl_cons]
  obtain ⟨h1, h2, h3⟩ := ih (max m0 a.number)
  refine ⟨by omega, fun y hy => ?_, ?_⟩
  ·rcases List.mem_cons.1 hy with rfl | hy
   ·omega
   ·exact h2 y hy
  ·rcases h3 with h3 | ⟨y, hy, he⟩
   ·rcases Int.le_total m0 a.number with hle | hle
    ·right; exact ⟨a, List.mem_cons_self .., by rw [h3]; omega⟩
    ·left; rw [h3]; omega
   ·right; exact ⟨y, List.mem_cons_of_mem _ hy, he⟩
theorem last_ok {l : PLog} (h : checkN l = 0) : 0 ≤ lastN l ∧ lastN l ≤ 99 ∧ (∀ n, 0 < inN l n → 1 ≤ n ∧ n ≤ lastN l) ∧ (lastN l = 0 ∨ 0 < inN l (lastN l)) := by
 obtain ⟨h1, h2, h3⟩ := fold_max (repsL l) 0
 unfold lastN
 refine ⟨h1, ?_, fun n hn => ?_, ?_⟩
 ·rcases h3 with h3 | ⟨y, hy, he⟩
  ·omega
  ·have := rep_R h hy; omega
 ·obtain ⟨y, hy, rfl⟩ := in_reps.1 hn
  have := h2 y hy
  have := rep_R h hy
  omega
 ·rcases h3 with h3 | ⟨y, hy, he⟩
  ·exact .inl h3
  ·exact .inr (in_reps.2 ⟨y, hy, he⟩)
end Go.PX
