import Derived.Test.YtggdbiadadojjaaGreatPxH
import Derived.Test.YtggdbiadadojjaaGreatPxP
import Derived.Test.YtggdbiadadojjaaGreatPxN
set_option linter.all false
set_option maxRecDepth 10000
namespace Go.PX
open Go.RowKit
def lentC (c1 n : Nat) (lt : List Nat) (caps : List V) (h0 : Heap) : Bool :=
 allB (fun i => Nat.ble 1000000 i && Nat.blt i 2000000 && !inRange c1 n i) lt && allB (inL lt) (namesOfL caps) && allB (inL lt) (heapNames h0) && (yfreeL caps && yfreeH h0)
def backB (lt : List Nat) (h0 : Heap) : Bool := allB (inL lt) (heapNames h0) && yfreeH h0
theorem get_append {α : Type} : ∀ (A B : Tab α) (k : Nat) (o : α), get (A ++ B) k = some o → get A k = some o ∨ get B k = some o
 | [], _, _, _, h => .inr h
 | (i, p) :: A, B, k, o, h => by
  simp only [List.cons_append, get] at h ⊢
  split at h
  ·exact .inl h
  ·exact get_append A B k o h
theorem Backed_eq {L L' : Loc} {id : Nat} {o : Obj} (hk : L'.κ id = L.κ id) : Backed L' id o ↔ Backed L id o := by
 cases o <;> simp [Backed, hk]
section
variable {σ : Type} {cx : Cx σ} {L : Loc} {F : Nat → Nat} {s : σ} {w : World}
theorem HeapOk.subT {h h' : Heap} (hh : HeapOk cx L F h s w) (hs : SubT h' h) : HeapOk cx L F h' s w :=
 ⟨hh.hg, hh.csz, hh.fresh, fun id o hi => hh.obj id o (hs _ _ hi), fun id o hi => hh.own id o (hs _ _ hi), fun i j o p hi hj => hh.inj i j o p (hs _ _ hi) (hs _ _ hj)⟩
theorem HeapOk.app {A B : Heap} (ha : HeapOk cx L F A s w) (hb : HeapOk cx L F B s w) (hx : ∀ i o j p, get A i = some o → get B j = some p → Backed L i o → Backed L j p → L.ρ i ≠ L.ρ j) : HeapOk cx L F (A ++ B) s w := by
 refine ⟨ha.hg, ha.csz, ha.fresh, fun id o hi => (get_append A B id o hi).elim (ha.obj id o) (hb.obj id o), fun id o hi => (get_append A B id o hi).elim (ha.own id o) (hb.own id o), fun i j o p hi hj bi bj e => ?_⟩
 rcases get_append A B i o hi with h1 | h1 <;> rcases get_append A B j p hj with h2 | h2
 ·exact ha.inj i j o p h1 h2 bi bj e
 ·exact absurd e (hx i o j p h1 h2 bi bj)
 ·exact absurd e.symm (hx j p i o h2 h1 bj bi)
 ·exact hb.inj i j o p h1 h2 bi bj e
end
section
variable {P : Program} {T : Tys} {ft : FT} {α σ : Type} {Y : Hd σ}
theorem RangeA_genV (hT : TysOk P T) {g : Operand} {ps : Array Tmp} {a b : Code} (hDa : drawsOk P T ft a) (hDb : drawsOk P T ft b) {f : FuncId} {caps : List V} {e : Env} {h : Heap} {s : σ} {K : AExit → St σ → Prop} (hgv : opnd e g = some (.clo f caps))
  (lt : List Nat) (c1 c2 : Nat) (tb : List Nat) (I : α → Heap × σ) (x0 : α) (hck : rangeB c1 c2 tb e (cutL h lt) = true) (hlt : lentC c1 tb.length lt caps (keepT lt h) = true) (hI : I x0 = (renH (upR c1 tb) (cutL h lt), s)) (hok0 : okH c2 tb (I x0).1 = true)
  (hf : ∀ L, FnC P (liftY (rangeY P T ft Y I ps a b (renE (upR c1 tb) e) c2 tb)) f (.yld :: caps) (keepT lt h) (.go x0, L) fun v h' g => backB lt h' = true ∧ match g.1 with
   | .go x => K .normal ⟨e, renH (dnR c1 tb) (I x).1 ++ h', (I x).2⟩
   | .done ex hd s' => K ex ⟨e, renH (dnR c1 tb) hd ++ h', s'⟩) : RangeA P ft Y g ps a b ⟨e, h, s⟩ K := by
 constructor
 intro cx hY r m L F aa w hg hc
 simp only [codeOk, Bool.and_eq_true] at hc
 obtain ⟨⟨hps, hca⟩, hcb⟩ := hc
 have hps : ∀ p ∈ ps.toList, p < aa.tmps.size := fun p hp => of_decide_eq_true (List.all_eq_true.1 hps p hp)
 simp only [rangeB, Bool.and_eq_true] at hck
 obtain ⟨⟨⟨⟨⟨⟨⟨⟨k1, k2⟩, k3⟩, k4⟩, k5⟩, k6⟩, k7⟩, k8⟩, k9⟩ := hck
 have htb := nodupB_spec k1
 have htb6 : ∀ i ∈ tb, i < 1000000 := fun i hi => Nat.le_of_ble_eq_true (allB_spec k2 i hi)
 have k3 := Nat.le_of_ble_eq_true k3
 have k4 := Nat.le_of_ble_eq_true k4
 have k5 := Nat.le_of_ble_eq_true k5
 have k6 := Nat.le_of_ble_eq_true k6
 have k7 : ∀ k, k < tb.length → inRange c2 64 (c1 + k) = false := fun k hk => by
  have := allB_spec k7 k (List.mem_range.2 hk)
  simpa using this
 have k8 : ∀ i ∈ envNames e, i ∈ tb ∨ (pinned i ∧ inRange c1 tb.length i = false ∧ inRange c2 64 i = false) := by
  intro i hi
  have := allB_spec k8 i hi
  simp only [Bool.or_eq_true, Bool.and_eq_true, Bool.not_eq_true'] at this
  exact this.imp inL_iff.1 fun h => ⟨⟨Nat.le_of_ble_eq_true h.1.1.1, Nat.le_of_ble_eq_true h.1.1.2⟩, h.1.2, h.2⟩
 have k9 : ∀ i ∈ heapNames (cutL h lt), inRange c1 tb.length i = false := fun i hi => by simpa using allB_spec k9 i hi
 simp only [lentC, Bool.and_eq_true] at hlt
 obtain ⟨⟨⟨l1, l2⟩, l3⟩, l4, l5⟩ := hlt
 have l1 : ∀ i ∈ lt, pinned i ∧ inRange c1 tb.length i = false := fun i hi => by
  have := allB_spec l1 i hi
  simp only [Bool.and_eq_true, Bool.not_eq_true'] at this
  exact ⟨⟨Nat.le_of_ble_eq_true this.1.1, Nat.le_of_ble_eq_true this.1.2⟩, this.2⟩
 have l2 : ∀ i ∈ namesOfL caps, i ∈ lt := fun i hi => inL_iff.1 (allB_spec l2 i hi)
 have l3 : ∀ i ∈ heapNames (keepT lt h), i ∈ lt := fun i hi => inL_iff.1 (allB_spec l3 i hi)
 have hltb : ∀ i ∈ lt, i ∉ tb := fun i hi hm => by
  have h1 := (l1 i hi).1
  have h2 := htb6 i hm
  unfold pinned at h1; omega
 have hscut : SubT (cutL h lt) h := fun i o hi => by
  rw [get_cutL] at hi
  split at hi
  ·cases hi
  ·exact hi
 have hskeep : SubT (keepT lt h) h := sub_keepT lt h
 have htbr : ∀ i ∈ tb, inRange c1 tb.length i = false := fun i hi => by
  cases hr : inRange c1 tb.length i with
  | false => rfl
  | true => rw [inRange_iff] at hr; have := htb6 i hi; omega
 -- up and down
 have hdu : ∀ i, inRange c1 tb.length i = false → dnR c1 tb (upR c1 tb i) = i := by
  intro i hi
  by_cases hm : i ∈ tb
  ·obtain ⟨k, hk⟩ := List.mem_iff_getElem?.1 hm
   rw [upR_in htb hk, dnR_in hk]
  ·rw [upR_out hm, dnR_out hi]
 have hud : ∀ i, i ∉ tb → upR c1 tb (dnR c1 tb i) = i := by
  intro i hi
  cases hr : inRange c1 tb.length i with
  | false => rw [dnR_out hr, upR_out hi]
  | true =>
   rw [inRange_iff] at hr
   obtain ⟨k, hk⟩ : ∃ k, i = c1 + k := ⟨i - c1, by omega⟩
   obtain ⟨y, hy⟩ : ∃ y, tb[k]? = some y := ⟨_, List.getElem?_eq_getElem (by omega)⟩
   rw [hk, dnR_in hy, upR_in htb hy]
 have henv1 : ∀ i ∈ envNames e, inRange c1 tb.length i = false := fun i hi => (k8 i hi).elim (htbr i) (fun h => h.2.1)
 have hE : ∀ i ∈ envNames (renE (upR c1 tb) e), pinned i ∧ inRange c2 64 i = false := by
  have hren : ∀ (e : Env), ∀ i ∈ envNames (renE (upR c1 tb) e), ∃ j ∈ envNames e, i = upR c1 tb j := by
   intro e
   induction e with
   | nil => intro i hi; cases hi
   | cons kv r ih =>
    obtain ⟨k, v⟩ := kv
    intro i hi
    rcases List.mem_append.1 hi with hi | hi
    ·obtain ⟨j, hj, rfl⟩ := namesOf_ren v i hi
     exact ⟨j, List.mem_append.2 (.inl hj), rfl⟩
    ·obtain ⟨j, hj, rfl⟩ := ih i hi
     exact ⟨j, List.mem_append.2 (.inr hj), rfl⟩
  intro i hi
  obtain ⟨j, hj, rfl⟩ := hren e i hi
  rcases k8 j hj with hm | ⟨h1, h2, h3⟩
  ·obtain ⟨k, hk⟩ := List.mem_iff_getElem?.1 hm
   have hlt := (List.getElem?_eq_some_iff.1 hk).1
   rw [upR_in htb hk]
   exact ⟨by unfold pinned; omega, k7 k hlt⟩
  ·have : j ∉ tb := fun hm => by have := htb6 j hm; unfold pinned at h1; omega
   rw [upR_out this]; exact ⟨h1, h3⟩
 obtain ⟨lc, hev, hcap⟩ := hg.opnd hgv
 have hI1 : (I x0).1 = renH (upR c1 tb) (cutL h lt) := by rw [hI]
 have hI2 : (I x0).2 = s := by rw [hI]
 refine wpIn_rangeFunc fun fn _ => ?_
 -- the record is laid
 have enter : ∃ (base : Go.Loop) (l : Nat) (mk : List Nat) (W1 : World), (Instr.enterLoop fn aa.tmps ps a b r).run P w = .ok (l, mk.map mark) W1 ∧ (base.params = ps ∧ base.assign = a ∧ base.body = b ∧ base.tmps = aa.tmps ∧ base.state = .ready ∧ base.pending = none) ∧
   W1.heap[l]? = some (.loop base) ∧ w.heap.size ≤ l ∧ (∀ x, x < w.heap.size → W1.heap[x]? = w.heap[x]?) ∧ Tr F w F W1 ∧ w.heap.size ≤ W1.heap.size ∧ mk.Nodup ∧ ∀ x ∈ mk, w.heap.size ≤ x ∧ W1.heap[x]? = some (.deferred (some [])) := by
  cases r with
  | none =>
   refine ⟨{ state := .ready, pending := none, fn, tmps := aa.tmps, params := ps, assign := a, body := b, defers := w.heap.size }, _, [w.heap.size], _, run_enterLoop_outer fn aa.tmps ps a b, ⟨rfl, rfl, rfl, rfl, rfl, rfl⟩, ?_, by omega, fun x hx => ?_, Tr.trans (Tr.alloc hg.heap.fresh _) (Tr.alloc (fun b hb => hg.heap.fresh b (by simp at hb; omega)) _), by simp; omega, by simp, fun x hx => ?_⟩
   ·have := World.alloc_heap_new (w.alloc (.deferred (some []))) (.loop { state := .ready, pending := none, fn, tmps := aa.tmps, params := ps, assign := a, body := b, defers := w.heap.size })
    rwa [World.size_alloc] at this
   ·rw [heap_alloc_old _ _ (by simp; omega), heap_alloc_old _ _ hx]
   ·rw [List.mem_singleton] at hx
    subst hx
    exact ⟨Nat.le_refl _, by rw [heap_alloc_old _ _ (by simp)]; exact World.alloc_heap_new w _⟩
  | some l0 =>
   obtain ⟨lp, ⟨q1, _⟩, _⟩ := hg.lk l0 rfl
   refine ⟨{ state := .ready, pending := none, fn, tmps := aa.tmps, params := ps, assign := a, body := b, defers := lp.defers }, _, [], _, run_enterLoop_inner q1 fn aa.tmps ps a b, ⟨rfl, rfl, rfl, rfl, rfl, rfl⟩, World.alloc_heap_new w _, Nat.le_refl _, fun x hx => heap_alloc_old _ _ hx, Tr.alloc hg.heap.fresh _, by simp, List.nodup_nil, fun x hx => by cases hx⟩
 obtain ⟨base, l, mk, W1, hent, ⟨hb1, hb2, hb3, hb4, hb5, hb6⟩, hl, hlw, hold, tr1, hsz1, hmn, hmk⟩ := enter
 have hg1 := hg.onward tr1 (fun x hx => ⟨hold x hx, rfl⟩) (fun x hx => hg.heap.fresh x (Nat.le_trans hsz1 hx))
 have hrl : r ≠ some l := by
  rintro rfl
  obtain ⟨lp, ⟨q1, _⟩, _⟩ := hg.lk l rfl
  have := block_lt q1; omega
 let L1 : Loc := ⟨fun j => L.ρ (dnR c1 tb j), fun j => L.κ (dnR c1 tb j)⟩
 have hL1 : ∀ i, inRange c1 tb.length i = false → L1.ρ (upR c1 tb i) = L.ρ i ∧ L1.κ (upR c1 tb i) = L.κ i := fun i hi => by
  show L.ρ (dnR c1 tb (upR c1 tb i)) = L.ρ i ∧ L.κ (dnR c1 tb (upR c1 tb i)) = L.κ i
  rw [hdu i hi]; exact ⟨rfl, rfl⟩
 have hnC : ∀ x, w.heap.size ≤ x → ¬ cx.C s x := fun x hx hC => by have := hg.heap.csz x hC; omega
 have hbase : recOf base (RS.go x0 : RS α σ) = base := by
  cases base; simp only at hb5 hb6; subst hb5; subst hb6; rfl
 have hLt : ∀ i ∈ lt, L1.ρ i = L.ρ i ∧ L1.κ i = L.κ i := fun i hi => by
  have := hL1 i (l1 i hi).2
  rw [upR_out (hltb i hi)] at this
  exact this
 have hHG : RInv cx I l (mk ++ m) r base (renE (upR c1 tb) e) aa.tmps c2 tb L1.ρ L1.κ F W1 (.go x0, L1) W1 F := by
  refine ⟨?_, ⟨by rw [hbase]; exact hl, by show ¬ cx.C (I x0).2 l; rw [hI2]; exact hnC l hlw⟩, fun x hx => ?_, fun l0 h0 => ?_, fun t v ht => ?_, fun _ _ => ⟨rfl, rfl⟩, Tr.refl F W1, hok0⟩
  ·show HeapOk cx L1 F (I x0).1 (I x0).2 W1
   rw [hI1, hI2]
   exact (hg1.heap.subT hscut).ren fun i hi => hL1 i (k9 i hi)
  ·show _ ∧ ¬ cx.C (I x0).2 x
   rw [hI2]
   rcases List.mem_append.1 hx with hx | hx
   ·exact ⟨(hmk x hx).2, hnC x (hmk x hx).1⟩
   ·exact hg1.mks x hx
  ·show ∃ lp, _ ∧ ¬ cx.C (I x0).2 l0
   rw [hI2]
   exact hg1.lk l0 h0
  ·simp only [renE, get_mapT] at ht
   cases h0 : get e t with
   | none => simp [h0] at ht
   | some v0 =>
    simp [h0] at ht
    subst ht
    obtain ⟨x, hx, hr⟩ := hg1.env t v0 h0
    exact ⟨x, hx, (RepV.ren (R := upR c1 tb) (L := L) (L' := L1) v0 x fun i hi => hL1 i (henv1 i (envNames_mem h0 hi))).2 hr⟩
 have hH0 : HeapOk (rangeCx cx I l (mk ++ m) r base (renE (upR c1 tb) e) aa.tmps c2 tb L1.ρ L1.κ F W1) L1 F (keepT lt h) (.go x0, L1) W1 := by
  refine ⟨hHG, fun x hx => ?_, hg1.heap.fresh, fun id o hi => ?_, fun id o hi hb => ?_, fun i j o p hi hj hbi hbj he => ?_⟩
  rotate_left
  ·exact RepO.yfree o (yfreeH_spec l5 hi) (RepO.mono (Tr.refl F W1) id o (fun j hj => hLt j (l3 j ((heapNames_key hi).2 j (namesOfO_mem j o hj)))) (hLt id (l3 id (heapNames_key hi).1)) (fun _ => rfl) (hg1.heap.obj id o (hskeep _ _ hi)))
  ·have hid := hLt id (l3 id (heapNames_key hi).1)
   have hbL := (Backed_eq (L := L) (L' := L1) hid.2).1 hb
   obtain ⟨q1, q2⟩ := hg1.heap.own id o (hskeep _ _ hi) hbL
   rw [hid.1]
   refine ⟨q1, ?_⟩
   rintro (hx | ⟨j, p, hj, hbj, hx⟩ | hx | hx | hx)
   ·have hx : cx.C (I x0).2 (L.ρ id) := hx
    rw [hI2] at hx
    exact q2 hx
   ·have hj : get (I x0).1 j = some p := hj
    rw [hI1] at hj
    obtain ⟨j', o1, h1, rfl, rfl⟩ := get_renH hj
    have hr := hL1 j' (k9 j' (heapNames_key h1).1)
    have hbj' := (Backed_ren (R := upR c1 tb) (L := L) (L' := L1) j' o1 hr.2).1 hbj
    have hx : L1.ρ (upR c1 tb j') = L.ρ id := hx
    rw [hr.1] at hx
    have := hg1.heap.inj j' id o1 o (hscut _ _ h1) (hskeep _ _ hi) hbj' hbL hx
    subst this
    rw [get_cutL, if_pos (l3 _ (heapNames_key hi).1)] at h1
    cases h1
   ·exact (RepO.not_ctl (hg1.heap.obj id o (hskeep _ _ hi)) hbL (by rw [hx]; exact hl)).1 _ rfl
   ·exact (RepO.not_ctl (hg1.heap.obj id o (hskeep _ _ hi)) hbL (hHG.mks _ hx).1).2 _ rfl
   ·obtain ⟨lp, ⟨q1, _⟩, _⟩ := hHG.out _ hx
    exact (RepO.not_ctl (hg1.heap.obj id o (hskeep _ _ hi)) hbL q1).1 _ rfl
  ·have h1 := hLt i (l3 i (heapNames_key hi).1)
   have h2 := hLt j (l3 j (heapNames_key hj).1)
   rw [h1.1, h2.1] at he
   exact hg1.heap.inj i j o p (hskeep _ _ hi) (hskeep _ _ hj) ((Backed_eq h1.2).1 hbi) ((Backed_eq h2.2).1 hbj) he
  rcases hx with hx | ⟨id, o, hi, hb, hx⟩ | hx | hx | hx
  ·exact hHG.heap.csz x hx
  ·rw [← hx]; exact (hHG.heap.obj id o hi).lt hb
  ·rw [hx]; exact block_lt hl
  ·exact block_lt (hHG.mks x hx).1
  ·obtain ⟨lp, ⟨q1, _⟩, _⟩ := hHG.out x hx; exact block_lt q1
 have hcall := (hf L1).run _ (range_handles hT hDa hDb hY hrl hb1 hb2 hb3 hb4 ⟨hb5, hb6⟩ hps hg.tsz hca hcb ⟨k5, k6⟩ hE) L1 F (#[.func (.yield l) #[] #[]] ++ lc) W1 hH0 (by
  show RepVL (some l) L1 F W1 (.yld :: caps) _
  refine ⟨.func (.yield l) #[] #[], lc.toList, by simp, ⟨l, rfl, rfl⟩, RepVL.yfree _ _ l4 (RepVL.mono tr1 _ _ (fun i hi => hLt i (l2 i (namesOfL_mem i caps hi))) hcap)⟩)
 refine ⟨l, mk.map mark, W1, { target := .fn (.func f) lc, args := #[.func (.yield l) #[] #[]] }, W1, f, #[.func (.yield l) #[] #[]] ++ lc, W1, hent, ?_, fun _ _ => trivial, ?_, (fun h => by cases h), ?_⟩
 ·simp only [resolve, hev]
  simp [go_sem]
 ·simp [invoke, go_sem, (hf L1).enter]
 refine (callsIn_fr hcall).mono ?_
 rintro en w' ⟨x, rfl, v, h', gs, L', F', ⟨hbk, hK⟩, hH, hv, tr, pin⟩
 simp only [backB, Bool.and_eq_true] at hbk
 have b1 : ∀ i ∈ heapNames h', i ∈ lt := fun i hi => inL_iff.1 (allB_spec hbk.1 i hi)
 obtain ⟨gg, L2⟩ := gs
 obtain ⟨i1, i2, i3, i4, i5, i6, i7, i8⟩ := hH.hg
 have hnb : (recOf base gg).state ≠ .busy := by cases gg <;> (intro h; cases h)
 have hend := run_endLoop (P := P) i2.1 hnb
 -- the state behind the loop
 obtain ⟨W4, hW4⟩ : ∃ W4, W4 = w'.putObj l (.loop { recOf base gg with state := .exhausted }) := ⟨_, rfl⟩
 rw [← hW4] at hend
 have tr4 : Tr F' w' F' W4 := by rw [hW4]; exact Tr.ctl i2.1 (fun _ _ _ h => by cases h) (fun _ _ h => by cases h) (fun _ _ _ h => by cases h)
 have hk4 : ∀ y, y ≠ l → W4.heap[y]? = w'.heap[y]? := fun y hy => by rw [hW4]; exact World.putObj_heap_other hy
 have h4 := i1.keep tr4 (fun b hb => i1.fresh b (Nat.le_trans tr4.size hb)) (fun b hb => ⟨hk4 b (by rintro rfl; exact i2.2 hb), rfl⟩) (fun id o hi hb => ⟨hk4 _ (fun e => (RepO.not_ctl (i1.obj id o hi) hb (by rw [e]; exact i2.1)).1 _ rfl), rfl⟩)
 let L3 : Loc := ⟨fun i => if i ∈ tb then L2.ρ (upR c1 tb i) else if inRange c1 tb.length i then cx.pρ i else L2.ρ i, fun i => if i ∈ tb then L2.κ (upR c1 tb i) else if inRange c1 tb.length i then cx.pκ i else L2.κ i⟩
 have hL3 : ∀ i, inRange c1 tb.length i = false → L3.ρ i = L2.ρ (upR c1 tb i) ∧ L3.κ i = L2.κ (upR c1 tb i) := by
  intro i hi
  by_cases hm : i ∈ tb
  ·simp [L3, hm]
  ·simp [L3, hm, hi, upR_out hm]
 have hL3d : ∀ i, i ∉ tb → L3.ρ (dnR c1 tb i) = L2.ρ i ∧ L3.κ (dnR c1 tb i) = L2.κ i := by
  intro i hi
  have : inRange c1 tb.length (dnR c1 tb i) = false := by
   cases hr : inRange c1 tb.length i with
   | false => rw [dnR_out hr]; exact hr
   | true =>
    rw [inRange_iff] at hr
    obtain ⟨k, hk⟩ : ∃ k, i = c1 + k := ⟨i - c1, by omega⟩
    obtain ⟨y, hy⟩ : ∃ y, tb[k]? = some y := ⟨_, List.getElem?_eq_getElem (by omega)⟩
    rw [hk, dnR_in hy]; exact htbr y (List.mem_of_getElem? hy)
  obtain ⟨q1, q2⟩ := hL3 _ this
  rw [hud i hi] at q1 q2
  exact ⟨q1, q2⟩
 have hok' := okH_spec i8
 have hL3t : ∀ i ∈ lt, L3.ρ i = L'.ρ i ∧ L3.κ i = L'.κ i := fun i hi => by
  obtain ⟨q1, q2⟩ := hL3 i (l1 i hi).2
  rw [upR_out (hltb i hi)] at q1 q2
  obtain ⟨q3, q4⟩ := i6 i (l1 i hi).1
  obtain ⟨q5, q6⟩ := pin i (l1 i hi).1
  exact ⟨q1.trans (q3.trans q5.symm), q2.trans (q4.trans q6.symm)⟩
 have hB : HeapOk cx L3 F' h' (gg.st I) W4 := by
  refine ⟨h4.hg, h4.csz, h4.fresh, fun id o hi => ?_, fun id o hi hb => ?_, fun i j o p hi hj hbi hbj he => ?_⟩
  ·refine RepO.mono tr4 id o (fun j hj => hL3t j (b1 j ((heapNames_key hi).2 j (namesOfO_mem j o hj)))) (hL3t id (b1 id (heapNames_key hi).1)) (fun hb => hk4 _ fun e => ?_) (RepO.yfree o (yfreeH_spec hbk.2 hi) (hH.obj id o hi))
   exact (hH.own id o hi hb).2 (.inr (.inr (.inl e)))
  ·have h3 := hL3t id (b1 id (heapNames_key hi).1)
   have := hH.own id o hi ((Backed_eq h3.2).1 hb)
   rw [h3.1]
   exact ⟨this.1, fun h => this.2 (.inl h)⟩
  ·have h1 := hL3t i (b1 i (heapNames_key hi).1)
   have h2 := hL3t j (b1 j (heapNames_key hj).1)
   rw [h1.1, h2.1] at he
   exact hH.inj i j o p hi hj ((Backed_eq h1.2).1 hbi) ((Backed_eq h2.2).1 hbj) he
 have hgood : Good cx r (mk ++ m) L3 F' ⟨e, renH (dnR c1 tb) (gg.heap I) ++ h', gg.st I⟩ { aa with defers := mk.map mark ++ aa.defers } W4 := by
  refine ⟨(h4.ren fun i hi => hL3d i (hok' i hi).2).app hB fun i o j p hi hj hbi hbj he => ?_, fun t v ht => ?_, ?_, fun x hx => ?_, ?_, fun l0 h0 => ?_, fun i hi => ?_, hg.tsz⟩
  ·obtain ⟨i', o1, h1, rfl, rfl⟩ := get_renH hi
   have hr := hL3d i' (hok' i' (heapNames_key h1).1).2
   have hj3 := hL3t j (b1 j (heapNames_key hj).1)
   rw [hr.1, hj3.1] at he
   exact (hH.own j p hj ((Backed_eq hj3.2).1 hbj)).2 (.inr (.inl ⟨i', o1, h1, (Backed_ren (R := dnR c1 tb) (L := L2) (L' := L3) i' o1 hr.2).1 hbi, he⟩))
  ·obtain ⟨x, hx, hr⟩ := i5 t (mapId (renF (upR c1 tb)) v) (by
    have ht : get e t = some v := ht
    simp only [renE, get_mapT, ht]; rfl)
   refine ⟨x, hx, RepV.mono tr4 v x (fun _ _ => ⟨rfl, rfl⟩) ((RepV.ren (R := upR c1 tb) (L := L3) (L' := L2) v x fun i hi => ?_).1 hr)⟩
   obtain ⟨q1, q2⟩ := hL3 i (henv1 i (envNames_mem ht hi))
   exact ⟨q1.symm, q2.symm⟩
  ·show mk.map mark ++ aa.defers = (mk ++ m).map mark
   rw [hg.dfr, List.map_append]
  ·obtain ⟨q1, q2⟩ := i3 x hx
   exact ⟨by rw [hk4 x (by rintro rfl; rw [i2.1] at q1; cases q1)]; exact q1, q2⟩
  ·rw [List.nodup_append]
   refine ⟨hmn, hg.mnd, fun x hx y hy e => ?_⟩
   have h1 := (hmk x hx).1
   have h2 := block_lt (hg.mks y hy).1
   omega
  ·obtain ⟨lp, ⟨q1, q2⟩, q3⟩ := i4 l0 h0
   exact ⟨lp, ⟨by rw [hk4 l0 (by rintro rfl; exact hrl h0)]; exact q1, q2⟩, q3⟩
  ·have hm : i ∉ tb := fun hm => by have := htb6 i hm; unfold pinned at hi; omega
   cases hr : inRange c1 tb.length i with
   | true => simp [L3, hm, hr]
   | false =>
    obtain ⟨q1, q2⟩ := hL3 i hr
    rw [upR_out hm] at q1 q2
    obtain ⟨q3, q4⟩ := i6 i hi
    have q5 : L1.ρ i = L.ρ i ∧ L1.κ i = L.κ i := by
     show L.ρ (dnR c1 tb i) = L.ρ i ∧ L.κ (dnR c1 tb i) = L.κ i
     rw [dnR_out hr]; exact ⟨rfl, rfl⟩
    obtain ⟨q6, q7⟩ := hg.pin i hi
    exact ⟨q1.trans (q3.trans (q5.1.trans q6)), q2.trans (q4.trans (q5.2.trans q7))⟩
 have trw : Tr F w F' W4 := Tr.trans tr1 (Tr.trans tr tr4)
 refine ⟨_, W4, hend, ?_⟩
 cases gg with
 | go x =>
  show ∃ e' st' m' L' F', _
  exact ⟨.normal, _, mk ++ m, L3, F', rfl, hK, hgood, trw, rfl⟩
 | done ex hd s' =>
  cases ex with
  | normal => exact wpIn_skip ⟨.normal, _, mk ++ m, L3, F', rfl, hK, hgood, trw, rfl⟩
  | ret => exact wpIn_ret ⟨.ret, _, mk ++ m, L3, F', rfl, hK, hgood, trw, rfl⟩
  | exit i => exact wpIn_exit ⟨.exit i, _, mk ++ m, L3, F', rfl, hK, hgood, trw, rfl⟩
end
end Go.PX
namespace Go.PX
open Go.RowKit
def iterT {γ : Type} (Y : Hd γ) : List (List V × Heap) → γ → (γ → Prop) → Prop
 | [], g, Q => Q g
 | (args, h) :: r, g, Q => Y.y args h g fun v h' g' => h' = h ∧ v = .d (.bool true) ∧ iterT Y r g' Q
def YieldsT (P : Program) (f : FuncId) (caps : List V) (h0 h1 : Heap) (l : List (List V × Heap)) : Prop :=
 ∀ {γ : Type} (Y : Hd γ) (g : γ) (Q : γ → Prop), iterT Y l g Q → FnC P Y f (.yld :: caps) h0 g fun v h' g' => h' = h1 ∧ Q g'
section
variable {P : Program} {T : Tys} {ft : FT} {α σ : Type} {Y : Hd σ}
theorem RangeA_listT (hT : TysOk P T) {g : Operand} {ps : Array Tmp} {a b : Code} (hDa : drawsOk P T ft a) (hDb : drawsOk P T ft b) {f : FuncId} {caps : List V} {e : Env} {h : Heap} {s : σ} {K : AExit → St σ → Prop} (hgv : opnd e g = some (.clo f caps))
  (lt : List Nat) (c1 c2 : Nat) (tb : List Nat) {β : Type} {items : List β} {arg : β → List V} {hp : β → Heap} {h1 : Heap} (hf : YieldsT P f caps (keepT lt h) h1 (items.map fun b => (arg b, hp b))) (hb1 : backB lt h1 = true)
  (I : α → Heap × σ) (J : List β → α → Prop) (x0 : α) (hck : rangeB c1 c2 tb e (cutL h lt) = true) (hlt : lentC c1 tb.length lt caps (keepT lt h) = true) (hI : I x0 = (renH (upR c1 tb) (cutL h lt), s)) (hok0 : okH c2 tb (I x0).1 = true) (hJ0 : J items x0)
  (round : ∀ it rest x, J (it :: rest) x → ∀ (Q : V → Heap → RS α σ → Prop), (∀ x', J rest x' → Q (.d (.bool true)) (hp it) (.go x')) →
   (rangeY P T ft Y I ps a b (renE (upR c1 tb) e) c2 tb).y (arg it) (hp it) (.go x) Q)
  (fin : ∀ x, J [] x → K .normal ⟨e, renH (dnR c1 tb) (I x).1 ++ h1, (I x).2⟩) : RangeA P ft Y g ps a b ⟨e, h, s⟩ K := by
 refine RangeA_genV hT hDa hDb hgv lt c1 c2 tb I x0 hck hlt hI hok0 fun L => ?_
 have key : ∀ (l : List β) (x : α) (L : Loc), J l x → iterT (liftY (rangeY P T ft Y I ps a b (renE (upR c1 tb) e) c2 tb)) (l.map fun b => (arg b, hp b)) (RS.go x, L) (fun g => match g.1 with
   | .go x => K .normal ⟨e, renH (dnR c1 tb) (I x).1 ++ h1, (I x).2⟩
   | .done ex hd s' => K ex ⟨e, renH (dnR c1 tb) hd ++ h1, s'⟩) := by
  intro l
  induction l with
  | nil => exact fun x L hj => fin x hj
  | cons it rest ih =>
   intro x L hj
   exact round it rest x hj (fun v h' g' => ∀ L', h' = hp it ∧ v = .d (.bool true) ∧ iterT (liftY (rangeY P T ft Y I ps a b (renE (upR c1 tb) e) c2 tb)) (rest.map fun b => (arg b, hp b)) (g', L') (fun g => match g.1 with
   | .go x => K .normal ⟨e, renH (dnR c1 tb) (I x).1 ++ h1, (I x).2⟩
   | .done ex hd s' => K ex ⟨e, renH (dnR c1 tb) hd ++ h1, s'⟩)) (fun x' hj' L' => ⟨rfl, rfl, ih x' L' hj'⟩)
 have hr := hf (liftY (rangeY P T ft Y I ps a b (renE (upR c1 tb) e) c2 tb)) (RS.go x0, L) _ (key items x0 L hJ0)
 refine ⟨hr.enter, fun cx hY L F vals w hh hv => (callsIn_fr (hr.run cx hY L F vals w hh hv)).mono ?_⟩
 rintro en w' ⟨x, rfl, v, h', gs, L', F', ⟨rfl, hK⟩, hrest⟩
 exact ⟨x, rfl, v, _, gs, L', F', ⟨hb1, hK⟩, hrest⟩
theorem YldA_vT {e : Env} {h : Heap} {s : σ} {d : Option Nat} {ds : List D} {r : List (List V × Heap)} {Q : σ → Prop} (hit : iterT Y ((inj ds, []) :: r) s Q) {args : List V} (hv : args = inj ds) (hd : Nat.ble (d.getD 0) 10000 = true) {K : St σ → Prop}
  (kt : ∀ s', iterT Y r s' Q → applyK (wset d (.d (.bool true))) e h fun e h => K ⟨e, h, s'⟩) : YldA P Y ⟨e, h, s⟩ d args K := by
 have hB : callB [] d (.d (.bool true)) [] = true := by
  simp only [callB, Bool.and_eq_true]
  refine ⟨⟨⟨⟨⟨⟨⟨⟨⟨rfl, rfl⟩, rfl⟩, rfl⟩, rfl⟩, rfl⟩, rfl⟩, hd⟩, rfl⟩, ?_⟩
  cases d <;> rfl
 have hren : ∀ (R : Nat → Nat) (l : List D), renL R (inj l) = inj l := by
  intro R l
  induction l with
  | nil => rfl
  | cons c r ih => show mapId (renF R) (.d c) :: mapIdL (renF R) (inj r) = .d c :: inj r; rw [show mapIdL (renF R) (inj r) = inj r from ih]; rfl
 refine yldY_of [] hit (by rw [hv]; exact hren _ _) rfl rfl rfl ?_
 rintro v h1 s' ⟨rfl, rfl, hi⟩
 refine ⟨hB, ?_⟩
 have := kt s' hi
 rw [applyK_eq s'] at this
 have hs : (applyWs (⟨e, h, s'⟩ : St σ) (wset d (.d (.bool true)))).s = s' := applyWs_s _ _
 show K (applyWs ⟨e, h, s'⟩ (wset d (.d (.bool true))))
 generalize applyWs (⟨e, h, s'⟩ : St σ) (wset d (.d (.bool true))) = st at this hs
 obtain ⟨e1, h1, s1⟩ := st
 simp only at hs; subst hs; exact this
end
end Go.PX
namespace Go.PX
open Go.Proofs
theorem upto_len : ∀ {k : Nat} {v : Int}, (upto k v).length = k
 | 0, _ => rfl
 | k + 1, v => by rw [upto, List.length_cons, upto_len]
theorem len_flatMap {α β : Type} {f : α → List β} {n : Nat} : ∀ {l : List α}, (∀ x ∈ l, (f x).length ≤ n) → (l.flatMap f).length ≤ l.length * n
 | [], _ => by simp
 | x :: r, h => by
  rw [List.flatMap_cons, List.length_append, List.length_cons, Nat.succ_mul]
  have h1 := h x (by simp)
  have h2 := len_flatMap (l := r) fun y hy => h y (by simp [hy])
  omega
theorem speedsL_len {s : Span} (hs : s.hi ≤ s.lo + 4) : ∀ {k : Nat}, (speedsL s k).length ≤ 5 ^ k
 | 0 => by simp [speedsL]
 | k + 1 => by
  rw [speedsL]
  have h1 := len_flatMap (l := spanL s) (f := fun v => (speedsL s k).map (v :: ·)) (n := 5 ^ k) fun v _ => by simpa using speedsL_len hs
  have h2 : (spanL s).length ≤ 5 := by unfold spanL; rw [upto_len]; omega
  have h3 := Nat.mul_le_mul_right (5 ^ k) h2
  rw [Nat.pow_succ]
  omega
theorem allT_len {c : LCase} (hR : CaseL c) : (allT c.lamp c.windings).length ≤ 2000 := by
 unfold allT
 have hk : 5 ^ (c.windings.length + 1) ≤ 125 := by
  have : (5 : Nat) ^ (c.windings.length + 1) ≤ 5 ^ 3 := Nat.pow_le_pow_right (by omega) (by have := hR.winds; omega)
  simpa using this
 have h1 := len_flatMap (l := spanL c.lamp.start) (f := fun st => (speedsL c.lamp.speed (c.windings.length + 1)).map fun l => (⟨st, l⟩ : LTruth)) (n := 125) fun v _ => by
  have := speedsL_len (s := c.lamp.speed) hR.lamp.speed.2.2.2 (k := c.windings.length + 1)
  rw [List.length_map]; omega
 have h2 : (spanL c.lamp.start).length ≤ 13 := by
  unfold spanL; rw [upto_len]
  have := hR.far
  omega
 have := Nat.mul_le_mul_right 125 h2
 omega
theorem agL_len {c : LCase} (h0 : (checkL c).2.2 = 0) : (agL c).length ≤ 2000 := by
 unfold agL
 rw [truL_all (CaseL.up h0).1, List.length_map]
 exact Nat.le_trans (List.length_filter_le _ _) (allT_len (checkL_ok h0))
def failedD (x : LTruth × Int) : D := .agg [i64 x.1.start, intsD x.1.speeds, i64 x.2]
def failuresL (ps : List LPhase) (l : List (LTruth × List Bool)) : List (LTruth × Int) := l.filterMap fun p => if failsL p.2 ps < 0 then none else some (p.1, failsL p.2 ps)
theorem la94 (n : Nat) (hn : n ≤ 100000) : FnU Tryz.prog 79 [.ptr 1000000 0] [(1000000, .box (.dd [i64 n]))] fun v h' => v = .d (.tup []) ∧ h' = [(1000000, .box (.dd [i64 (n + 1 : Nat)]))] := by
 intro σ Y s
 refine fnC_of mixed tysOk Tryz.func79 rfl (ft := ft79) (args := [.ptr 1000000 0]) (show fnB ft79 Tryz.f79 1 = true from by decide +kernel) ?_
 conv=>whnf
 refine arith_to (((n + 1 : Nat) : Int)) (by (try dsimp only); omega) (wrap_i64 (by (try dsimp only); omega)) ?_
 conv=>whnf
 exact RetA_hand [] [] [(1000000, .box (.dd [i64 (n + 1 : Nat)]))] rfl ⟨rfl, trivial⟩ rfl ⟨⟨rfl, rfl⟩, rfl⟩
theorem la95 (x y : LTruth × Int) (hx : -1 ≤ x.2 ∧ x.2 ≤ 200) (hy : -1 ≤ y.2 ∧ y.2 ≤ 200) : FnV Tryz.prog 80 [failedD x, failedD y] (i64 (x.2 - y.2)) := by
 refine fnV_of mixed tysOk Tryz.func80 rfl (ft := ft80) 2 (by decide +kernel) (by rfl) fun {σ} Y st => ?_
 conv=>whnf
 refine arith_to (x.2 - y.2) (by simp) (wrap_i64 (by omega)) ?_
 conv=>whnf
 exact RetA_view 0 rfl ⟨⟨rfl, rfl⟩, rfl⟩
def tellH (n : Nat) : Heap := [(1000000, .box (.vv [.clo 79 [.ptr 1000001 0]])), (1000001, .box (.dd [i64 n]))]
def failC (c : LCase) (l : LLight) : List V := [.d (.ref c.cells), .ptr 1000000 0, .d (.ref l.cells)]
theorem la93 (c : LCase) (l : LLight) (n : Nat) : FnU Tryz.prog 78 [.d c.d, .d l.d, .clo 79 [.ptr 1000000 0]] [(1000000, .box (.dd [i64 n]))] fun v h' =>
  v = .clo 111 [.d (.ref c.cells), .ptr 2000000 0, .d (.ref l.cells)] ∧ h' = [(1000000, .box (.dd [i64 n])), (2000000, .box (.vv [.clo 79 [.ptr 1000000 0]]))] := by
 intro σ Y s
 refine fnC_of mixed tysOk Tryz.func78 rfl (ft := ft78) (args := [.d c.d, .d l.d, .clo 79 [.ptr 1000000 0]]) (show fnB ft78 Tryz.f78 3 = true from by decide +kernel) ?_
 conv=>whnf
 refine RetA_wk (l' := [.clo 111 [.d (.ref c.cells), .ptr 5 0, .d (.ref l.cells)]]) (h' := [(5, .box (.vv [.clo 79 [.ptr 1000000 0]])), (1000000, .box (.dd [i64 n]))]) (Wk.trans (Wk.frz 1 [3, 4]) (Wk.sub ⟨(by first | rfl | (simp only [List.length_map]; rfl) | simp [PX.get]), trivial⟩ ⟨(by first | rfl | (simp only [List.length_map]; rfl) | simp [PX.get]), (by first | rfl | (simp only [List.length_map]; rfl) | simp [PX.get]), trivial⟩)) rfl rfl ?_
 exact RetA_hand [5] [.clo 111 [.d (.ref c.cells), .ptr 2000000 0, .d (.ref l.cells)]] [(1000000, .box (.dd [i64 n])), (2000000, .box (.vv [.clo 79 [.ptr 1000000 0]]))] rfl ⟨rfl, rfl, trivial⟩ rfl ⟨⟨rfl, rfl⟩, rfl⟩
end Go.PX
namespace Go.PX
open Go.Proofs
theorem failsF_rng {l : List LPhase} : ∀ {r : List Bool} {b : Bool} {A : List LState} {s : Int}, failsF l r b A s = -1 ∨ (s ≤ failsF l r b A s ∧ failsF l r b A s < s + r.length)
 | [], _, _, _ => .inl rfl
 | x :: r, b, A, s => by
  rw [failsF]
  split
  ·right; simp only [List.length_cons]; omega
  ·rcases failsF_rng (r := r) (b := x) (A := A.filterMap (stepS l (x != b))) (s := s + 1) with h | h
   ·exact .inl h
   ·right; simp only [List.length_cons]; omega
theorem failsL_rng {l : List LPhase} {lit : List Bool} (h : lit.length ≤ 200) : -1 ≤ failsL lit l ∧ failsL lit l ≤ 200 := by
 unfold failsL
 cases lit with
 | nil => simp
 | cons b r =>
  simp only [List.length_cons] at h
  have := failsF_rng (l := l) (r := r) (b := b) (A := initA b l.length) (s := 1)
  simp only
  omega
set_option maxHeartbeats 1000000 in
theorem yields119 (c : LCase) (l : LLight) (h0 : (checkL c).2.2 = 0) (hl : LightR l) : YieldsT Tryz.prog 111 (failC c l) (tellH 0) (tellH (agL c).length) ((failuresL l.phases (agL c)).map fun x => ([.d (failedD x)], [])) := by
 intro γ Y g0 Q hit
 have hR := checkL_ok h0
 have hn := hR.lamp.night
 refine fnC_of mixed tysOk Tryz.func111 rfl (ft := ft111) (args := .yld :: failC c l) (show fnB ft111 Tryz.f111 4 = true from by decide +kernel) ?_
 conv=>whnf
 refine CallA_v (la76 c hR) rfl rfl ?_
 conv=>whnf
 refine RangeA_list tysOk (by exact drawsB_spec mixed tysOk (by decide +kernel)) (by exact drawsB_spec mixed tysOk (by decide +kernel)) rfl 1500000 1600000 [4] (by exact yields_agree h0)
  (fun (p : Nat × γ) => ([(1000000, .box (.vv [.clo 79 [.ptr 1000001 0]])), (1000001, .box (.dd [i64 p.1])), (1500000, .box (.vv [.yld]))], p.2))
  (fun (rest : List (LTruth × List Bool)) (p : Nat × γ) => iterT Y ((failuresL l.phases rest).map fun x => ([.d (failedD x)], [])) p.2 Q ∧ (∀ q ∈ rest, q.2.length = c.lamp.night.toNat) ∧ p.1 + rest.length = (agL c).length) (0, g0) rfl rfl rfl ⟨hit, fun p hp => (agL_ok h0 hp).2.2, by simp⟩ ?_ ?_
 ·clear hit
  rintro ⟨t, lit⟩ rest ⟨n, g⟩ ⟨hit, hll, hcn⟩ Q' hQ1 hQ2
  refine ⟨⟨rfl, rfl⟩, ?_⟩
  simp only at hit hcn
  have hlen := hll (t, lit) (by simp)
  simp only at hlen
  have hrest : ∀ q ∈ rest, q.2.length = c.lamp.night.toNat := fun q hq => hll q (by simp [hq])
  have hne : lit ≠ [] := by rintro rfl; simp at hlen; omega
  have hag := agL_len h0
  simp only [List.length_cons] at hcn
  conv=>whnf
  refine CallA_fn (la94 n (by omega)) [1000001] rfl ⟨_, _, rfl, rfl, rfl⟩ rfl ?_
  conv=>whnf
  refine CallA_v (la90 lit l.phases hne (by omega) hl.len) rfl rfl ?_
  conv=>whnf
  have hfr := failsL_rng (l := l.phases) (lit := lit) (by omega)
  refine brk_i (fun h1 => ?_) (fun h1 => ?_)
  ·have h1 : failsL lit l.phases < 0 := by simpa using h1
   have he : failuresL l.phases ((t, lit) :: rest) = failuresL l.phases rest := by
    unfold failuresL
    rw [List.filterMap_cons]
    simp only [if_pos h1]
   rw [he] at hit
   conv=>whnf
   exact ⟨(n + 1, g), (Wk.sub trivial ⟨(by first | rfl | (simp only [List.length_map]; rfl) | simp [PX.get]), (by first | rfl | (simp only [List.length_map]; rfl) | simp [PX.get]), (by first | rfl | (simp only [List.length_map]; rfl) | simp [PX.get]), trivial⟩), rfl, hQ1 _ ⟨hit, hrest, by simp only; omega⟩⟩
  ·have h1 : ¬ failsL lit l.phases < 0 := by simpa using h1
   have he : failuresL l.phases ((t, lit) :: rest) = (t, failsL lit l.phases) :: failuresL l.phases rest := by
    unfold failuresL
    rw [List.filterMap_cons]
    simp only [if_neg h1]
   rw [he, List.map_cons] at hit
   conv=>whnf
   refine YldA_vT (ds := [failedD (t, failsL lit l.phases)]) hit rfl rfl (fun g1 hi => ?_)
   conv=>whnf
   exact ⟨(n + 1, g1), (Wk.sub trivial ⟨(by first | rfl | (simp only [List.length_map]; rfl) | simp [PX.get]), (by first | rfl | (simp only [List.length_map]; rfl) | simp [PX.get]), (by first | rfl | (simp only [List.length_map]; rfl) | simp [PX.get]), trivial⟩), rfl, hQ1 _ ⟨hi, hrest, by simp only; omega⟩⟩
 ·rintro ⟨n, g⟩ ⟨hit, _, hcn⟩
  simp only [List.length_nil] at hcn
  conv=>whnf
  rw [show n = (agL c).length by omega]
  exact RetA_hand [] [] (tellH (agL c).length) rfl ⟨rfl, rfl, trivial⟩ rfl ⟨rfl, hit⟩
def leastS (acc : Option (LTruth × Int)) (y : LTruth × Int) : Option (LTruth × Int) := match acc with
 | none => some y
 | some x => if y.2 - x.2 < 0 then some y else some x
def leastX (l : List (LTruth × Int)) : Option (LTruth × Int) := l.foldl leastS none
def leastXD (o : Option (LTruth × Int)) : D := match o with
 | none => .tup [.agg [i64 0, .nils, i64 0], .bool false]
 | some x => .tup [failedD x, .bool true]
theorem failuresL_rng {c : LCase} (h0 : (checkL c).2.2 = 0) {l : LLight} {x : LTruth × Int} (hx : x ∈ failuresL l.phases (agL c)) : -1 ≤ x.2 ∧ x.2 ≤ 200 := by
 unfold failuresL at hx
 obtain ⟨p, hp, hpx⟩ := List.mem_filterMap.1 hx
 have hn := (checkL_ok h0).lamp.night
 have hl := (agL_ok h0 hp).2.2
 split at hpx
 ·cases hpx
 ·cases hpx
  exact failsL_rng (by omega)
set_option maxHeartbeats 1000000 in
theorem la92 (c : LCase) (l : LLight) (h0 : (checkL c).2.2 = 0) (hl : LightR l) : FnU Tryz.prog 77 [.clo 111 (failC c l), .d (.clo 80 [])] (tellH 0) fun v h' =>
  v = .d (leastXD (leastX (failuresL l.phases (agL c)))) ∧ h' = tellH (agL c).length := by
 intro σ Y st
 refine fnC_of mixed tysOk Tryz.func77 rfl (ft := ft77) (args := [.clo 111 (failC c l), .d (.clo 80 [])]) (show fnB ft77 Tryz.f77 2 = true from by decide +kernel) ?_
 have hrng := fun x hx => failuresL_rng h0 (l := l) (x := x) hx
 have hys := fun {γ : Type} => yields119 c l h0 hl (γ := γ)
 generalize (agL c).length = n at hys
 generalize failuresL l.phases (agL c) = items at hrng hys
 conv=>whnf
 refine RangeA_listT tysOk (by exact drawsB_spec mixed tysOk (by decide +kernel)) (by exact drawsB_spec mixed tysOk (by decide +kernel)) rfl [1000000, 1000001] 1500000 1600000 [3, 4, 5] (by exact hys) rfl
  (fun (o : Option (LTruth × Int)) => (match o with
   | none => [(1500000, .box (.dd [.clo 80 []])), (1500001, .box (.dd [i64 0, .nils, i64 0])), (1500002, .box (.dd [.bool false]))]
   | some x => [(1500000, .box (.dd [.clo 80 []])), (1500001, .box (.dd [i64 x.1.start, intsD x.1.speeds, i64 x.2])), (1500002, .box (.dd [.bool true]))], st))
  (fun (rest : List (LTruth × Int)) (o : Option (LTruth × Int)) => leastX items = rest.foldl leastS o ∧ (∀ x, o = some x → -1 ≤ x.2 ∧ x.2 ≤ 200) ∧ ∀ x ∈ rest, -1 ≤ x.2 ∧ x.2 ≤ 200) none rfl rfl rfl rfl ⟨rfl, ⟨fun x (h : none = some x) => (by cases h), hrng⟩⟩ ?_ ?_
 ·rintro y rest o ⟨hk, ho, hr⟩ Q hQ1
  refine ⟨⟨rfl, rfl⟩, ?_⟩
  rw [List.foldl_cons] at hk
  have hy := hr y (by simp)
  have hrest : ∀ x ∈ rest, -1 ≤ x.2 ∧ x.2 ≤ 200 := fun l h => hr l (by simp [h])
  cases o with
  | none =>
   conv=>whnf
   exact ⟨some y, (Wk.sub trivial ⟨(by first | rfl | (simp only [List.length_map]; rfl) | simp [PX.get]), (by first | rfl | (simp only [List.length_map]; rfl) | simp [PX.get]), (by first | rfl | (simp only [List.length_map]; rfl) | simp [PX.get]), trivial⟩), rfl, hQ1 _ ⟨hk, ⟨fun x h => (by cases h; exact hy), hrest⟩⟩⟩
  | some x =>
   have hx := ho x rfl
   conv=>whnf
   refine CallA_v (la95 y x hy hx) rfl rfl ?_
   conv=>whnf
   rw [leastS] at hk
   refine brk_i (fun h1 => ?_) (fun h1 => ?_)
   ·have h1 : y.2 - x.2 < 0 := by simpa using h1
    rw [if_pos h1] at hk
    conv=>whnf
    exact ⟨some y, (Wk.sub trivial ⟨(by first | rfl | (simp only [List.length_map]; rfl) | simp [PX.get]), (by first | rfl | (simp only [List.length_map]; rfl) | simp [PX.get]), (by first | rfl | (simp only [List.length_map]; rfl) | simp [PX.get]), trivial⟩), rfl, hQ1 _ ⟨hk, ⟨fun x h => (by cases h; exact hy), hrest⟩⟩⟩
   ·have h1 : ¬ y.2 - x.2 < 0 := by simpa using h1
    rw [if_neg h1] at hk
    conv=>whnf
    exact ⟨some x, (Wk.sub trivial ⟨(by first | rfl | (simp only [List.length_map]; rfl) | simp [PX.get]), (by first | rfl | (simp only [List.length_map]; rfl) | simp [PX.get]), (by first | rfl | (simp only [List.length_map]; rfl) | simp [PX.get]), trivial⟩), rfl, hQ1 _ ⟨hk, ⟨ho, hrest⟩⟩⟩
 ·rintro o ⟨hk, ho, _⟩
  simp only [List.foldl_nil] at hk
  rw [hk]
  cases o with
  | none =>
   conv=>whnf
   exact RetA_hand [] [.d (.agg [i64 0, .nils, i64 0]), .d (.bool false)] (tellH n) rfl ⟨rfl, rfl, trivial⟩ rfl ⟨⟨rfl, rfl⟩, rfl⟩
  | some x =>
   conv=>whnf
   exact RetA_hand [] [.d (failedD x), .d (.bool true)] (tellH n) rfl ⟨rfl, rfl, trivial⟩ rfl ⟨⟨rfl, rfl⟩, rfl⟩
def keptE (c : LCase) (l : LLight) : Int := if entrE c [l] = 0 then (if agL c = [] then 9 else if leastX (failuresL l.phases (agL c)) = none then 4 else 0) else entrE c [l]
def keptX (c : LCase) (l : LLight) : LTruth × Int := if entrE c [l] = 0 then (leastX (failuresL l.phases (agL c))).getD (⟨0, []⟩, 0) else (⟨0, []⟩, 0)
def keptD (c : LCase) (l : LLight) : D := .tup [(keptX c l).1.d, i64 (keptX c l).2, i64 (keptE c l)]
set_option maxHeartbeats 1000000 in
theorem la32 (c : LCase) (l : LLight) : FnV Tryz.prog 31 [c.d, l.d] (keptD c l) := by
 refine fnV_of mixed tysOk Tryz.func31 rfl (ft := ft31) 2 (by decide +kernel) (by rfl) fun {σ} Y st => ?_
 conv=>whnf
 refine CallA_view (la89 c [l]) rfl 1 rfl ?_
 conv=>whnf
 by_cases h0 : entrE c [l] = 0
 case neg =>
  have he : keptE c l = entrE c [l] := by unfold keptE; rw [if_neg h0]
  have hv : keptX c l = (⟨0, []⟩, 0) := by unfold keptX; rw [if_neg h0]
  rw [keptD, he, hv]
  refine brk_i (fun _ => ?_) (fun h1 => absurd h1 (by simp [h0]))
  conv=>whnf
  exact RetA_viewR 0 rfl rfl ⟨⟨rfl, rfl⟩, rfl⟩
 obtain ⟨h00, hl⟩ := entr_ok h0
 have hl := hl l (by simp)
 have he : keptE c l = (if agL c = [] then 9 else if leastX (failuresL l.phases (agL c)) = none then 4 else 0) := by unfold keptE; rw [if_pos h0]
 have hv : keptX c l = (leastX (failuresL l.phases (agL c))).getD (⟨0, []⟩, 0) := by unfold keptX; rw [if_pos h0]
 rw [keptD, he, hv]
 refine brk_i (fun h1 => absurd h1 (by simp [h0])) (fun _ => ?_)
 conv=>whnf
 refine CallA_fn (la93 c l 0) [7] rfl ⟨_, _, rfl, rfl, rfl⟩ rfl ?_
 conv=>whnf
 refine CallA_fn (la92 c l h00 hl) [101408, 7] ?_ ?_ ?_ ?_
 ·exact sameVL_eq _ _ ⟨⟨rfl, rfl, ⟨rfl, rfl⟩, rfl, trivial⟩, rfl, trivial⟩
 ·exact ⟨_, _, rfl, box_same rfl ⟨⟨rfl, ⟨rfl, rfl⟩, trivial⟩, trivial⟩, _, _, rfl, rfl, rfl⟩
 ·rfl
 have hlen := agL_len h00
 cases hX : leastX (failuresL l.phases (agL c)) with
 | none =>
  conv=>whnf
  refine brk_i (fun h1 => ?_) (fun h1 => ?_)
  ·have h1 : agL c = [] := by simpa using h1
   conv=>whnf
   rw [if_pos h1]
   exact RetA_viewR 0 rfl rfl ⟨⟨rfl, rfl⟩, rfl⟩
  ·have h1 : ¬ agL c = [] := by simpa using h1
   conv=>whnf
   rw [if_neg h1]
   exact RetA_viewR 0 rfl rfl ⟨⟨rfl, rfl⟩, rfl⟩
 | some x =>
  conv=>whnf
  refine brk_i (fun h1 => ?_) (fun h1 => ?_)
  ·have h1 : agL c = [] := by simpa using h1
   rw [h1] at hX
   cases hX
  ·have h1 : ¬ agL c = [] := by simpa using h1
   conv=>whnf
   rw [if_neg h1]
   exact RetA_view 0 rfl ⟨⟨rfl, rfl⟩, rfl⟩
end Go.PX
namespace Go.PX
open Go.Proofs
def keepsB (ps : List LPhase) (p : LTruth × List Bool) : Bool := decide (failsL p.2 ps < 0)
def whichF (A : List (LTruth × List Bool)) : List LLight → Int → List Int
 | [], _ => []
 | x :: r, i => if A.any (keepsB x.phases) then i :: whichF A r (i + 1) else whichF A r (i + 1)
def whichV (c : LCase) (l : List LLight) : List Int := if entrE c l = 0 then whichF (agL c) l 0 else []
set_option maxHeartbeats 1000000 in
theorem la35 (c : LCase) (l : List LLight) : FnV Tryz.prog 32 [c.d, lightsD l] (.tup [intsD (whichV c l), i64 (entrE c l)]) := by
 refine fnV_of mixed tysOk Tryz.func32 rfl (ft := ft32) 2 (by decide +kernel) (by rfl) fun {σ} Y st => ?_
 conv=>whnf
 refine CallA_v (la89 c l) rfl rfl ?_
 conv=>whnf
 by_cases h0 : entrE c l = 0
 case neg =>
  have hv : whichV c l = [] := by unfold whichV; rw [if_neg h0]
  rw [hv]
  refine brk_i (fun _ => ?_) (fun h1 => absurd h1 (by simp [h0]))
  conv=>whnf
  exact RetA_viewR 0 rfl rfl ⟨⟨rfl, rfl⟩, rfl⟩
 obtain ⟨h00, hl⟩ := entr_ok h0
 have hlen : l.length ≤ 6 := by
  have : (lightsF l).2 = 0 := by unfold entrE at h0; rwa [if_pos h00] at h0
  exact (lightsF_ok this).1.2
 have hR := checkL_ok h00
 have hn := hR.lamp.night
 have hv : whichV c l = whichF (agL c) l 0 := by unfold whichV; rw [if_pos h0]
 rw [hv]
 refine brk_i (fun h1 => absurd h1 (by simp [h0])) (fun _ => ?_)
 conv=>whnf
 refine LoopA_i (T := tys) tysOk (by exact drawsB_spec mixed tysOk (by decide +kernel)) l (fun i (acc : List Int) => ⟨[(2, .ptr 2 0), (4, .ptr 4 0), (15, .d (lightsD l)), (16, .d (i64 l.length)), (17, .d (i64 i))], [(2, .box (.dd c.cells)), (4, .box (.vv [.sl 34 1 0 acc.length])), (34, .arr 1 (.dd (acc.map fun n => [i64 n])))], st⟩)
  (fun i r acc => whichF (agL c) l 0 = acc ++ whichF (agL c) r i ∧ acc.length ≤ i ∧ ∀ x ∈ r, LightR x) [] ((Wk.bornBox 4 34 1 rfl rfl rfl rfl).trans (Wk.sub ⟨(by first | rfl | (simp only [List.length_map]; rfl) | simp [PX.get]), (by first | rfl | (simp only [List.length_map]; rfl) | simp [PX.get]), (by first | rfl | (simp only [List.length_map]; rfl) | simp [PX.get]), (by first | rfl | (simp only [List.length_map]; rfl) | simp [PX.get]), (by first | rfl | (simp only [List.length_map]; rfl) | simp [PX.get]), trivial⟩ ⟨(by first | rfl | (simp only [List.length_map]; rfl) | simp [PX.get]), (by first | rfl | (simp only [List.length_map]; rfl) | simp [PX.get]), (by first | rfl | (simp only [List.length_map]; rfl) | simp [PX.get]), trivial⟩)) ⟨rfl, by simp, hl⟩ ?_ ?_
 ·intro i x r acc hx hi hr ⟨he, hal, hlr⟩
  rw [whichF] at he
  have hxR := hlr x (by simp)
  have hlr : ∀ y ∈ r, LightR y := fun y hy => hlr y (by simp [hy])
  conv=>whnf
  refine brk_i (fun _ => ?_) (fun h => absurd hi (by simpa using h))
  conv=>whnf
  refine elemK_nat hx ?_
  conv=>whnf
  refine CallA_v (la76 c hR) rfl rfl ?_
  conv=>whnf
  refine RangeA_list tysOk (by exact drawsB_spec mixed tysOk (by decide +kernel)) (by exact drawsB_spec mixed tysOk (by decide +kernel)) rfl 1500000 1600000 [2, 4, 6, 7] (by exact yields_agree h00)
   (fun (_ : Unit) => ([(1500000, .box (.dd c.cells)), (1500001, .box (.vv [.sl 34 1 0 acc.length])), (34, .arr 1 (.dd (acc.map fun n => [i64 n]))), (1500002, .box (.dd [i64 i])), (1500003, .box (.dd x.cells))], st))
   (fun rest _ => (agL c).any (keepsB x.phases) = rest.any (keepsB x.phases) ∧ ∀ p ∈ rest, p.2.length = c.lamp.night.toNat) () rfl rfl rfl ⟨rfl, fun p hp => (agL_ok h00 hp).2.2⟩ ?_ ?_
  ·rintro ⟨t, lit⟩ rest _ ⟨hk, hll⟩ Q hQ1 hQ2
   refine ⟨⟨rfl, rfl⟩, ?_⟩
   have hlen := hll (t, lit) (by simp)
   simp only at hlen
   have hrest : ∀ q ∈ rest, q.2.length = c.lamp.night.toNat := fun q hq => hll q (by simp [hq])
   have hne : lit ≠ [] := by rintro rfl; simp at hlen; omega
   rw [List.any_cons] at hk
   conv=>whnf
   refine CallA_v (la90 lit x.phases hne (by omega) hxR.len) rfl rfl ?_
   conv=>whnf
   refine brk_i (fun h1 => ?_) (fun h1 => ?_)
   ·have h1 : keepsB x.phases (t, lit) = true := h1
    rw [h1, Bool.true_or] at hk
    rw [hk, if_pos rfl] at he
    conv=>whnf
    refine ownK_whole rfl ?_
    conv=>whnf
    refine ownK_whole (by simp [Els.len]) ?_
    conv=>whnf
    refine chk_i (decide_eq_true (by
     show ((acc.map fun n => [i64 n]).length + 1) * 8 ≤ 140737488355328
     rw [List.length_map]; omega)) ?_
    conv=>whnf
    refine ⟨[(1500000, .box (.dd c.cells)), (1500001, .box (.vv [.sl 34 1 0 (acc ++ [(i : Int)]).length])), (34, .arr 1 (.dd ((acc ++ [(i : Int)]).map fun n => [i64 n])))], st, Wk.sub trivial ⟨rfl, ?_, ?_, trivial⟩, rfl, hQ2 _ _ _ ?_⟩
    ·simp [PX.get, Els.len]
    ·simp [PX.get]
    ·conv=>whnf
     refine arith_in (wrap_i64 (by (try dsimp only); omega)) ?_
     conv=>whnf
     exact ⟨acc ++ [(i : Int)], ⟨by rw [he]; simp, by simp; omega, hlr⟩, (Wk.sub ⟨(by first | rfl | (simp only [List.length_map]; rfl) | simp [PX.get]), (by first | rfl | (simp only [List.length_map]; rfl) | simp [PX.get]), (by first | rfl | (simp only [List.length_map]; rfl) | simp [PX.get]), (by first | rfl | (simp only [List.length_map]; rfl) | simp [PX.get]), (by first | rfl | (simp only [List.length_map]; rfl) | simp [PX.get]), trivial⟩ ⟨(by first | rfl | (simp only [List.length_map]; rfl) | simp [PX.get]), (by first | rfl | (simp only [List.length_map]; rfl) | simp [PX.get]), (by first | rfl | (simp only [List.length_map]; rfl) | simp [PX.get]), trivial⟩)⟩
   ·have h1 : keepsB x.phases (t, lit) = false := h1
    rw [h1, Bool.false_or] at hk
    conv=>whnf
    exact ⟨(), (Wk.sub trivial ⟨(by first | rfl | (simp only [List.length_map]; rfl) | simp [PX.get]), (by first | rfl | (simp only [List.length_map]; rfl) | simp [PX.get]), (by first | rfl | (simp only [List.length_map]; rfl) | simp [PX.get]), (by first | rfl | (simp only [List.length_map]; rfl) | simp [PX.get]), (by first | rfl | (simp only [List.length_map]; rfl) | simp [PX.get]), trivial⟩), rfl, hQ1 _ ⟨hk, hrest⟩⟩
  ·rintro _ ⟨hk, _⟩
   rw [List.any_nil] at hk
   rw [hk, if_neg (by simp)] at he
   conv=>whnf
   refine arith_in (wrap_i64 (by (try dsimp only); omega)) ?_
   conv=>whnf
   exact ⟨acc, ⟨he, by omega, hlr⟩, (Wk.sub ⟨(by first | rfl | (simp only [List.length_map]; rfl) | simp [PX.get]), (by first | rfl | (simp only [List.length_map]; rfl) | simp [PX.get]), (by first | rfl | (simp only [List.length_map]; rfl) | simp [PX.get]), (by first | rfl | (simp only [List.length_map]; rfl) | simp [PX.get]), (by first | rfl | (simp only [List.length_map]; rfl) | simp [PX.get]), trivial⟩ ⟨(by first | rfl | (simp only [List.length_map]; rfl) | simp [PX.get]), (by first | rfl | (simp only [List.length_map]; rfl) | simp [PX.get]), (by first | rfl | (simp only [List.length_map]; rfl) | simp [PX.get]), trivial⟩)⟩
 ·intro acc ⟨he, hal, _⟩
  rw [whichF, List.append_nil] at he
  rw [he]
  conv=>whnf
  refine brk_i (fun h => absurd h (by simp)) (fun _ => ?_)
  conv=>whnf
  rw [h0]
  exact RetA_view 1 (ds := [intsD acc, i64 0]) (viewL_cons (viewV_sl rfl (by simp)) rfl) ⟨⟨rfl, rfl⟩, rfl⟩
end Go.PX
namespace Go.PX
open Go.Proofs
theorem relaxE_spans : ∀ l : List Span, relaxE (l.map Span.cells) = l.map Span.cells
 | [] => rfl
 | s :: r => by
  rw [List.map_cons, relaxE, relaxE_spans r]; rfl
def aloneC (x : LLamp) : LCase := ⟨x, [], []⟩
def anyStart (x : LLamp) : LLamp := { x with start := ⟨0, x.drum - 1⟩ }
theorem la96 (s : Int) (b : Bool) : FnV Tryz.prog 52 [i64 s, .bool b] (.bool true) := by
 refine fnV_of mixed tysOk Tryz.func52 rfl (ft := ft52) 2 (by decide +kernel) (by rfl) fun {σ} Y st => ?_
 conv=>whnf
 exact RetA_view 0 rfl ⟨⟨rfl, rfl⟩, rfl⟩
def anyC (x : LLamp) : List (LTruth × List Bool) := truL (anyStart x) [] trueF
def longStep (ps : List LPhase) (n : Int) (p : LTruth × List Bool) : Int := if failsL p.2 ps ≥ 0 then min n (failsL p.2 ps) else n
def longF (x : LLamp) (ps : List LPhase) : Int := (anyC x).foldl (longStep ps) x.night
def longE (x : LLamp) (l : LLight) : Int := entrE (aloneC x) [l]
def longV (x : LLamp) (l : LLight) : Int := if longE x l = 0 then longF x l.phases else 0
theorem LampR.any {x : LLamp} (h : LampR x) : LampR (anyStart x) := ⟨h.drum, h.slow, h.night, h.lits, h.lit, by
 have := h.drum
 show 0 ≤ (0 : Int) ∧ (0 : Int) ≤ x.drum - 1 ∧ x.drum - 1 ≤ x.drum - 1
 omega, h.speed⟩
theorem failsF_lo {l : List LPhase} {lit : List Bool} (h : 0 ≤ failsL lit l) : 1 ≤ failsL lit l := by
 unfold failsL at h ⊢
 cases lit with
 | nil => simp at h
 | cons b r =>
  have := failsF_rng (l := l) (r := r) (b := b) (A := initA b l.length) (s := 1)
  simp only at h ⊢
  omega
theorem upW_nil (x : LLamp) : upW x [] := trivial
theorem upF_nil {x : LLamp} (h : LampR x) : upF x 0 [] := by
 have := h.night
 show 0 ≤ x.night
 omega
theorem anyC_len {x : LLamp} (h : LampR x) {p : LTruth × List Bool} (hp : p ∈ anyC x) : p.2.length = x.night.toNat := by
 unfold anyC at hp
 rw [truL_all (upF_nil h.any)] at hp
 obtain ⟨t, _, rfl⟩ := List.mem_map.1 hp
 simp only [courseL, courseF_len]; rfl
set_option maxHeartbeats 1000000 in
theorem la37 (x : LLamp) (l : LLight) : FnV Tryz.prog 9 [x.d, l.d] (.tup [i64 (longV x l), i64 (longE x l)]) := by
 refine fnV_of mixed tysOk Tryz.func9 rfl (ft := ft9) 2 (by decide +kernel) (by rfl) fun {σ} Y st => ?_
 conv=>whnf
 refine CallA_rep (args' := [.d (aloneC x).d, .sl 13 2 0 1]) (fun yv L F w vs => ?_) ?_
 ·rintro ⟨a, r, rfl, ha, hr⟩
  refine ⟨a, r, rfl, ?_, hr⟩
  have e : relax (.agg (x.cells ++ [.nils, .nils])) = (aloneC x).d := by
   show D.agg (relaxL (x.cells ++ [.nils, .nils])) = _
   simp only [LLamp.cells, List.cons_append, List.nil_append, relaxL, relax, spansD, relaxE_spans]
   rfl
  exact e ▸ RepD.relax _ _ (show RepD F w (.agg (x.cells ++ [.nils, .nils])) a from ha)
 refine CallA_view (la89 (aloneC x) [l]) rfl 1 rfl ?_
 conv=>whnf
 by_cases h0 : longE x l = 0
 case neg =>
  have hv : longV x l = 0 := by unfold longV; rw [if_neg h0]
  rw [hv]
  unfold longE at h0 ⊢
  refine brk_i (fun _ => ?_) (fun h1 => absurd h1 (by simp [h0]))
  conv=>whnf
  exact RetA_view 0 rfl ⟨⟨rfl, rfl⟩, rfl⟩
 have hv : longV x l = longF x l.phases := by unfold longV; rw [if_pos h0]
 rw [hv]
 unfold longE at h0 ⊢
 obtain ⟨h00, hl⟩ := entr_ok h0
 have hlR := hl l (by simp)
 have hR0 := (checkL_ok h00).lamp
 have hR0 : LampR x := hR0
 have hR := hR0.any
 have hn := hR0.night
 have hd := hR0.drum
 refine brk_i (fun h1 => absurd h1 (by simp [h0])) (fun _ => ?_)
 conv=>whnf
 refine arith_in (wrap_i64 (by (try dsimp only); omega)) ?_
 conv=>whnf
 refine CallA_v (la80 (anyStart x) hR) rfl rfl ?_
 conv=>whnf
 refine CallA_nil1 (CallA_v (la81 (anyStart x) [] 52 []) rfl rfl ?_)
 conv=>whnf
 refine RangeA_list tysOk (by exact drawsB_spec mixed tysOk (by decide +kernel)) (by exact drawsB_spec mixed tysOk (by decide +kernel)) rfl 1500000 1600000 [2, 3, 7] (by exact fun {γ} => yields112 hR (w := []) (by simp) (by simp) (upW_nil _) (fun s b _ => la96 s b))
  (fun (n : Int) => ([(1500000, .box (.dd (anyStart x).cells)), (1500001, .box (.dd l.cells)), (13, .arr 2 (.dd [l.cells])), (1500002, .box (.dd [i64 n]))], st))
  (fun rest n => longF x l.phases = rest.foldl (longStep l.phases) n ∧ ∀ p ∈ rest, p.2.length = x.night.toNat) x.night rfl rfl rfl ⟨rfl, fun p hp => anyC_len hR0 hp⟩ ?_ ?_
 ·rintro ⟨t, lit⟩ rest n ⟨hk, hll⟩ Q hQ1 -
  refine ⟨⟨rfl, rfl⟩, ?_⟩
  rw [List.foldl_cons] at hk
  have hlen := hll (t, lit) (by simp)
  simp only at hlen
  have hrest : ∀ q ∈ rest, q.2.length = x.night.toNat := fun q hq => hll q (by simp [hq])
  have hne : lit ≠ [] := by rintro rfl; simp at hlen; omega
  conv=>whnf
  refine CallA_v (la90 lit l.phases hne (by omega) hlR.len) rfl rfl ?_
  conv=>whnf
  rw [longStep] at hk
  refine brk_i (fun h1 => ?_) (fun h1 => ?_)
  ·have h1 : failsL lit l.phases ≥ 0 := by simpa using h1
   rw [if_pos h1] at hk
   conv=>whnf
   exact ⟨min n (failsL lit l.phases), (Wk.sub trivial ⟨(by first | rfl | (simp only [List.length_map]; rfl) | simp [PX.get]), (by first | rfl | (simp only [List.length_map]; rfl) | simp [PX.get]), (by first | rfl | (simp only [List.length_map]; rfl) | simp [PX.get]), (by first | rfl | (simp only [List.length_map]; rfl) | simp [PX.get]), trivial⟩), rfl, hQ1 _ ⟨hk, hrest⟩⟩
  ·have h1 : ¬ failsL lit l.phases ≥ 0 := by simpa using h1
   rw [if_neg h1] at hk
   conv=>whnf
   exact ⟨n, (Wk.sub trivial ⟨(by first | rfl | (simp only [List.length_map]; rfl) | simp [PX.get]), (by first | rfl | (simp only [List.length_map]; rfl) | simp [PX.get]), (by first | rfl | (simp only [List.length_map]; rfl) | simp [PX.get]), (by first | rfl | (simp only [List.length_map]; rfl) | simp [PX.get]), trivial⟩), rfl, hQ1 _ ⟨hk, hrest⟩⟩
 ·rintro n ⟨hk, _⟩
  rw [List.foldl_nil] at hk
  rw [hk]
  conv=>whnf
  rw [h0]
  exact RetA_view 0 rfl ⟨⟨rfl, rfl⟩, rfl⟩
end Go.PX
namespace Go.PX
open Go.Proofs
def windL (k : Nat) (n : Int) : List Int := (List.range k).map fun (i : Nat) => ((i : Int) + 1) * n
def windV (x : LLamp) (l : LLight) : List Int := if longE x l = 0 then windL ((x.night - 1).tdiv (longV x l)).toNat (longV x l) else []
theorem windL_succ (k : Nat) (n : Int) : windL (k + 1) n = windL k n ++ [((k : Int) + 1) * n] := by
 unfold windL
 rw [List.range_succ, List.map_append]; rfl
theorem windL_len (k : Nat) (n : Int) : (windL k n).length = k := by simp [windL]
theorem longF_rng {x : LLamp} {ps : List LPhase} (h : LampR x) : 1 ≤ longF x ps ∧ longF x ps ≤ x.night := by
 have hn := h.night
 unfold longF
 have key : ∀ (l : List (LTruth × List Bool)) (n : Int), 1 ≤ n ∧ n ≤ x.night → 1 ≤ l.foldl (longStep ps) n ∧ l.foldl (longStep ps) n ≤ x.night := by
  intro l
  induction l with
  | nil => exact fun n h => h
  | cons p r ih =>
   intro n hn
   rw [List.foldl_cons]
   refine ih _ ?_
   unfold longStep
   split
   ·rename_i h1
    have := failsF_lo h1
    omega
   ·exact hn
 exact key _ _ ⟨hn.1, Int.le_refl _⟩
theorem long_ok {x : LLamp} {l : LLight} (h : longE x l = 0) : LampR x ∧ LightR l := by
 obtain ⟨h1, h2⟩ := entr_ok h
 exact ⟨(checkL_ok h1).lamp, h2 l (by simp)⟩
set_option maxHeartbeats 1000000 in
theorem la39 (x : LLamp) (l : LLight) : FnV Tryz.prog 10 [x.d, l.d] (.tup [intsD (windV x l), i64 (longE x l)]) := by
 refine fnV_of mixed tysOk Tryz.func10 rfl (ft := ft10) 2 (by decide +kernel) (by rfl) fun {σ} Y st => ?_
 conv=>whnf
 refine CallA_v (la37 x l) rfl rfl ?_
 conv=>whnf
 by_cases h0 : longE x l = 0
 case neg =>
  have hv : windV x l = [] := by unfold windV; rw [if_neg h0]
  rw [hv]
  refine brk_i (fun _ => ?_) (fun h1 => absurd h1 (by simp [h0]))
  conv=>whnf
  exact RetA_viewR 0 rfl rfl ⟨⟨rfl, rfl⟩, rfl⟩
 have hv : windV x l = windL ((x.night - 1).tdiv (longV x l)).toNat (longV x l) := by unfold windV; rw [if_pos h0]
 have hR := (long_ok h0).1
 have hl := longF_rng (ps := l.phases) hR
 have hlv : longV x l = longF x l.phases := by unfold longV; rw [if_pos h0]
 rw [← hlv] at hl
 rw [hv]
 have hn := hR.night
 refine brk_i (fun h1 => absurd h1 (by simp [h0])) (fun _ => ?_)
 conv=>whnf
 refine arith_in (wrap_i64 (by (try dsimp only); omega)) ?_
 conv=>whnf
 refine chk_i (decide_eq_true (by omega)) ?_
 conv=>whnf
 have hq : 0 ≤ (x.night - 1).tdiv (longV x l) ∧ (x.night - 1).tdiv (longV x l) * longV x l ≤ x.night - 1 := by
  rw [Int.tdiv_eq_ediv_of_nonneg (by omega)]
  exact ⟨Int.ediv_nonneg (by omega) (by omega), Int.ediv_mul_le _ (by omega)⟩
 have hq2 : (x.night - 1).tdiv (longV x l) ≤ 200 := by
  rw [Int.tdiv_eq_ediv_of_nonneg (by omega)]
  have := Int.ediv_le_self (a := x.night - 1) (longV x l) (by omega)
  omega
 generalize (x.night - 1).tdiv (longV x l) = k at hq hq2
 generalize longV x l = n at hl hq
 obtain ⟨K, rfl⟩ := Int.eq_ofNat_of_zero_le hq.1
 refine arith_in (wrap_i64 (by (try dsimp only); omega)) ?_
 conv=>whnf
 refine LoopA_p (T := tys) tysOk (by exact drawsB_spec mixed tysOk (by decide +kernel)) (α := Nat)
  (fun i => ⟨[(4, .sl 31 1 0 i), (5, .d (i64 (longE x l))), (6, .d (i64 n)), (21, .d (i64 K)), (22, .d (i64 i))], [(31, .arr 1 (.dd ((windL i n).map fun n => [i64 n])))], st⟩) (fun i => i ≤ K) (fun i => K - i) 0 ((Wk.born 4 31 1 rfl rfl rfl).trans (Wk.sub ⟨(by first | rfl | (simp only [List.length_map]; rfl) | simp [PX.get]), (by first | rfl | (simp only [List.length_map]; rfl) | simp [PX.get]), (by first | rfl | (simp only [List.length_map]; rfl) | simp [PX.get]), (by first | rfl | (simp only [List.length_map]; rfl) | simp [PX.get]), (by first | rfl | (simp only [List.length_map]; rfl) | simp [PX.get]), trivial⟩ ⟨(by first | rfl | (simp only [List.length_map]; rfl) | simp [PX.get]), trivial⟩)) (Nat.zero_le _) ?_
 intro i hi
 have hil : (windL i n).length = i := windL_len i n
 conv=>whnf
 refine brk_i (fun h1 => ?_) (fun h1 => ?_)
 ·have h1 : i < K := by have := of_decide_eq_true h1; omega
  have hm0 : 0 ≤ ((i : Int) + 1) * n := Int.mul_nonneg (by omega) (by omega)
  have hm : ((i : Int) + 1) * n ≤ x.night - 1 := Int.le_trans (Int.mul_le_mul_of_nonneg_right (by omega) (by omega)) hq.2
  conv=>whnf
  refine arith_in (wrap_i64 (by (try dsimp only); omega)) ?_
  conv=>whnf
  refine arith_in (wrap_i64 (by omega)) ?_
  conv=>whnf
  refine ownK_whole rfl ?_
  conv=>whnf
  refine ownK_whole (by simp [Els.len, hil]) ?_
  conv=>whnf
  refine chk_i (decide_eq_true (by
   show (((windL i n).map fun n => [i64 n]).length + 1) * 8 ≤ 140737488355328
   rw [List.length_map]; omega)) ?_
  conv=>whnf
  refine arith_in (wrap_i64 (by (try dsimp only); omega)) ?_
  conv=>whnf
  refine ⟨i + 1, (by show K - (i + 1) < K - i; omega), (by show i + 1 ≤ K; omega), Wk.sub ⟨?_, rfl, rfl, rfl, rfl, trivial⟩ ⟨?_, trivial⟩⟩
  ·simp [PX.get, Els.len, hil]
  ·rw [windL_succ]; simp [PX.get]
 ·have h1 : i = K := by have := of_decide_eq_false h1; omega
  subst h1
  conv=>whnf
  rw [h0]
  exact RetA_view 1 (ds := [intsD (windL i n), i64 0]) (viewL_cons (viewV_sl rfl (by simp [hil])) rfl) ⟨⟨rfl, rfl⟩, rfl⟩
end Go.PX
namespace Go.PX
open Go.Proofs
def narrowF (s : Span) (lo hi wide : Int) : Int := if spread lo hi [s] 0 = 0 then (if s.hi - s.lo > wide then 2 else 0) else spread lo hi [s] 0
theorem spread1 {s : Span} {lo hi : Int} : spread lo hi [s] 0 = if inB s.lo lo hi && inB s.hi lo hi then (if s.lo > s.hi then 2 else 0) else 7 := rfl
theorem la104 (s : Span) (lo hi wide : Int) (h : -1000000 ≤ lo ∧ hi ≤ 1000000) : FnV Tryz.prog 61 [s.d, i64 lo, i64 hi, i64 wide] (i64 (narrowF s lo hi wide)) := by
 refine fnV_of mixed tysOk Tryz.func61 rfl (ft := ft61) 4 (by decide +kernel) (by rfl) fun {σ} Y st => ?_
 conv=>whnf
 refine CallA_v (fn90 s lo hi) rfl rfl ?_
 conv=>whnf
 unfold narrowF
 refine brk_i (fun h0 => ?_) (fun h0 => ?_)
 ·have h0 : spread lo hi [s] 0 = 0 := by simpa using h0
  rw [if_pos h0]
  have hb : inB s.lo lo hi = true ∧ inB s.hi lo hi = true := by
   rw [spread1] at h0
   split at h0
   ·rename_i h1; simpa using h1
   ·cases h0
  rw [inB_iff, inB_iff] at hb
  refine arith_to (s.hi - s.lo) (by simp) (wrap_i64 (by omega)) ?_
  conv=>whnf
  refine brk_i (fun h1 => ?_) (fun h1 => ?_)
  ·have h1 : s.hi - s.lo > wide := by simpa using h1
   rw [if_pos h1]
   conv=>whnf
   exact RetA_view 0 rfl ⟨⟨rfl, rfl⟩, rfl⟩
  ·have h1 : ¬ s.hi - s.lo > wide := by simpa using h1
   rw [if_neg h1]
   conv=>whnf
   rw [h0]
   exact RetA_view 0 rfl ⟨⟨rfl, rfl⟩, rfl⟩
 ·have h0 : ¬ spread lo hi [s] 0 = 0 := by simpa using h0
  rw [if_neg h0]
  conv=>whnf
  exact RetA_view 0 rfl ⟨⟨rfl, rfl⟩, rfl⟩
theorem narrow_eq (s : Span) (lo hi wide : Int) : narrowF s lo hi wide = if inB s.lo lo hi && inB s.hi lo hi then (if inB (s.hi - s.lo) 0 wide then 0 else 2) else 7 := by
 unfold narrowF
 rw [spread1]
 by_cases h1 : (inB s.lo lo hi && inB s.hi lo hi) = true
 ·rw [if_pos h1, if_pos h1]
  by_cases h2 : s.lo > s.hi
  ·have : ¬ inB (s.hi - s.lo) 0 wide = true := by rw [inB_iff]; omega
   rw [if_pos h2, if_neg this]; rfl
  ·rw [if_neg h2, if_pos rfl]
   by_cases h3 : s.hi - s.lo > wide
   ·have : ¬ inB (s.hi - s.lo) 0 wide = true := by rw [inB_iff]; omega
    rw [if_pos h3, if_neg this]
   ·have : inB (s.hi - s.lo) 0 wide = true := by rw [inB_iff]; omega
    rw [if_neg h3, if_pos this]
 ·rw [if_neg h1, if_neg h1]; rfl
def sectE (drum last : Int) (x : Span) : Int := if inB x.lo 0 (drum - 1) && inB x.hi 0 (drum - 1) then (if x.lo > x.hi || x.lo ≤ last then 2 else 0) else 7
theorem litF_step {drum last : Int} {x : Span} {r : List Span} {i : Int} : litF drum last (x :: r) i = if sectE drum last x = 0 then litF drum x.hi r (i + 1) else (i, sectE drum last x) := by
 rw [litF, sectE]
 split
 ·split <;> simp
 ·simp
theorem la62 (x : LLamp) : FnV Tryz.prog 15 [x.d] (tri (wheelF x)) := by
 refine fnV_of mixed tysOk Tryz.func15 rfl (ft := ft15) 1 (by decide +kernel) (by rfl) fun {σ} Y st => ?_
 conv=>whnf
 refine CallA_v (fn55 x.drum 2 120) rfl rfl ?_
 conv=>whnf
 unfold wheelF
 cases h1 : inB x.drum 2 120 with
 | false =>
  conv=>whnf
  exact RetA_view 0 rfl ⟨⟨rfl, rfl⟩, rfl⟩
 | true =>
 conv=>whnf
 refine CallA_v (fn55 x.slow 1 200) rfl rfl ?_
 conv=>whnf
 cases h2 : inB x.slow 1 200 with
 | false =>
  conv=>whnf
  exact RetA_view 0 rfl ⟨⟨rfl, rfl⟩, rfl⟩
 | true =>
 conv=>whnf
 refine CallA_v (fn55 x.night 1 200) rfl rfl ?_
 conv=>whnf
 cases h3 : inB x.night 1 200 with
 | false =>
  conv=>whnf
  exact RetA_view 0 rfl ⟨⟨rfl, rfl⟩, rfl⟩
 | true =>
 simp only [Bool.and_self, if_true]
 rw [inB_iff] at h1 h2 h3
 conv=>whnf
 refine brk_i (fun h4 => ?_) (fun h4 => ?_)
 ·have h4 : 4 < x.lit.length := by have := of_decide_eq_true h4; simp at this; omega
  rw [if_pos h4]
  conv=>whnf
  exact RetA_view 0 rfl ⟨⟨rfl, rfl⟩, rfl⟩
 have h4 : ¬ 4 < x.lit.length := by have := of_decide_eq_false h4; simp at this; omega
 rw [if_neg h4]
 conv=>whnf
 refine LoopA_i (T := tys) tysOk (by exact drawsB_spec mixed tysOk (by decide +kernel)) x.lit (fun i (last : Int) => ⟨[(1, .ptr 1 0), (5, .d (i64 i))], [(1, .box (.dd x.cells))], st⟩)
  (fun i r last => litF x.drum (-1) x.lit 0 = litF x.drum last r i ∧ (i = 0 ∧ last = -1 ∨ 0 < i ∧ ∃ y, x.lit[i - 1]? = some y ∧ last = y.hi)) (-1) (Wk.sub ⟨(by first | rfl | (simp only [List.length_map]; rfl) | simp [PX.get]), (by first | rfl | (simp only [List.length_map]; rfl) | simp [PX.get]), trivial⟩ ⟨(by first | rfl | (simp only [List.length_map]; rfl) | simp [PX.get]), trivial⟩) ⟨rfl, .inl ⟨rfl, rfl⟩⟩ ?_ ?_
 ·intro i y r last hx hi hr ⟨he, hla⟩
  rw [litF_step] at he
  have hnext : (i + 1 = 0 ∧ y.hi = -1 ∨ 0 < i + 1 ∧ ∃ z, x.lit[i + 1 - 1]? = some z ∧ y.hi = z.hi) := .inr ⟨by omega, y, by rw [Nat.add_sub_cancel]; exact hx, rfl⟩
  conv=>whnf
  refine brk_i (fun _ => ?_) (fun h => absurd hi (by simpa using h))
  conv=>whnf
  refine elemK_nat hx ?_
  conv=>whnf
  refine arith_in (wrap_i64 (by (try dsimp only); omega)) ?_
  conv=>whnf
  refine DrawCall_v (fn90 y 0 (x.drum - 1)) rfl rfl ?_
  conv=>whnf
  rw [spread1]
  by_cases h5 : (inB y.lo 0 (x.drum - 1) && inB y.hi 0 (x.drum - 1)) = true
  case neg =>
   have ho : sectE x.drum last y = 7 := by unfold sectE; rw [if_neg h5]
   rw [ho, if_neg (by decide)] at he
   rw [if_neg h5]
   conv=>whnf
   rw [he]
   exact RetA_view 0 rfl ⟨⟨rfl, rfl⟩, rfl⟩
  rw [if_pos h5]
  by_cases h6 : y.lo > y.hi
  ·have ho : sectE x.drum last y = 2 := by unfold sectE; rw [if_pos h5, if_pos (by simp [h6])]
   rw [ho, if_neg (by decide)] at he
   rw [if_pos h6]
   conv=>whnf
   rw [he]
   exact RetA_view 0 rfl ⟨⟨rfl, rfl⟩, rfl⟩
  rw [if_neg h6]
  conv=>whnf
  refine brk_i (fun h7 => ?_) (fun h7 => ?_)
  ·have h7 : 0 < i := by simpa using h7
   rcases hla with ⟨h0, _⟩ | ⟨_, z, hz, hzl⟩
   ·omega
   subst hzl
   conv=>whnf
   refine elemK_nat hx ?_
   conv=>whnf
   refine arith_to ((i - 1 : Nat) : Int) (by omega) (wrap_i64 (by omega)) ?_
   conv=>whnf
   refine elemK_nat hz ?_
   conv=>whnf
   refine brk_i (fun h8 => ?_) (fun h8 => ?_)
   ·have h8 : y.lo ≤ z.hi := by simpa using h8
    have ho : sectE x.drum z.hi y = 2 := by unfold sectE; rw [if_pos h5, if_pos (by simp [h8])]
    rw [ho, if_neg (by decide)] at he
    conv=>whnf
    rw [he]
    exact RetA_view 0 rfl ⟨⟨rfl, rfl⟩, rfl⟩
   ·have h8 : ¬ y.lo ≤ z.hi := by simpa using h8
    have ho : sectE x.drum z.hi y = 0 := by unfold sectE; rw [if_pos h5, if_neg (by simp [h8, h6])]
    rw [ho, if_pos rfl] at he
    conv=>whnf
    refine arith_in (wrap_i64 (by (try dsimp only); omega)) ?_
    conv=>whnf
    exact ⟨y.hi, ⟨he, hnext⟩, (Wk.sub ⟨(by first | rfl | (simp only [List.length_map]; rfl) | simp [PX.get]), (by first | rfl | (simp only [List.length_map]; rfl) | simp [PX.get]), trivial⟩ ⟨(by first | rfl | (simp only [List.length_map]; rfl) | simp [PX.get]), trivial⟩)⟩
  ·have h7 : i = 0 := by have := of_decide_eq_false h7; omega
   rcases hla with ⟨_, hl⟩ | ⟨h0, _⟩
   ·have h5' := h5
    simp only [Bool.and_eq_true, inB_iff] at h5'
    have ho : sectE x.drum last y = 0 := by unfold sectE; rw [if_pos h5, if_neg (by simp [h6]; omega)]
    rw [ho, if_pos rfl] at he
    conv=>whnf
    refine arith_in (wrap_i64 (by (try dsimp only); omega)) ?_
    conv=>whnf
    exact ⟨y.hi, ⟨he, hnext⟩, (Wk.sub ⟨(by first | rfl | (simp only [List.length_map]; rfl) | simp [PX.get]), (by first | rfl | (simp only [List.length_map]; rfl) | simp [PX.get]), trivial⟩ ⟨(by first | rfl | (simp only [List.length_map]; rfl) | simp [PX.get]), trivial⟩)⟩
   ·omega
 ·intro last ⟨he, _⟩
  rw [litF] at he
  rw [he]
  simp only [if_true]
  conv=>whnf
  refine brk_i (fun h => absurd h (by simp)) (fun _ => ?_)
  conv=>whnf
  refine arith_in (wrap_i64 (by (try dsimp only); omega)) ?_
  conv=>whnf
  refine DrawCall_v (la104 x.start 0 (x.drum - 1) 12 (by omega)) rfl rfl ?_
  conv=>whnf
  refine DrawCall_v (la104 x.speed 1 40 4 (by omega)) rfl rfl ?_
  conv=>whnf
  have ht : (if (inB x.start.lo 0 (x.drum - 1) && inB x.start.hi 0 (x.drum - 1)) && (inB x.speed.lo 1 40 && inB x.speed.hi 1 40) then
    (if inB (x.start.hi - x.start.lo) 0 12 && inB (x.speed.hi - x.speed.lo) 0 4 then ((0, 0, 0) : Int × Int × Int) else (3, 0, 2)) else (3, 0, 7)) =
    if narrowF x.start 0 (x.drum - 1) 12 = 7 ∨ narrowF x.speed 1 40 4 = 7 then (3, 0, 7) else if narrowF x.start 0 (x.drum - 1) 12 ≠ 0 ∨ narrowF x.speed 1 40 4 ≠ 0 then (3, 0, 2) else (0, 0, 0) := by
   rw [narrow_eq, narrow_eq]
   by_cases q1 : (inB x.start.lo 0 (x.drum - 1) && inB x.start.hi 0 (x.drum - 1)) = true <;> by_cases q2 : (inB x.speed.lo 1 40 && inB x.speed.hi 1 40) = true <;>
    by_cases q3 : inB (x.start.hi - x.start.lo) 0 12 = true <;> by_cases q4 : inB (x.speed.hi - x.speed.lo) 0 4 = true <;> simp [q1, q2, q3, q4]
  rw [ht]
  generalize narrowF x.start 0 (x.drum - 1) 12 = A
  generalize narrowF x.speed 1 40 4 = B
  by_cases hA7 : A = 7
  ·rw [if_pos (.inl hA7)]
   rw [decide_eq_true hA7]
   conv=>whnf
   exact RetA_view 0 rfl ⟨⟨rfl, rfl⟩, rfl⟩
  rw [decide_eq_false hA7]
  conv=>whnf
  by_cases hB7 : B = 7
  ·rw [if_pos (.inr hB7)]
   rw [decide_eq_true hB7]
   conv=>whnf
   exact RetA_view 0 rfl ⟨⟨rfl, rfl⟩, rfl⟩
  rw [decide_eq_false hB7, if_neg (fun h => h.elim hA7 hB7)]
  conv=>whnf
  by_cases hA0 : A = 0
  case neg =>
   rw [if_pos (.inl hA0), decide_eq_false hA0]
   conv=>whnf
   exact RetA_view 0 rfl ⟨⟨rfl, rfl⟩, rfl⟩
  rw [decide_eq_true hA0]
  conv=>whnf
  by_cases hB0 : B = 0
  case neg =>
   rw [if_pos (.inr hB0), decide_eq_false hB0]
   conv=>whnf
   exact RetA_view 0 rfl ⟨⟨rfl, rfl⟩, rfl⟩
  rw [decide_eq_true hB0, if_neg (fun h => h.elim (fun h => h hA0) (fun h => h hB0))]
  conv=>whnf
  exact RetA_view 0 rfl ⟨⟨rfl, rfl⟩, rfl⟩
end Go.PX
namespace Go.PX
open Go.Proofs
set_option maxHeartbeats 1000000 in
theorem la16 (c : LCase) : FnV Tryz.prog 4 [c.d] (tri (checkL c)) := by
 refine fnV_of mixed tysOk Tryz.func4 rfl (ft := ft4) 1 (by decide +kernel) (by rfl) fun {σ} Y st => ?_
 conv=>whnf
 refine CallA_v (la62 c.lamp) rfl rfl ?_
 conv=>whnf
 unfold checkL
 refine brk_i (fun h1 => ?_) (fun h1 => ?_)
 ·have h1 : ¬ (wheelF c.lamp).2.2 = 0 := by simpa using h1
  conv=>whnf
  rw [if_neg h1]
  exact RetA_view 0 rfl ⟨⟨rfl, rfl⟩, rfl⟩
 have h1 : (wheelF c.lamp).2.2 = 0 := by simpa using h1
 rw [if_pos h1]
 have hR := wheel_ok h1
 have hn := hR.night
 conv=>whnf
 refine arith_in (wrap_i64 (by (try dsimp only); omega)) ?_
 conv=>whnf
 refine brk_i (fun h2 => ?_) (fun h2 => ?_)
 ·have h2 : 2 < c.windings.length := by have := of_decide_eq_true h2; simp at this; omega
  conv=>whnf
  rw [if_pos h2]
  exact RetA_view 0 rfl ⟨⟨rfl, rfl⟩, rfl⟩
 have h2 : ¬ 2 < c.windings.length := by have := of_decide_eq_false h2; simp at this; omega
 rw [if_neg h2]
 conv=>whnf
 refine LoopA_i (T := tys) tysOk (by exact drawsB_spec mixed tysOk (by decide +kernel)) c.windings (fun i (last : Int) => ⟨[(1, .ptr 1 0), (8, .d (i64 (c.lamp.night - 1))), (9, .d (i64 i))], [(1, .box (.dd c.cells))], st⟩)
  (fun i r last => windF c.lamp.night 0 c.windings 0 = windF c.lamp.night last r i ∧ (i = 0 ∧ last = 0 ∨ 0 < i ∧ c.windings[i - 1]? = some last)) 0 (Wk.sub ⟨(by first | rfl | (simp only [List.length_map]; rfl) | simp [PX.get]), (by first | rfl | (simp only [List.length_map]; rfl) | simp [PX.get]), (by first | rfl | (simp only [List.length_map]; rfl) | simp [PX.get]), trivial⟩ ⟨(by first | rfl | (simp only [List.length_map]; rfl) | simp [PX.get]), trivial⟩) ⟨rfl, .inl ⟨rfl, rfl⟩⟩ ?_ ?_
 ·intro i s r last hx hi hr ⟨he, hla⟩
  rw [windF] at he
  have hnext : (i + 1 = 0 ∧ s = 0 ∨ 0 < i + 1 ∧ c.windings[i + 1 - 1]? = some s) := .inr ⟨by omega, by rw [Nat.add_sub_cancel]; exact hx⟩
  conv=>whnf
  refine brk_i (fun _ => ?_) (fun h => absurd hi (by simpa using h))
  conv=>whnf
  refine elemK_nat hx ?_
  conv=>whnf
  refine CallA_v (fn55 s 1 (c.lamp.night - 1)) rfl rfl ?_
  conv=>whnf
  by_cases h3 : inB s 1 (c.lamp.night - 1) = true
  case neg =>
   have h3 : inB s 1 (c.lamp.night - 1) = false := by simpa using h3
   rw [h3] at he ⊢
   rw [if_neg (by simp)] at he
   conv=>whnf
   rw [he]
   exact RetA_view 0 rfl ⟨⟨rfl, rfl⟩, rfl⟩
  have h3' := h3
  rw [inB_iff] at h3'
  rw [h3] at he ⊢
  rw [if_pos rfl] at he
  conv=>whnf
  refine brk_i (fun h7 => ?_) (fun h7 => ?_)
  ·have h7 : 0 < i := by simpa using h7
   rcases hla with ⟨h0, _⟩ | ⟨_, hz⟩
   ·omega
   conv=>whnf
   refine elemK_nat hx ?_
   conv=>whnf
   refine arith_to ((i - 1 : Nat) : Int) (by omega) (wrap_i64 (by omega)) ?_
   conv=>whnf
   refine elemK_nat hz ?_
   conv=>whnf
   refine brk_i (fun h8 => ?_) (fun h8 => ?_)
   ·have h8 : s ≤ last := by simpa using h8
    rw [if_pos h8] at he
    conv=>whnf
    rw [he]
    exact RetA_view 0 rfl ⟨⟨rfl, rfl⟩, rfl⟩
   ·have h8 : ¬ s ≤ last := by simpa using h8
    rw [if_neg h8] at he
    conv=>whnf
    refine arith_in (wrap_i64 (by (try dsimp only); omega)) ?_
    conv=>whnf
    exact ⟨s, ⟨he, hnext⟩, (Wk.sub ⟨(by first | rfl | (simp only [List.length_map]; rfl) | simp [PX.get]), (by first | rfl | (simp only [List.length_map]; rfl) | simp [PX.get]), (by first | rfl | (simp only [List.length_map]; rfl) | simp [PX.get]), trivial⟩ ⟨(by first | rfl | (simp only [List.length_map]; rfl) | simp [PX.get]), trivial⟩)⟩
  ·have h7 : i = 0 := by have := of_decide_eq_false h7; omega
   rcases hla with ⟨_, hl⟩ | ⟨h0, _⟩
   ·rw [if_neg (by omega)] at he
    conv=>whnf
    refine arith_in (wrap_i64 (by (try dsimp only); omega)) ?_
    conv=>whnf
    exact ⟨s, ⟨he, hnext⟩, (Wk.sub ⟨(by first | rfl | (simp only [List.length_map]; rfl) | simp [PX.get]), (by first | rfl | (simp only [List.length_map]; rfl) | simp [PX.get]), (by first | rfl | (simp only [List.length_map]; rfl) | simp [PX.get]), trivial⟩ ⟨(by first | rfl | (simp only [List.length_map]; rfl) | simp [PX.get]), trivial⟩)⟩
   ·omega
 ·intro last ⟨he, _⟩
  simp only [windF] at he
  rw [he]
  simp only [if_true]
  conv=>whnf
  refine brk_i (fun h => absurd h (by simp)) (fun _ => ?_)
  conv=>whnf
  refine brk_i (fun h5 => ?_) (fun h5 => ?_)
  ·have h5 : 8 < c.sights.length := by have := of_decide_eq_true h5; simp at this; omega
   conv=>whnf
   rw [if_pos h5]
   exact RetA_view 0 rfl ⟨⟨rfl, rfl⟩, rfl⟩
  have h5 : ¬ 8 < c.sights.length := by have := of_decide_eq_false h5; simp at this; omega
  rw [if_neg h5]
  conv=>whnf
  refine LoopA_i (T := tys) tysOk (by exact drawsB_spec mixed tysOk (by decide +kernel)) c.sights (fun i (_ : Unit) => ⟨[(1, .ptr 1 0), (8, .d (i64 (c.lamp.night - 1))), (10, .d (i64 i))], [(1, .box (.dd c.cells))], st⟩)
   (fun i r _ => sightF c.lamp.night c.sights 0 = sightF c.lamp.night r i) () (Wk.sub ⟨(by first | rfl | (simp only [List.length_map]; rfl) | simp [PX.get]), (by first | rfl | (simp only [List.length_map]; rfl) | simp [PX.get]), (by first | rfl | (simp only [List.length_map]; rfl) | simp [PX.get]), trivial⟩ ⟨(by first | rfl | (simp only [List.length_map]; rfl) | simp [PX.get]), trivial⟩) rfl ?_ ?_
  ·intro i s r _ hx hi hr he
   rw [sightF] at he
   conv=>whnf
   refine brk_i (fun _ => ?_) (fun h => absurd hi (by simpa using h))
   conv=>whnf
   refine elemK_nat hx ?_
   conv=>whnf
   refine CallA_v (fn55 s.second 0 (c.lamp.night - 1)) rfl rfl ?_
   conv=>whnf
   by_cases h3 : inB s.second 0 (c.lamp.night - 1) = true
   case neg =>
    have h3 : inB s.second 0 (c.lamp.night - 1) = false := by simpa using h3
    rw [h3] at he ⊢
    rw [if_neg (by simp)] at he
    conv=>whnf
    rw [he]
    exact RetA_view 0 rfl ⟨⟨rfl, rfl⟩, rfl⟩
   rw [h3] at he ⊢
   rw [if_pos rfl] at he
   conv=>whnf
   refine arith_in (wrap_i64 (by (try dsimp only); omega)) ?_
   conv=>whnf
   exact ⟨(), he, (Wk.sub ⟨(by first | rfl | (simp only [List.length_map]; rfl) | simp [PX.get]), (by first | rfl | (simp only [List.length_map]; rfl) | simp [PX.get]), (by first | rfl | (simp only [List.length_map]; rfl) | simp [PX.get]), trivial⟩ ⟨(by first | rfl | (simp only [List.length_map]; rfl) | simp [PX.get]), trivial⟩)⟩
  ·intro _ he
   simp only [sightF] at he
   rw [he]
   simp only [if_true]
   conv=>whnf
   refine brk_i (fun h => absurd h (by simp)) (fun _ => ?_)
   conv=>whnf
   exact RetA_view 0 rfl ⟨⟨rfl, rfl⟩, rfl⟩
end Go.PX
namespace Go.PX
open Go.Proofs
def spansOf (l : List LPhase) : List Span := l.flatMap fun p => [p.flash, p.dark]
theorem spread_eq {lo hi : Int} : ∀ {l : List Span} {e : Int}, spread lo hi l e = if l.all (fun s => inB s.lo lo hi && inB s.hi lo hi) then (if l.any (fun s => decide (s.lo > s.hi)) then (if e = e then 2 else 2) else e) else 7
 | [], e => rfl
 | s :: r, e => by
  rw [spread, List.all_cons, List.any_cons, spread_eq]
  by_cases h1 : (inB s.lo lo hi && inB s.hi lo hi) = true
  ·rw [if_pos h1, h1, Bool.true_and]
   by_cases h2 : s.lo > s.hi
   ·simp [h2]
   ·simp [h2]
  ·rw [if_neg h1]
   have h1 : (inB s.lo lo hi && inB s.hi lo hi) = false := by simpa using h1
   rw [h1]; rfl
theorem spread_phases (l : List LPhase) : spread 1 200 (spansOf l) 0 = if l.any (fun p => !phaseIn p) then 7 else if l.any phaseUp then 2 else 0 := by
 rw [spread_eq]
 have h1 : ∀ l : List LPhase, (spansOf l).all (fun s => inB s.lo 1 200 && inB s.hi 1 200) = !l.any (fun p => !phaseIn p) := by
  intro l
  induction l with
  | nil => rfl
  | cons p r ih =>
   have : spansOf (p :: r) = p.flash :: p.dark :: spansOf r := rfl
   rw [this, List.all_cons, List.all_cons, ih, List.any_cons, phaseIn]
   cases inB p.flash.lo 1 200 <;> cases inB p.flash.hi 1 200 <;> cases inB p.dark.lo 1 200 <;> cases inB p.dark.hi 1 200 <;> simp
 have h2 : ∀ l : List LPhase, (spansOf l).any (fun s => decide (s.lo > s.hi)) = l.any phaseUp := by
  intro l
  induction l with
  | nil => rfl
  | cons p r ih =>
   have : spansOf (p :: r) = p.flash :: p.dark :: spansOf r := rfl
   rw [this, List.any_cons, List.any_cons, ih, List.any_cons, phaseUp, Bool.or_assoc]
 rw [h1, h2]
 cases l.any (fun p => !phaseIn p) <;> simp
theorem spansOf_append (a : List LPhase) (p : LPhase) : spansOf (a ++ [p]) = spansOf a ++ [p.flash, p.dark] := by simp [spansOf]
theorem spansOf_len : ∀ l : List LPhase, (spansOf l).length = 2 * l.length
 | [] => rfl
 | p :: r => by
  have : spansOf (p :: r) = p.flash :: p.dark :: spansOf r := rfl
  rw [this]; simp only [List.length_cons, spansOf_len r]; omega
set_option maxHeartbeats 1000000 in
theorem la71 (l : List LPhase) : FnV Tryz.prog 18 [phasesD l] (i64 (phasesF l)) := by
 refine fnV_of mixed tysOk Tryz.func18 rfl (ft := ft18) 1 (by decide +kernel) (by rfl) fun {σ} Y st => ?_
 conv=>whnf
 refine CallA_view (fn55 l.length 1 3) rfl 1 (by simp; rfl) ?_
 conv=>whnf
 unfold phasesF
 by_cases h0 : inB l.length 1 3 = true
 case neg =>
  have h0 : inB l.length 1 3 = false := by simpa using h0
  rw [h0]
  conv=>whnf
  exact RetA_view 0 rfl ⟨⟨rfl, rfl⟩, rfl⟩
 rw [h0]
 rw [inB_iff] at h0
 simp only [if_true]
 conv=>whnf
 refine LoopA_i (T := tys) tysOk (by exact drawsB_spec mixed tysOk (by decide +kernel)) l (fun i (acc : List LPhase) => ⟨[(0, .d (phasesD l)), (3, .sl 27 2 0 (spansOf acc).length), (4, .d (i64 i))], [(27, .arr 2 (.dd ((spansOf acc).map Span.cells)))], st⟩)
  (fun i r acc => l = acc ++ r ∧ acc.length = i) [] ((Wk.born 3 27 2 rfl rfl rfl).trans (Wk.sub ⟨(by first | rfl | (simp only [List.length_map]; rfl) | simp [PX.get]), (by first | rfl | (simp only [List.length_map]; rfl) | simp [PX.get]), (by first | rfl | (simp only [List.length_map]; rfl) | simp [PX.get]), trivial⟩ ⟨(by first | rfl | (simp only [List.length_map]; rfl) | simp [PX.get]), trivial⟩)) ⟨rfl, rfl⟩ ?_ ?_
 ·intro i p r acc hx hi hr ⟨he, hal⟩
  have hsl := spansOf_len acc
  conv=>whnf
  refine brk_i (fun _ => ?_) (fun h => absurd hi (by simpa using h))
  conv=>whnf
  refine elemK_nat hx ?_
  conv=>whnf
  refine elemK_nat hx ?_
  conv=>whnf
  refine ownK_whole rfl ?_
  conv=>whnf
  refine ownK_whole (by simp [Els.len]) ?_
  conv=>whnf
  refine chk_i (decide_eq_true (by
   show (((spansOf acc).map Span.cells).length + 2) * 16 ≤ 140737488355328
   rw [List.length_map]; omega)) ?_
  conv=>whnf
  refine arith_in (wrap_i64 (by (try dsimp only); omega)) ?_
  conv=>whnf
  refine ⟨acc ++ [p], ⟨by rw [he]; simp, by simp [hal]⟩, Wk.sub ⟨rfl, ?_, rfl, trivial⟩ ⟨?_, trivial⟩⟩
  ·simp [PX.get, Els.len, spansOf_append]
  ·simp [PX.get, spansOf_append]; exact ⟨rfl, rfl⟩
 ·intro acc ⟨he, hal⟩
  rw [List.append_nil] at he
  subst he
  have hsl := spansOf_len l
  conv=>whnf
  refine brk_i (fun h => absurd h (by simp)) (fun _ => ?_)
  conv=>whnf
  refine CallA_view (ds := [spansD (spansOf l), i64 1, i64 200]) (fn111 (spansOf l) 1 200 (by omega)) rfl 1 (viewL_cons (viewV_sl rfl (by simp)) rfl) ?_
  conv=>whnf
  rw [spread_phases]
  exact RetA_view 0 rfl ⟨⟨rfl, rfl⟩, rfl⟩
theorem lightF_eq (b : List LLight) (x : LLight) : lightF b x = if freshF x.name (b.map (·.name)) = 0 then phasesF x.phases else freshF x.name (b.map (·.name)) := by
 unfold lightF freshF
 rw [List.any_map]
 by_cases h1 : nameF x.name = true
 ·rw [if_pos h1, if_pos h1]
  by_cases h2 : b.any (fun y => decide (y.name = x.name)) = true
  ·have h3 : (b.any ((fun y => decide (y = x.name)) ∘ fun x => x.name)) = true := h2
   rw [if_pos h2, h3]; rfl
  ·have h3 : (b.any ((fun y => decide (y = x.name)) ∘ fun x => x.name)) = false := by simpa using h2
   rw [if_neg h2, h3]; rfl
 ·rw [if_neg h1, if_neg h1]; rfl
set_option maxHeartbeats 1000000 in
theorem la18 (l : List LLight) : FnV Tryz.prog 5 [lightsD l] (.tup [i64 (lightsF l).1, i64 (lightsF l).2]) := by
 refine fnV_of mixed tysOk Tryz.func5 rfl (ft := ft5) 1 (by decide +kernel) (by rfl) fun {σ} Y st => ?_
 conv=>whnf
 refine CallA_view (fn55 l.length 1 6) rfl 1 (by simp; rfl) ?_
 conv=>whnf
 unfold lightsF
 by_cases h0 : inB l.length 1 6 = true
 case neg =>
  have h0 : inB l.length 1 6 = false := by simpa using h0
  rw [h0]
  conv=>whnf
  exact RetA_view 0 rfl ⟨⟨rfl, rfl⟩, rfl⟩
 rw [h0]
 rw [inB_iff] at h0
 simp only [if_true]
 conv=>whnf
 refine LoopA_i (T := tys) tysOk (by exact drawsB_spec mixed tysOk (by decide +kernel)) l (fun i (acc : List LLight) => ⟨[(0, .d (lightsD l)), (4, .sl 31 1 0 acc.length), (5, .d (i64 i))], [(31, .arr 1 (.dd (acc.map fun x => [.str x.name])))], st⟩)
  (fun i r acc => firstE lightF [] l 0 = firstE lightF acc r i ∧ acc.length = i) [] ((Wk.born 4 31 1 rfl rfl rfl).trans (Wk.sub ⟨(by first | rfl | (simp only [List.length_map]; rfl) | simp [PX.get]), (by first | rfl | (simp only [List.length_map]; rfl) | simp [PX.get]), (by first | rfl | (simp only [List.length_map]; rfl) | simp [PX.get]), trivial⟩ ⟨(by first | rfl | (simp only [List.length_map]; rfl) | simp [PX.get]), trivial⟩)) ⟨rfl, rfl⟩ ?_ ?_
 ·intro i x r acc hx hi hr ⟨he, hal⟩
  rw [firstE, lightF_eq] at he
  conv=>whnf
  refine brk_i (fun _ => ?_) (fun h => absurd hi (by simpa using h))
  conv=>whnf
  refine elemK_nat hx ?_
  conv=>whnf
  refine CallA_view (ds := [.str x.name, strsD (acc.map (·.name))]) (fn91 x.name (acc.map (·.name)) (by simp; omega)) rfl 1 (viewL_cons rfl (viewL_cons (viewV_sl' rfl (by simp [Function.comp_def]) (by simp)) rfl)) ?_
  conv=>whnf
  refine elemK_nat hx ?_
  conv=>whnf
  refine ownK_whole rfl ?_
  conv=>whnf
  refine ownK_whole (by simp [Els.len]) ?_
  conv=>whnf
  refine chk_i (decide_eq_true (by
   show ((acc.map fun x => [D.str x.name]).length + 1) * 16 ≤ 140737488355328
   rw [List.length_map]; omega)) ?_
  conv=>whnf
  have hwk : ∀ {e : Env} {h : Heap}, True := fun {_ _} => trivial
  refine brk_i (fun h1 => ?_) (fun h1 => ?_)
  ·have h1 : freshF x.name (acc.map (·.name)) = 0 := by simpa using h1
   rw [if_pos h1] at he
   conv=>whnf
   refine elemK_nat hx ?_
   conv=>whnf
   refine CallA_v (la71 x.phases) rfl rfl ?_
   conv=>whnf
   by_cases h2 : phasesF x.phases = 0
   ·rw [if_pos h2] at he
    refine brk_i (fun h3 => absurd h3 (by simp [h2])) (fun _ => ?_)
    conv=>whnf
    refine arith_in (wrap_i64 (by (try dsimp only); omega)) ?_
    conv=>whnf
    refine ⟨acc ++ [x], ⟨he, by simp [hal]⟩, Wk.sub ⟨rfl, ?_, rfl, trivial⟩ ⟨?_, trivial⟩⟩
    ·simp [PX.get, Els.len]
    ·simp [PX.get]
   ·rw [if_neg h2] at he
    refine brk_i (fun _ => ?_) (fun h3 => absurd h3 (by simp [h2]))
    conv=>whnf
    rw [he]
    exact RetA_view 0 rfl ⟨⟨rfl, rfl⟩, rfl⟩
  ·have h1 : ¬ freshF x.name (acc.map (·.name)) = 0 := by simpa using h1
   rw [if_neg h1, if_neg h1] at he
   conv=>whnf
   refine brk_i (fun _ => ?_) (fun h3 => absurd h3 (by simp [h1]))
   conv=>whnf
   rw [he]
   exact RetA_view 0 rfl ⟨⟨rfl, rfl⟩, rfl⟩
 ·intro acc ⟨he, hal⟩
  rw [firstE] at he
  rw [he]
  conv=>whnf
  refine brk_i (fun h => absurd h (by simp)) (fun _ => ?_)
  conv=>whnf
  exact RetA_view 0 rfl ⟨⟨rfl, rfl⟩, rfl⟩
end Go.PX
namespace Go.PX
open Go.Proofs
end Go.PX
namespace Go.PX
open Go.Proofs
theorem la59 (s : Int) (b : Bool) : FnV Tryz.prog 22 [i64 s, .bool b] (.agg [i64 s, .bool b]) := by
 refine fnV_of mixed tysOk Tryz.func22 rfl (ft := ft22) 2 (by decide +kernel) (by rfl) fun {σ} Y st => ?_
 conv=>whnf
 exact RetA_view 0 rfl ⟨⟨rfl, rfl⟩, rfl⟩
def lampK : LLamp := ⟨12, [⟨0, 2⟩], ⟨0, 1⟩, ⟨1, 2⟩, 100, 24⟩
theorem la41 : FnV Tryz.prog 33 [] lampK.d := by
 refine fnV_of mixed tysOk Tryz.func33 rfl (ft := ft33) 0 (by decide +kernel) (by rfl) fun {σ} Y st => ?_
 conv=>whnf
 refine CallA_v (ds := [i64 0, i64 2]) (fn28 0 2) rfl rfl ?_
 conv=>whnf
 refine CallA_v (ds := [i64 0, i64 1]) (fn28 0 1) rfl rfl ?_
 conv=>whnf
 refine CallA_v (ds := [i64 1, i64 2]) (fn28 1 2) rfl rfl ?_
 conv=>whnf
 exact RetA_view 2 rfl ⟨⟨rfl, rfl⟩, rfl⟩
def caseK (l : List LSight) : LCase := ⟨lampK, [], [⟨3, false⟩, ⟨12, true⟩] ++ l⟩
theorem la42_0 : FnV Tryz.prog 21 [.nils] (caseK []).d := by
 refine fnV_of mixed tysOk Tryz.func21 rfl (ft := ft21) 1 (by decide +kernel) (by rfl) fun {σ} Y st => ?_
 conv=>whnf
 refine CallA_v (la41) rfl rfl ?_
 conv=>whnf
 refine CallA_v (ds := [i64 3, .bool false]) (la59 3 false) rfl rfl ?_
 conv=>whnf
 refine CallA_v (ds := [i64 12, .bool true]) (la59 12 true) rfl rfl ?_
 conv=>whnf
 refine ownK_whole rfl ?_
 conv=>whnf
 exact RetA_viewR 2 rfl rfl ⟨⟨rfl, rfl⟩, rfl⟩
theorem la42_1 : FnV Tryz.prog 21 [.vs [[i64 13, .bool false]]] (caseK [⟨13, false⟩]).d := by
 refine fnV_of mixed tysOk Tryz.func21 rfl (ft := ft21) 1 (by decide +kernel) (by rfl) fun {σ} Y st => ?_
 conv=>whnf
 refine CallA_v (la41) rfl rfl ?_
 conv=>whnf
 refine CallA_v (ds := [i64 3, .bool false]) (la59 3 false) rfl rfl ?_
 conv=>whnf
 refine CallA_v (ds := [i64 12, .bool true]) (la59 12 true) rfl rfl ?_
 conv=>whnf
 refine ownK_whole rfl ?_
 conv=>whnf
 exact RetA_viewR 2 rfl rfl ⟨⟨rfl, rfl⟩, rfl⟩
theorem la42_2 : FnV Tryz.prog 21 [.vs [[i64 13, .bool false], [i64 18, .bool false]]] (caseK [⟨13, false⟩, ⟨18, false⟩]).d := by
 refine fnV_of mixed tysOk Tryz.func21 rfl (ft := ft21) 1 (by decide +kernel) (by rfl) fun {σ} Y st => ?_
 conv=>whnf
 refine CallA_v (la41) rfl rfl ?_
 conv=>whnf
 refine CallA_v (ds := [i64 3, .bool false]) (la59 3 false) rfl rfl ?_
 conv=>whnf
 refine CallA_v (ds := [i64 12, .bool true]) (la59 12 true) rfl rfl ?_
 conv=>whnf
 refine ownK_whole rfl ?_
 conv=>whnf
 exact RetA_viewR 2 rfl rfl ⟨⟨rfl, rfl⟩, rfl⟩
theorem la97 (n : ByteArray) (a b c d : Int) : FnV Tryz.prog 76 [.str n, i64 a, i64 b, i64 c, i64 d] (LLight.d ⟨n, [⟨⟨a, b⟩, ⟨c, d⟩⟩]⟩) := by
 refine fnV_of mixed tysOk Tryz.func76 rfl (ft := ft76) 5 (by decide +kernel) (by rfl) fun {σ} Y st => ?_
 conv=>whnf
 refine CallA_v (fn28 a b) rfl rfl ?_
 conv=>whnf
 refine CallA_v (fn28 c d) rfl rfl ?_
 conv=>whnf
 exact RetA_view 2 rfl ⟨⟨rfl, rfl⟩, rfl⟩
def sunkB : ByteArray := ⟨#[115, 117, 110, 107]⟩
def noreB : ByteArray := ⟨#[110, 111, 114, 101]⟩
def sunkK : LLight := ⟨sunkB, [⟨⟨1, 2⟩, ⟨4, 5⟩⟩]⟩
def noreK : LLight := ⟨noreB, [⟨⟨1, 3⟩, ⟨3, 9⟩⟩]⟩
theorem la44 : FnV Tryz.prog 29 [] sunkK.d := by
 refine fnV_of mixed tysOk Tryz.func29 rfl (ft := ft29) 0 (by decide +kernel) (by rfl) fun {σ} Y st => ?_
 conv=>whnf
 refine CallA_v (ds := [.str sunkB, i64 1, i64 2, i64 4, i64 5]) (la97 sunkB 1 2 4 5) rfl rfl ?_
 conv=>whnf
 exact RetA_view 0 rfl ⟨⟨rfl, rfl⟩, rfl⟩
theorem la45 : FnV Tryz.prog 30 [] noreK.d := by
 refine fnV_of mixed tysOk Tryz.func30 rfl (ft := ft30) 0 (by decide +kernel) (by rfl) fun {σ} Y st => ?_
 conv=>whnf
 refine CallA_v (ds := [.str noreB, i64 1, i64 3, i64 3, i64 9]) (la97 noreB 1 3 3 9) rfl rfl ?_
 conv=>whnf
 exact RetA_view 0 rfl ⟨⟨rfl, rfl⟩, rfl⟩
theorem la43 (s v : Int) : FnV Tryz.prog 24 [i64 s, i64 v] (LTruth.d ⟨s, [v]⟩) := by
 refine fnV_of mixed tysOk Tryz.func24 rfl (ft := ft24) 2 (by decide +kernel) (by rfl) fun {σ} Y st => ?_
 conv=>whnf
 exact RetA_view 2 rfl ⟨⟨rfl, rfl⟩, rfl⟩
theorem la34 (a b : LTruth) (ha : a.speeds.length < 1000000) : FnV Tryz.prog 37 [a.d, b.d] (.bool (decide (a = b))) := by
 refine fnV_of mixed tysOk Tryz.func37 rfl (ft := ft37) 2 (by decide +kernel) (by rfl) fun {σ} Y st => ?_
 conv=>whnf
 have he : (decide (a = b)) = (decide (a.start = b.start) && decide (a.speeds = b.speeds)) := by
  rw [Bool.eq_iff_iff, Bool.and_eq_true, decide_eq_true_eq, decide_eq_true_eq, decide_eq_true_eq]
  constructor
  ·rintro rfl; exact ⟨rfl, rfl⟩
  ·rintro ⟨h1, h2⟩; cases a; cases b; simp_all
 rw [he]
 by_cases h1 : a.start = b.start
 ·rw [decide_eq_true h1]
  conv=>whnf
  refine CallA_v (fn19 a.speeds b.speeds ha) rfl rfl ?_
  conv=>whnf
  exact RetA_view 0 rfl ⟨⟨rfl, rfl⟩, rfl⟩
 ·rw [decide_eq_false h1]
  conv=>whnf
  exact RetA_view 0 rfl ⟨⟨rfl, rfl⟩, rfl⟩
end Go.PX
namespace Go.PX
open Go.Proofs
theorem vS : showE (caseK []) ⟨1, [2]⟩ = 0 ∧ showL (caseK []) ⟨1, [2]⟩ = [⟨0, 0⟩, ⟨6, 6⟩, ⟨12, 12⟩, ⟨18, 18⟩] := by decide +kernel
theorem vR : rangeE (caseK [⟨13, false⟩]) = 0 ∧ rangeA (caseK [⟨13, false⟩]) = ⟨1, 1⟩ ∧ rangeB' (caseK [⟨13, false⟩]) = [⟨2, 2⟩] := by decide +kernel
theorem vA1 : atE (caseK []) 2 = 0 ∧ atV (caseK []) 2 = 2 := by decide +kernel
theorem vA2 : atE (caseK [⟨13, false⟩]) 6 = 0 ∧ atV (caseK [⟨13, false⟩]) 6 = 1 := by decide +kernel
theorem vW : (checkL (caseK [⟨13, false⟩, ⟨18, false⟩])).2.2 = 0 ∧ wrongV (caseK [⟨13, false⟩, ⟨18, false⟩]) = [2] := by decide +kernel
theorem vF1 : failE (caseK []) sunkK ⟨0, [1]⟩ = 0 ∧ failV (caseK []) sunkK ⟨0, [1]⟩ = 2 := by decide +kernel
theorem vF2 : failE (caseK []) noreK ⟨0, [1]⟩ = 0 ∧ failV (caseK []) noreK ⟨0, [1]⟩ = -1 := by decide +kernel
theorem vK1 : keptE (caseK []) sunkK = 0 ∧ keptX (caseK []) sunkK = (⟨0, [1]⟩, 2) := by decide +kernel
theorem vK2 : keptE (caseK [⟨13, false⟩]) sunkK = 4 := by decide +kernel
theorem vWh : entrE (caseK []) [noreK, sunkK] = 0 ∧ whichV (caseK []) [noreK, sunkK] = [0, 1] := by decide +kernel
theorem vL : longE lampK sunkK = 0 ∧ longV lampK sunkK = 2 := by decide +kernel
theorem vWi : windV lampK sunkK = [2, 4, 6, 8, 10, 12, 14, 16, 18, 20, 22] := by decide +kernel
theorem vT : (lightsF [noreK, noreK]).2 = 5 := by decide +kernel
end Go.PX
