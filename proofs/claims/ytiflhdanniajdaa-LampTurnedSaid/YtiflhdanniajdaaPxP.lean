import Derived.Test.YtiflhdanniajdaaPxI
import Derived.Test.YtiflhdanniajdaaPxO
import Derived.Test.YtiflhdanniajdaaPxL
set_option linter.all false
set_option maxRecDepth 10000
/- PX: 'for x := range f' where f holds objects of the frame: they are lent to it. -/
namespace Go.PX
open Go.RowKit

def lentC (c1 n : Nat) (lt : List Nat) (caps : List V) (h0 : Heap) : Bool :=
  allB (fun i => Nat.ble 1000000 i && Nat.blt i 2000000 && !inRange c1 n i) lt && allB (inL lt) (namesOfL caps) && allB (inL lt) (heapNames h0) && (yfreeL caps && yfreeH h0)

/-- What is handed back: what was lent. -/
def backB (lt : List Nat) (h0 : Heap) : Bool := allB (inL lt) (heapNames h0) && yfreeH h0

theorem get_append {α : Type} : ∀ (A B : Tab α) (k : Nat) (o : α), get (A ++ B) k = some o → get A k = some o ∨ get B k = some o
  | [], _, _, _, h => .inr h
  | (i, p) :: A, B, k, o, h => by
    simp only [List.cons_append, get] at h ⊢
    split at h
    · exact .inl h
    · exact get_append A B k o h

theorem Backed_eq {L L' : Loc} {id : Nat} {o : Obj} (hk : L'.κ id = L.κ id) : Backed L' id o ↔ Backed L id o := by
  cases o <;> simp [Backed, hk]

section
variable {σ : Type} {cx : Cx σ} {L : Loc} {F : Nat → Nat} {s : σ} {w : World}

theorem HeapOk.subT {h h' : Heap} (hh : HeapOk cx L F h s w) (hs : SubT h' h) : HeapOk cx L F h' s w :=
  ⟨hh.hg, hh.csz, hh.fresh, fun id o hi => hh.obj id o (hs _ _ hi), fun id o hi => hh.own id o (hs _ _ hi), fun i j o p hi hj => hh.inj i j o p (hs _ _ hi) (hs _ _ hj)⟩

theorem HeapOk.app {A B : Heap} (ha : HeapOk cx L F A s w) (hb : HeapOk cx L F B s w) (hx : ∀ i o j p, get A i = some o → get B j = some p → Backed L i o → Backed L j p → L.ρ i ≠ L.ρ j) : HeapOk cx L F (A ++ B) s w := by
  refine ⟨ha.hg, ha.csz, ha.fresh, fun id o hi => (get_append A B id o hi).elim (ha.obj id o) (hb.obj id o), fun id o hi => (get_append A B id o hi).elim (ha.own id o) (hb.own id o), fun i j o p hi hj bi bj e => ?_⟩
  rcases get_append A B i o hi with h1 | h1 <;> rcases get_append A B j p hj with h2 | h2
  · exact ha.inj i j o p h1 h2 bi bj e
  · exact absurd e (hx i o j p h1 h2 bi bj)
  · exact absurd e.symm (hx j p i o h2 h1 bj bi)
  · exact hb.inj i j o p h1 h2 bi bj e
end

section
variable {P : Program} {T : Tys} {ft : FT} {α σ : Type} {Y : Hd σ}

theorem RangeA_genV (hT : TysOk P T) {g : Operand} {ps : Array Tmp} {a b : Code} (hDa : drawsOk P T ft a) (hDb : drawsOk P T ft b) {f : FuncId} {caps : List V} {e : Env} {h : Heap} {s : σ} {K : AExit → St σ → Prop} (hgv : opnd e g = some (.clo f caps))
    (lt : List Nat) (c1 c2 : Nat) (tb : List Nat) (I : α → Heap × σ) (x0 : α) (hck : rangeB c1 c2 tb e (cutL h lt) = true) (hlt : lentC c1 tb.length lt caps (keepT lt h) = true) (hI : I x0 = (renH (upR c1 tb) (cutL h lt), s)) (hok0 : okH c2 tb (I x0).1 = true)
    (hf : ∀ L, FnC P (liftY (rangeY P T ft Y I ps a b (renE (upR c1 tb) e) c2 tb)) f (.yld :: caps) (keepT lt h) (.go x0, L) fun v h' g => backB lt h' = true ∧ match g.1 with
      | .go x => K .normal ⟨e, renH (dnR c1 tb) (I x).1 ++ h', (I x).2⟩
      | .done ex hd s' => K ex ⟨e, renH (dnR c1 tb) hd ++ h', s'⟩) : RangeA P ft Y g ps a b ⟨e, h, s⟩ K := by
  constructor
  intro cx hY r m L F aa w hg hc
  simp only [codeOk, Bool.and_eq_true] at hc
  obtain ⟨⟨hps, hca⟩, hcb⟩ := hc
  have hps : ∀ p ∈ ps.toList, p < aa.tmps.size := fun p hp => of_decide_eq_true (List.all_eq_true.1 hps p hp)
  simp only [rangeB, Bool.and_eq_true] at hck
  obtain ⟨⟨⟨⟨⟨⟨⟨⟨k1, k2⟩, k3⟩, k4⟩, k5⟩, k6⟩, k7⟩, k8⟩, k9⟩ := hck
  have htb := nodupB_spec k1
  have htb6 : ∀ i ∈ tb, i < 1000000 := fun i hi => Nat.le_of_ble_eq_true (allB_spec k2 i hi)
  have k3 := Nat.le_of_ble_eq_true k3
  have k4 := Nat.le_of_ble_eq_true k4
  have k5 := Nat.le_of_ble_eq_true k5
  have k6 := Nat.le_of_ble_eq_true k6
  have k7 : ∀ k, k < tb.length → inRange c2 64 (c1 + k) = false := fun k hk => by
    have := allB_spec k7 k (List.mem_range.2 hk)
    simpa using this
  have k8 : ∀ i ∈ envNames e, i ∈ tb ∨ (pinned i ∧ inRange c1 tb.length i = false ∧ inRange c2 64 i = false) := by
    intro i hi
    have := allB_spec k8 i hi
    simp only [Bool.or_eq_true, Bool.and_eq_true, Bool.not_eq_true'] at this
    exact this.imp inL_iff.1 fun h => ⟨⟨Nat.le_of_ble_eq_true h.1.1.1, Nat.le_of_ble_eq_true h.1.1.2⟩, h.1.2, h.2⟩
  have k9 : ∀ i ∈ heapNames (cutL h lt), inRange c1 tb.length i = false := fun i hi => by simpa using allB_spec k9 i hi
  simp only [lentC, Bool.and_eq_true] at hlt
  obtain ⟨⟨⟨l1, l2⟩, l3⟩, l4, l5⟩ := hlt
  have l1 : ∀ i ∈ lt, pinned i ∧ inRange c1 tb.length i = false := fun i hi => by
    have := allB_spec l1 i hi
    simp only [Bool.and_eq_true, Bool.not_eq_true'] at this
    exact ⟨⟨Nat.le_of_ble_eq_true this.1.1, Nat.le_of_ble_eq_true this.1.2⟩, this.2⟩
  have l2 : ∀ i ∈ namesOfL caps, i ∈ lt := fun i hi => inL_iff.1 (allB_spec l2 i hi)
  have l3 : ∀ i ∈ heapNames (keepT lt h), i ∈ lt := fun i hi => inL_iff.1 (allB_spec l3 i hi)
  have hltb : ∀ i ∈ lt, i ∉ tb := fun i hi hm => by
    have h1 := (l1 i hi).1
    have h2 := htb6 i hm
    unfold pinned at h1; omega
  have hscut : SubT (cutL h lt) h := fun i o hi => by
    rw [get_cutL] at hi
    split at hi
    · cases hi
    · exact hi
  have hskeep : SubT (keepT lt h) h := sub_keepT lt h
  have htbr : ∀ i ∈ tb, inRange c1 tb.length i = false := fun i hi => by
    cases hr : inRange c1 tb.length i with
    | false => rfl
    | true => rw [inRange_iff] at hr; have := htb6 i hi; omega
  -- up and down
  have hdu : ∀ i, inRange c1 tb.length i = false → dnR c1 tb (upR c1 tb i) = i := by
    intro i hi
    by_cases hm : i ∈ tb
    · obtain ⟨k, hk⟩ := List.mem_iff_getElem?.1 hm
      rw [upR_in htb hk, dnR_in hk]
    · rw [upR_out hm, dnR_out hi]
  have hud : ∀ i, i ∉ tb → upR c1 tb (dnR c1 tb i) = i := by
    intro i hi
    cases hr : inRange c1 tb.length i with
    | false => rw [dnR_out hr, upR_out hi]
    | true =>
      rw [inRange_iff] at hr
      obtain ⟨k, hk⟩ : ∃ k, i = c1 + k := ⟨i - c1, by omega⟩
      obtain ⟨y, hy⟩ : ∃ y, tb[k]? = some y := ⟨_, List.getElem?_eq_getElem (by omega)⟩
      rw [hk, dnR_in hy, upR_in htb hy]
  have henv1 : ∀ i ∈ envNames e, inRange c1 tb.length i = false := fun i hi => (k8 i hi).elim (htbr i) (fun h => h.2.1)
  have hE : ∀ i ∈ envNames (renE (upR c1 tb) e), pinned i ∧ inRange c2 64 i = false := by
    have hren : ∀ (e : Env), ∀ i ∈ envNames (renE (upR c1 tb) e), ∃ j ∈ envNames e, i = upR c1 tb j := by
      intro e
      induction e with
      | nil => intro i hi; cases hi
      | cons kv r ih =>
        obtain ⟨k, v⟩ := kv
        intro i hi
        rcases List.mem_append.1 hi with hi | hi
        · obtain ⟨j, hj, rfl⟩ := namesOf_ren v i hi
          exact ⟨j, List.mem_append.2 (.inl hj), rfl⟩
        · obtain ⟨j, hj, rfl⟩ := ih i hi
          exact ⟨j, List.mem_append.2 (.inr hj), rfl⟩
    intro i hi
    obtain ⟨j, hj, rfl⟩ := hren e i hi
    rcases k8 j hj with hm | ⟨h1, h2, h3⟩
    · obtain ⟨k, hk⟩ := List.mem_iff_getElem?.1 hm
      have hlt := (List.getElem?_eq_some_iff.1 hk).1
      rw [upR_in htb hk]
      exact ⟨by unfold pinned; omega, k7 k hlt⟩
    · have : j ∉ tb := fun hm => by have := htb6 j hm; unfold pinned at h1; omega
      rw [upR_out this]; exact ⟨h1, h3⟩
  obtain ⟨lc, hev, hcap⟩ := hg.opnd hgv
  have hI1 : (I x0).1 = renH (upR c1 tb) (cutL h lt) := by rw [hI]
  have hI2 : (I x0).2 = s := by rw [hI]
  refine wpIn_rangeFunc fun fn _ => ?_
  -- the record is laid
  have enter : ∃ (base : Go.Loop) (l : Nat) (mk : List Nat) (W1 : World), (Instr.enterLoop fn aa.tmps ps a b r).run P w = .ok (l, mk.map mark) W1 ∧ (base.params = ps ∧ base.assign = a ∧ base.body = b ∧ base.tmps = aa.tmps ∧ base.state = .ready ∧ base.pending = none) ∧
      W1.heap[l]? = some (.loop base) ∧ w.heap.size ≤ l ∧ (∀ x, x < w.heap.size → W1.heap[x]? = w.heap[x]?) ∧ Tr F w F W1 ∧ w.heap.size ≤ W1.heap.size ∧ mk.Nodup ∧ ∀ x ∈ mk, w.heap.size ≤ x ∧ W1.heap[x]? = some (.deferred (some [])) := by
    cases r with
    | none =>
      refine ⟨{ state := .ready, pending := none, fn, tmps := aa.tmps, params := ps, assign := a, body := b, defers := w.heap.size }, _, [w.heap.size], _, run_enterLoop_outer fn aa.tmps ps a b, ⟨rfl, rfl, rfl, rfl, rfl, rfl⟩, ?_, by omega, fun x hx => ?_, Tr.trans (Tr.alloc hg.heap.fresh _) (Tr.alloc (fun b hb => hg.heap.fresh b (by simp at hb; omega)) _), by simp; omega, by simp, fun x hx => ?_⟩
      · have := World.alloc_heap_new (w.alloc (.deferred (some []))) (.loop { state := .ready, pending := none, fn, tmps := aa.tmps, params := ps, assign := a, body := b, defers := w.heap.size })
        rwa [World.size_alloc] at this
      · rw [heap_alloc_old _ _ (by simp; omega), heap_alloc_old _ _ hx]
      · rw [List.mem_singleton] at hx
        subst hx
        exact ⟨Nat.le_refl _, by rw [heap_alloc_old _ _ (by simp)]; exact World.alloc_heap_new w _⟩
    | some l0 =>
      obtain ⟨lp, ⟨q1, _⟩, _⟩ := hg.lk l0 rfl
      refine ⟨{ state := .ready, pending := none, fn, tmps := aa.tmps, params := ps, assign := a, body := b, defers := lp.defers }, _, [], _, run_enterLoop_inner q1 fn aa.tmps ps a b, ⟨rfl, rfl, rfl, rfl, rfl, rfl⟩, World.alloc_heap_new w _, Nat.le_refl _, fun x hx => heap_alloc_old _ _ hx, Tr.alloc hg.heap.fresh _, by simp, List.nodup_nil, fun x hx => by cases hx⟩
  obtain ⟨base, l, mk, W1, hent, ⟨hb1, hb2, hb3, hb4, hb5, hb6⟩, hl, hlw, hold, tr1, hsz1, hmn, hmk⟩ := enter
  have hg1 := hg.onward tr1 (fun x hx => ⟨hold x hx, rfl⟩) (fun x hx => hg.heap.fresh x (Nat.le_trans hsz1 hx))
  have hrl : r ≠ some l := by
    rintro rfl
    obtain ⟨lp, ⟨q1, _⟩, _⟩ := hg.lk l rfl
    have := block_lt q1; omega
  let L1 : Loc := ⟨fun j => L.ρ (dnR c1 tb j), fun j => L.κ (dnR c1 tb j)⟩
  have hL1 : ∀ i, inRange c1 tb.length i = false → L1.ρ (upR c1 tb i) = L.ρ i ∧ L1.κ (upR c1 tb i) = L.κ i := fun i hi => by
    show L.ρ (dnR c1 tb (upR c1 tb i)) = L.ρ i ∧ L.κ (dnR c1 tb (upR c1 tb i)) = L.κ i
    rw [hdu i hi]; exact ⟨rfl, rfl⟩
  have hnC : ∀ x, w.heap.size ≤ x → ¬ cx.C s x := fun x hx hC => by have := hg.heap.csz x hC; omega
  have hbase : recOf base (RS.go x0 : RS α σ) = base := by
    cases base; simp only at hb5 hb6; subst hb5; subst hb6; rfl
  have hLt : ∀ i ∈ lt, L1.ρ i = L.ρ i ∧ L1.κ i = L.κ i := fun i hi => by
    have := hL1 i (l1 i hi).2
    rw [upR_out (hltb i hi)] at this
    exact this
  have hHG : RInv cx I l (mk ++ m) r base (renE (upR c1 tb) e) aa.tmps c2 tb L1.ρ L1.κ F W1 (.go x0, L1) W1 F := by
    refine ⟨?_, ⟨by rw [hbase]; exact hl, by show ¬ cx.C (I x0).2 l; rw [hI2]; exact hnC l hlw⟩, fun x hx => ?_, fun l0 h0 => ?_, fun t v ht => ?_, fun _ _ => ⟨rfl, rfl⟩, Tr.refl F W1, hok0⟩
    · show HeapOk cx L1 F (I x0).1 (I x0).2 W1
      rw [hI1, hI2]
      exact (hg1.heap.subT hscut).ren fun i hi => hL1 i (k9 i hi)
    · show _ ∧ ¬ cx.C (I x0).2 x
      rw [hI2]
      rcases List.mem_append.1 hx with hx | hx
      · exact ⟨(hmk x hx).2, hnC x (hmk x hx).1⟩
      · exact hg1.mks x hx
    · show ∃ lp, _ ∧ ¬ cx.C (I x0).2 l0
      rw [hI2]
      exact hg1.lk l0 h0
    · simp only [renE, get_mapT] at ht
      cases h0 : get e t with
      | none => simp [h0] at ht
      | some v0 =>
        simp [h0] at ht
        subst ht
        obtain ⟨x, hx, hr⟩ := hg1.env t v0 h0
        exact ⟨x, hx, (RepV.ren (R := upR c1 tb) (L := L) (L' := L1) v0 x fun i hi => hL1 i (henv1 i (envNames_mem h0 hi))).2 hr⟩
  have hH0 : HeapOk (rangeCx cx I l (mk ++ m) r base (renE (upR c1 tb) e) aa.tmps c2 tb L1.ρ L1.κ F W1) L1 F (keepT lt h) (.go x0, L1) W1 := by
    refine ⟨hHG, fun x hx => ?_, hg1.heap.fresh, fun id o hi => ?_, fun id o hi hb => ?_, fun i j o p hi hj hbi hbj he => ?_⟩
    rotate_left
    · exact RepO.yfree o (yfreeH_spec l5 hi) (RepO.mono (Tr.refl F W1) id o (fun j hj => hLt j (l3 j ((heapNames_key hi).2 j (namesOfO_mem j o hj)))) (hLt id (l3 id (heapNames_key hi).1)) (fun _ => rfl) (hg1.heap.obj id o (hskeep _ _ hi)))
    · have hid := hLt id (l3 id (heapNames_key hi).1)
      have hbL := (Backed_eq (L := L) (L' := L1) hid.2).1 hb
      obtain ⟨q1, q2⟩ := hg1.heap.own id o (hskeep _ _ hi) hbL
      rw [hid.1]
      refine ⟨q1, ?_⟩
      rintro (hx | ⟨j, p, hj, hbj, hx⟩ | hx | hx | hx)
      · have hx : cx.C (I x0).2 (L.ρ id) := hx
        rw [hI2] at hx
        exact q2 hx
      · have hj : get (I x0).1 j = some p := hj
        rw [hI1] at hj
        obtain ⟨j', o1, h1, rfl, rfl⟩ := get_renH hj
        have hr := hL1 j' (k9 j' (heapNames_key h1).1)
        have hbj' := (Backed_ren (R := upR c1 tb) (L := L) (L' := L1) j' o1 hr.2).1 hbj
        have hx : L1.ρ (upR c1 tb j') = L.ρ id := hx
        rw [hr.1] at hx
        have := hg1.heap.inj j' id o1 o (hscut _ _ h1) (hskeep _ _ hi) hbj' hbL hx
        subst this
        rw [get_cutL, if_pos (l3 _ (heapNames_key hi).1)] at h1
        cases h1
      · exact (RepO.not_ctl (hg1.heap.obj id o (hskeep _ _ hi)) hbL (by rw [hx]; exact hl)).1 _ rfl
      · exact (RepO.not_ctl (hg1.heap.obj id o (hskeep _ _ hi)) hbL (hHG.mks _ hx).1).2 _ rfl
      · obtain ⟨lp, ⟨q1, _⟩, _⟩ := hHG.out _ hx
        exact (RepO.not_ctl (hg1.heap.obj id o (hskeep _ _ hi)) hbL q1).1 _ rfl
    · have h1 := hLt i (l3 i (heapNames_key hi).1)
      have h2 := hLt j (l3 j (heapNames_key hj).1)
      rw [h1.1, h2.1] at he
      exact hg1.heap.inj i j o p (hskeep _ _ hi) (hskeep _ _ hj) ((Backed_eq h1.2).1 hbi) ((Backed_eq h2.2).1 hbj) he
    rcases hx with hx | ⟨id, o, hi, hb, hx⟩ | hx | hx | hx
    · exact hHG.heap.csz x hx
    · rw [← hx]; exact (hHG.heap.obj id o hi).lt hb
    · rw [hx]; exact block_lt hl
    · exact block_lt (hHG.mks x hx).1
    · obtain ⟨lp, ⟨q1, _⟩, _⟩ := hHG.out x hx; exact block_lt q1
  have hcall := (hf L1).run _ (range_handles hT hDa hDb hY hrl hb1 hb2 hb3 hb4 ⟨hb5, hb6⟩ hps hg.tsz hca hcb ⟨k5, k6⟩ hE) L1 F (#[.func (.yield l) #[] #[]] ++ lc) W1 hH0 (by
    show RepVL (some l) L1 F W1 (.yld :: caps) _
    refine ⟨.func (.yield l) #[] #[], lc.toList, by simp, ⟨l, rfl, rfl⟩, RepVL.yfree _ _ l4 (RepVL.mono tr1 _ _ (fun i hi => hLt i (l2 i (namesOfL_mem i caps hi))) hcap)⟩)
  refine ⟨l, mk.map mark, W1, { target := .fn (.func f) lc, args := #[.func (.yield l) #[] #[]] }, W1, f, #[.func (.yield l) #[] #[]] ++ lc, W1, hent, ?_, fun _ _ => trivial, ?_, (fun h => by cases h), ?_⟩
  · simp only [resolve, hev]
    simp [go_sem]
  · simp [invoke, go_sem, (hf L1).enter]
  refine (callsIn_fr hcall).mono ?_
  rintro en w' ⟨x, rfl, v, h', gs, L', F', ⟨hbk, hK⟩, hH, hv, tr, pin⟩
  simp only [backB, Bool.and_eq_true] at hbk
  have b1 : ∀ i ∈ heapNames h', i ∈ lt := fun i hi => inL_iff.1 (allB_spec hbk.1 i hi)
  obtain ⟨gg, L2⟩ := gs
  obtain ⟨i1, i2, i3, i4, i5, i6, i7, i8⟩ := hH.hg
  have hnb : (recOf base gg).state ≠ .busy := by cases gg <;> (intro h; cases h)
  have hend := run_endLoop (P := P) i2.1 hnb
  -- the state behind the loop
  obtain ⟨W4, hW4⟩ : ∃ W4, W4 = w'.putObj l (.loop { recOf base gg with state := .exhausted }) := ⟨_, rfl⟩
  rw [← hW4] at hend
  have tr4 : Tr F' w' F' W4 := by rw [hW4]; exact Tr.ctl i2.1 (fun _ _ _ h => by cases h) (fun _ _ h => by cases h) (fun _ _ _ h => by cases h)
  have hk4 : ∀ y, y ≠ l → W4.heap[y]? = w'.heap[y]? := fun y hy => by rw [hW4]; exact World.putObj_heap_other hy
  have h4 := i1.keep tr4 (fun b hb => i1.fresh b (Nat.le_trans tr4.size hb)) (fun b hb => ⟨hk4 b (by rintro rfl; exact i2.2 hb), rfl⟩) (fun id o hi hb => ⟨hk4 _ (fun e => (RepO.not_ctl (i1.obj id o hi) hb (by rw [e]; exact i2.1)).1 _ rfl), rfl⟩)
  let L3 : Loc := ⟨fun i => if i ∈ tb then L2.ρ (upR c1 tb i) else if inRange c1 tb.length i then cx.pρ i else L2.ρ i, fun i => if i ∈ tb then L2.κ (upR c1 tb i) else if inRange c1 tb.length i then cx.pκ i else L2.κ i⟩
  have hL3 : ∀ i, inRange c1 tb.length i = false → L3.ρ i = L2.ρ (upR c1 tb i) ∧ L3.κ i = L2.κ (upR c1 tb i) := by
    intro i hi
    by_cases hm : i ∈ tb
    · simp [L3, hm]
    · simp [L3, hm, hi, upR_out hm]
  have hL3d : ∀ i, i ∉ tb → L3.ρ (dnR c1 tb i) = L2.ρ i ∧ L3.κ (dnR c1 tb i) = L2.κ i := by
    intro i hi
    have : inRange c1 tb.length (dnR c1 tb i) = false := by
      cases hr : inRange c1 tb.length i with
      | false => rw [dnR_out hr]; exact hr
      | true =>
        rw [inRange_iff] at hr
        obtain ⟨k, hk⟩ : ∃ k, i = c1 + k := ⟨i - c1, by omega⟩
        obtain ⟨y, hy⟩ : ∃ y, tb[k]? = some y := ⟨_, List.getElem?_eq_getElem (by omega)⟩
        rw [hk, dnR_in hy]; exact htbr y (List.mem_of_getElem? hy)
    obtain ⟨q1, q2⟩ := hL3 _ this
    rw [hud i hi] at q1 q2
    exact ⟨q1, q2⟩
  have hok' := okH_spec i8
  have hL3t : ∀ i ∈ lt, L3.ρ i = L'.ρ i ∧ L3.κ i = L'.κ i := fun i hi => by
    obtain ⟨q1, q2⟩ := hL3 i (l1 i hi).2
    rw [upR_out (hltb i hi)] at q1 q2
    obtain ⟨q3, q4⟩ := i6 i (l1 i hi).1
    obtain ⟨q5, q6⟩ := pin i (l1 i hi).1
    exact ⟨q1.trans (q3.trans q5.symm), q2.trans (q4.trans q6.symm)⟩
  have hB : HeapOk cx L3 F' h' (gg.st I) W4 := by
    refine ⟨h4.hg, h4.csz, h4.fresh, fun id o hi => ?_, fun id o hi hb => ?_, fun i j o p hi hj hbi hbj he => ?_⟩
    · refine RepO.mono tr4 id o (fun j hj => hL3t j (b1 j ((heapNames_key hi).2 j (namesOfO_mem j o hj)))) (hL3t id (b1 id (heapNames_key hi).1)) (fun hb => hk4 _ fun e => ?_) (RepO.yfree o (yfreeH_spec hbk.2 hi) (hH.obj id o hi))
      exact (hH.own id o hi hb).2 (.inr (.inr (.inl e)))
    · have h3 := hL3t id (b1 id (heapNames_key hi).1)
      have := hH.own id o hi ((Backed_eq h3.2).1 hb)
      rw [h3.1]
      exact ⟨this.1, fun h => this.2 (.inl h)⟩
    · have h1 := hL3t i (b1 i (heapNames_key hi).1)
      have h2 := hL3t j (b1 j (heapNames_key hj).1)
      rw [h1.1, h2.1] at he
      exact hH.inj i j o p hi hj ((Backed_eq h1.2).1 hbi) ((Backed_eq h2.2).1 hbj) he
  have hgood : Good cx r (mk ++ m) L3 F' ⟨e, renH (dnR c1 tb) (gg.heap I) ++ h', gg.st I⟩ { aa with defers := mk.map mark ++ aa.defers } W4 := by
    refine ⟨(h4.ren fun i hi => hL3d i (hok' i hi).2).app hB fun i o j p hi hj hbi hbj he => ?_, fun t v ht => ?_, ?_, fun x hx => ?_, ?_, fun l0 h0 => ?_, fun i hi => ?_, hg.tsz⟩
    · obtain ⟨i', o1, h1, rfl, rfl⟩ := get_renH hi
      have hr := hL3d i' (hok' i' (heapNames_key h1).1).2
      have hj3 := hL3t j (b1 j (heapNames_key hj).1)
      rw [hr.1, hj3.1] at he
      exact (hH.own j p hj ((Backed_eq hj3.2).1 hbj)).2 (.inr (.inl ⟨i', o1, h1, (Backed_ren (R := dnR c1 tb) (L := L2) (L' := L3) i' o1 hr.2).1 hbi, he⟩))
    · obtain ⟨x, hx, hr⟩ := i5 t (mapId (renF (upR c1 tb)) v) (by
        have ht : get e t = some v := ht
        simp only [renE, get_mapT, ht]; rfl)
      refine ⟨x, hx, RepV.mono tr4 v x (fun _ _ => ⟨rfl, rfl⟩) ((RepV.ren (R := upR c1 tb) (L := L3) (L' := L2) v x fun i hi => ?_).1 hr)⟩
      obtain ⟨q1, q2⟩ := hL3 i (henv1 i (envNames_mem ht hi))
      exact ⟨q1.symm, q2.symm⟩
    · show mk.map mark ++ aa.defers = (mk ++ m).map mark
      rw [hg.dfr, List.map_append]
    · obtain ⟨q1, q2⟩ := i3 x hx
      exact ⟨by rw [hk4 x (by rintro rfl; rw [i2.1] at q1; cases q1)]; exact q1, q2⟩
    · rw [List.nodup_append]
      refine ⟨hmn, hg.mnd, fun x hx y hy e => ?_⟩
      have h1 := (hmk x hx).1
      have h2 := block_lt (hg.mks y hy).1
      omega
    · obtain ⟨lp, ⟨q1, q2⟩, q3⟩ := i4 l0 h0
      exact ⟨lp, ⟨by rw [hk4 l0 (by rintro rfl; exact hrl h0)]; exact q1, q2⟩, q3⟩
    · have hm : i ∉ tb := fun hm => by have := htb6 i hm; unfold pinned at hi; omega
      cases hr : inRange c1 tb.length i with
      | true => simp [L3, hm, hr]
      | false =>
        obtain ⟨q1, q2⟩ := hL3 i hr
        rw [upR_out hm] at q1 q2
        obtain ⟨q3, q4⟩ := i6 i hi
        have q5 : L1.ρ i = L.ρ i ∧ L1.κ i = L.κ i := by
          show L.ρ (dnR c1 tb i) = L.ρ i ∧ L.κ (dnR c1 tb i) = L.κ i
          rw [dnR_out hr]; exact ⟨rfl, rfl⟩
        obtain ⟨q6, q7⟩ := hg.pin i hi
        exact ⟨q1.trans (q3.trans (q5.1.trans q6)), q2.trans (q4.trans (q5.2.trans q7))⟩
  have trw : Tr F w F' W4 := Tr.trans tr1 (Tr.trans tr tr4)
  refine ⟨_, W4, hend, ?_⟩
  cases gg with
  | go x =>
    show ∃ e' st' m' L' F', _
    exact ⟨.normal, _, mk ++ m, L3, F', rfl, hK, hgood, trw, rfl⟩
  | done ex hd s' =>
    cases ex with
    | normal => exact wpIn_skip ⟨.normal, _, mk ++ m, L3, F', rfl, hK, hgood, trw, rfl⟩
    | ret => exact wpIn_ret ⟨.ret, _, mk ++ m, L3, F', rfl, hK, hgood, trw, rfl⟩
    | exit i => exact wpIn_exit ⟨.exit i, _, mk ++ m, L3, F', rfl, hK, hgood, trw, rfl⟩
end
end Go.PX

/- PX: functions that yield, holding objects of the frame, to one who takes all. -/
namespace Go.PX
open Go.RowKit

/-- Yield is called with these, one after another, and always says that it goes on. -/
def iterT {γ : Type} (Y : Hd γ) : List (List V × Heap) → γ → (γ → Prop) → Prop
  | [], g, Q => Q g
  | (args, h) :: r, g, Q => Y.y args h g fun v h' g' => h' = h ∧ v = .d (.bool true) ∧ iterT Y r g' Q

/-- A function that yields these to one who takes all, and does this to the objects that it holds. -/
def YieldsT (P : Program) (f : FuncId) (caps : List V) (h0 h1 : Heap) (l : List (List V × Heap)) : Prop :=
  ∀ {γ : Type} (Y : Hd γ) (g : γ) (Q : γ → Prop), iterT Y l g Q → FnC P Y f (.yld :: caps) h0 g fun v h' g' => h' = h1 ∧ Q g'

section
variable {P : Program} {T : Tys} {ft : FT} {α σ : Type} {Y : Hd σ}

theorem RangeA_listT (hT : TysOk P T) {g : Operand} {ps : Array Tmp} {a b : Code} (hDa : drawsOk P T ft a) (hDb : drawsOk P T ft b) {f : FuncId} {caps : List V} {e : Env} {h : Heap} {s : σ} {K : AExit → St σ → Prop} (hgv : opnd e g = some (.clo f caps))
    (lt : List Nat) (c1 c2 : Nat) (tb : List Nat) {β : Type} {items : List β} {arg : β → List V} {hp : β → Heap} {h1 : Heap} (hf : YieldsT P f caps (keepT lt h) h1 (items.map fun b => (arg b, hp b))) (hb1 : backB lt h1 = true)
    (I : α → Heap × σ) (J : List β → α → Prop) (x0 : α) (hck : rangeB c1 c2 tb e (cutL h lt) = true) (hlt : lentC c1 tb.length lt caps (keepT lt h) = true) (hI : I x0 = (renH (upR c1 tb) (cutL h lt), s)) (hok0 : okH c2 tb (I x0).1 = true) (hJ0 : J items x0)
    (round : ∀ it rest x, J (it :: rest) x → ∀ (Q : V → Heap → RS α σ → Prop), (∀ x', J rest x' → Q (.d (.bool true)) (hp it) (.go x')) →
      (rangeY P T ft Y I ps a b (renE (upR c1 tb) e) c2 tb).y (arg it) (hp it) (.go x) Q)
    (fin : ∀ x, J [] x → K .normal ⟨e, renH (dnR c1 tb) (I x).1 ++ h1, (I x).2⟩) : RangeA P ft Y g ps a b ⟨e, h, s⟩ K := by
  refine RangeA_genV hT hDa hDb hgv lt c1 c2 tb I x0 hck hlt hI hok0 fun L => ?_
  have key : ∀ (l : List β) (x : α) (L : Loc), J l x → iterT (liftY (rangeY P T ft Y I ps a b (renE (upR c1 tb) e) c2 tb)) (l.map fun b => (arg b, hp b)) (RS.go x, L) (fun g => match g.1 with
      | .go x => K .normal ⟨e, renH (dnR c1 tb) (I x).1 ++ h1, (I x).2⟩
      | .done ex hd s' => K ex ⟨e, renH (dnR c1 tb) hd ++ h1, s'⟩) := by
    intro l
    induction l with
    | nil => exact fun x L hj => fin x hj
    | cons it rest ih =>
      intro x L hj
      exact round it rest x hj (fun v h' g' => ∀ L', h' = hp it ∧ v = .d (.bool true) ∧ iterT (liftY (rangeY P T ft Y I ps a b (renE (upR c1 tb) e) c2 tb)) (rest.map fun b => (arg b, hp b)) (g', L') (fun g => match g.1 with
      | .go x => K .normal ⟨e, renH (dnR c1 tb) (I x).1 ++ h1, (I x).2⟩
      | .done ex hd s' => K ex ⟨e, renH (dnR c1 tb) hd ++ h1, s'⟩)) (fun x' hj' L' => ⟨rfl, rfl, ih x' L' hj'⟩)
  have hr := hf (liftY (rangeY P T ft Y I ps a b (renE (upR c1 tb) e) c2 tb)) (RS.go x0, L) _ (key items x0 L hJ0)
  refine ⟨hr.enter, fun cx hY L F vals w hh hv => (callsIn_fr (hr.run cx hY L F vals w hh hv)).mono ?_⟩
  rintro en w' ⟨x, rfl, v, h', gs, L', F', ⟨rfl, hK⟩, hrest⟩
  exact ⟨x, rfl, v, _, gs, L', F', ⟨hb1, hK⟩, hrest⟩

/-- Yield, with data, to one who takes all. -/
theorem YldA_vT {e : Env} {h : Heap} {s : σ} {d : Option Nat} {ds : List D} {r : List (List V × Heap)} {Q : σ → Prop} (hit : iterT Y ((inj ds, []) :: r) s Q) {args : List V} (hv : args = inj ds) (hd : Nat.ble (d.getD 0) 10000 = true) {K : St σ → Prop}
    (kt : ∀ s', iterT Y r s' Q → applyK (wset d (.d (.bool true))) e h fun e h => K ⟨e, h, s'⟩) : YldA P Y ⟨e, h, s⟩ d args K := by
  have hB : callB [] d (.d (.bool true)) [] = true := by
    simp only [callB, Bool.and_eq_true]
    refine ⟨⟨⟨⟨⟨⟨⟨⟨⟨rfl, rfl⟩, rfl⟩, rfl⟩, rfl⟩, rfl⟩, rfl⟩, hd⟩, rfl⟩, ?_⟩
    cases d <;> rfl
  have hren : ∀ (R : Nat → Nat) (l : List D), renL R (inj l) = inj l := by
    intro R l
    induction l with
    | nil => rfl
    | cons c r ih => show mapId (renF R) (.d c) :: mapIdL (renF R) (inj r) = .d c :: inj r; rw [show mapIdL (renF R) (inj r) = inj r from ih]; rfl
  refine yldY_of [] hit (by rw [hv]; exact hren _ _) rfl rfl rfl ?_
  rintro v h1 s' ⟨rfl, rfl, hi⟩
  refine ⟨hB, ?_⟩
  have := kt s' hi
  rw [applyK_eq s'] at this
  have hs : (applyWs (⟨e, h, s'⟩ : St σ) (wset d (.d (.bool true)))).s = s' := applyWs_s _ _
  show K (applyWs ⟨e, h, s'⟩ (wset d (.d (.bool true))))
  generalize applyWs (⟨e, h, s'⟩ : St σ) (wset d (.d (.bool true))) = st at this hs
  obtain ⟨e1, h1, s1⟩ := st
  simp only at hs; subst hs; exact this
end
end Go.PX

namespace Go.PX
open Go.Proofs

/- Lamp: the failures of a light (the program). -/

theorem upto_len : ∀ {k : Nat} {v : Int}, (upto k v).length = k
  | 0, _ => rfl
  | k + 1, v => by rw [upto, List.length_cons, upto_len]

theorem len_flatMap {α β : Type} {f : α → List β} {n : Nat} : ∀ {l : List α}, (∀ x ∈ l, (f x).length ≤ n) → (l.flatMap f).length ≤ l.length * n
  | [], _ => by simp
  | x :: r, h => by
    rw [List.flatMap_cons, List.length_append, List.length_cons, Nat.succ_mul]
    have h1 := h x (by simp)
    have h2 := len_flatMap (l := r) fun y hy => h y (by simp [hy])
    omega

theorem speedsL_len {s : Span} (hs : s.hi ≤ s.lo + 4) : ∀ {k : Nat}, (speedsL s k).length ≤ 5 ^ k
  | 0 => by simp [speedsL]
  | k + 1 => by
    rw [speedsL]
    have h1 := len_flatMap (l := spanL s) (f := fun v => (speedsL s k).map (v :: ·)) (n := 5 ^ k) fun v _ => by simpa using speedsL_len hs
    have h2 : (spanL s).length ≤ 5 := by unfold spanL; rw [upto_len]; omega
    have h3 := Nat.mul_le_mul_right (5 ^ k) h2
    rw [Nat.pow_succ]
    omega

theorem allT_len {c : LCase} (hR : CaseL c) : (allT c.lamp c.windings).length ≤ 2000 := by
  unfold allT
  have hk : 5 ^ (c.windings.length + 1) ≤ 125 := by
    have : (5 : Nat) ^ (c.windings.length + 1) ≤ 5 ^ 3 := Nat.pow_le_pow_right (by omega) (by have := hR.winds; omega)
    simpa using this
  have h1 := len_flatMap (l := spanL c.lamp.start) (f := fun st => (speedsL c.lamp.speed (c.windings.length + 1)).map fun l => (⟨st, l⟩ : LTruth)) (n := 125) fun v _ => by
    have := speedsL_len (s := c.lamp.speed) hR.lamp.speed.2.2.2 (k := c.windings.length + 1)
    rw [List.length_map]; omega
  have h2 : (spanL c.lamp.start).length ≤ 13 := by
    unfold spanL; rw [upto_len]
    have := hR.far
    omega
  have := Nat.mul_le_mul_right 125 h2
  omega

theorem agL_len {c : LCase} (h0 : (checkL c).2.2 = 0) : (agL c).length ≤ 2000 := by
  unfold agL
  rw [truL_all (CaseL.up h0).1, List.length_map]
  exact Nat.le_trans (List.length_filter_le _ _) (allT_len (checkL_ok h0))

/-- A truth in which a light fails, and the second. -/
def failedD (x : LTruth × Int) : D := .agg [i64 x.1.start, intsD x.1.speeds, i64 x.2]

def failuresL (ps : List LPhase) (l : List (LTruth × List Bool)) : List (LTruth × Int) := l.filterMap fun p => if failsL p.2 ps < 0 then none else some (p.1, failsL p.2 ps)

theorem la94 (n : Nat) (hn : n ≤ 100000) : FnU Try.prog 94 [.ptr 1000000 0] [(1000000, .box (.dd [i64 n]))] fun v h' => v = .d (.tup []) ∧ h' = [(1000000, .box (.dd [i64 (n + 1 : Nat)]))] := by
  intro σ Y s
  refine fnC_of mixed tysOk Try.func94 rfl (ft := ft94) (args := [.ptr 1000000 0]) (show fnB ft94 Try.f94 1 = true from by decide +kernel) ?_
  conv => whnf
  refine arith_to (((n + 1 : Nat) : Int)) (by (try dsimp only); omega) (wrap_i64 (by (try dsimp only); omega)) ?_
  conv => whnf
  exact RetA_hand [] [] [(1000000, .box (.dd [i64 (n + 1 : Nat)]))] rfl ⟨rfl, trivial⟩ rfl ⟨⟨rfl, rfl⟩, rfl⟩

theorem la95 (x y : LTruth × Int) (hx : -1 ≤ x.2 ∧ x.2 ≤ 200) (hy : -1 ≤ y.2 ∧ y.2 ≤ 200) : FnV Try.prog 95 [failedD x, failedD y] (i64 (x.2 - y.2)) := by
  refine fnV_of mixed tysOk Try.func95 rfl (ft := ft95) 2 (by decide +kernel) (by rfl) fun {σ} Y st => ?_
  conv => whnf
  refine arith_to (x.2 - y.2) (by simp) (wrap_i64 (by omega)) ?_
  conv => whnf
  exact RetA_view 0 rfl ⟨⟨rfl, rfl⟩, rfl⟩

/-- What the closure of failures holds. -/
def tellH (n : Nat) : Heap := [(1000000, .box (.vv [.clo 94 [.ptr 1000001 0]])), (1000001, .box (.dd [i64 n]))]
def failC (c : LCase) (l : LLight) : List V := [.d (.ref c.cells), .ptr 1000000 0, .d (.ref l.cells)]

theorem la93 (c : LCase) (l : LLight) (n : Nat) : FnU Try.prog 93 [.d c.d, .d l.d, .clo 94 [.ptr 1000000 0]] [(1000000, .box (.dd [i64 n]))] fun v h' =>
    v = .clo 119 [.d (.ref c.cells), .ptr 2000000 0, .d (.ref l.cells)] ∧ h' = [(1000000, .box (.dd [i64 n])), (2000000, .box (.vv [.clo 94 [.ptr 1000000 0]]))] := by
  intro σ Y s
  refine fnC_of mixed tysOk Try.func93 rfl (ft := ft93) (args := [.d c.d, .d l.d, .clo 94 [.ptr 1000000 0]]) (show fnB ft93 Try.f93 3 = true from by decide +kernel) ?_
  conv => whnf
  refine RetA_wk (l' := [.clo 119 [.d (.ref c.cells), .ptr 5 0, .d (.ref l.cells)]]) (h' := [(5, .box (.vv [.clo 94 [.ptr 1000000 0]])), (1000000, .box (.dd [i64 n]))]) (Wk.trans (Wk.frz 1 [3, 4]) (Wk.sub ⟨(by first | rfl | (simp only [List.length_map]; rfl) | simp [PX.get]), trivial⟩ ⟨(by first | rfl | (simp only [List.length_map]; rfl) | simp [PX.get]), (by first | rfl | (simp only [List.length_map]; rfl) | simp [PX.get]), trivial⟩)) rfl rfl ?_
  exact RetA_hand [5] [.clo 119 [.d (.ref c.cells), .ptr 2000000 0, .d (.ref l.cells)]] [(1000000, .box (.dd [i64 n])), (2000000, .box (.vv [.clo 94 [.ptr 1000000 0]]))] rfl ⟨rfl, rfl, trivial⟩ rfl ⟨⟨rfl, rfl⟩, rfl⟩
end Go.PX

namespace Go.PX
open Go.Proofs

/- Lamp: Kept (the program). -/

theorem failsF_rng {l : List LPhase} : ∀ {r : List Bool} {b : Bool} {A : List LState} {s : Int}, failsF l r b A s = -1 ∨ (s ≤ failsF l r b A s ∧ failsF l r b A s < s + r.length)
  | [], _, _, _ => .inl rfl
  | x :: r, b, A, s => by
    rw [failsF]
    split
    · right; simp only [List.length_cons]; omega
    · rcases failsF_rng (r := r) (b := x) (A := A.filterMap (stepS l (x != b))) (s := s + 1) with h | h
      · exact .inl h
      · right; simp only [List.length_cons]; omega

theorem failsL_rng {l : List LPhase} {lit : List Bool} (h : lit.length ≤ 200) : -1 ≤ failsL lit l ∧ failsL lit l ≤ 200 := by
  unfold failsL
  cases lit with
  | nil => simp
  | cons b r =>
    simp only [List.length_cons] at h
    have := failsF_rng (l := l) (r := r) (b := b) (A := initA b l.length) (s := 1)
    simp only
    omega

set_option maxHeartbeats 1000000 in
theorem yields119 (c : LCase) (l : LLight) (h0 : (checkL c).2.2 = 0) (hl : LightR l) : YieldsT Try.prog 119 (failC c l) (tellH 0) (tellH (agL c).length) ((failuresL l.phases (agL c)).map fun x => ([.d (failedD x)], [])) := by
  intro γ Y g0 Q hit
  have hR := checkL_ok h0
  have hn := hR.lamp.night
  refine fnC_of mixed tysOk Try.func119 rfl (ft := ft119) (args := .yld :: failC c l) (show fnB ft119 Try.f119 4 = true from by decide +kernel) ?_
  conv => whnf
  refine CallA_v (la76 c hR) rfl rfl ?_
  conv => whnf
  refine RangeA_list tysOk (by exact drawsB_spec mixed tysOk (by decide +kernel)) (by exact drawsB_spec mixed tysOk (by decide +kernel)) rfl 1500000 1600000 [4] (by exact yields_agree h0)
    (fun (p : Nat × γ) => ([(1000000, .box (.vv [.clo 94 [.ptr 1000001 0]])), (1000001, .box (.dd [i64 p.1])), (1500000, .box (.vv [.yld]))], p.2))
    (fun (rest : List (LTruth × List Bool)) (p : Nat × γ) => iterT Y ((failuresL l.phases rest).map fun x => ([.d (failedD x)], [])) p.2 Q ∧ (∀ q ∈ rest, q.2.length = c.lamp.night.toNat) ∧ p.1 + rest.length = (agL c).length) (0, g0) rfl rfl rfl ⟨hit, fun p hp => (agL_ok h0 hp).2.2, by simp⟩ ?_ ?_
  · clear hit
    rintro ⟨t, lit⟩ rest ⟨n, g⟩ ⟨hit, hll, hcn⟩ Q' hQ1 hQ2
    refine ⟨⟨rfl, rfl⟩, ?_⟩
    simp only at hit hcn
    have hlen := hll (t, lit) (by simp)
    simp only at hlen
    have hrest : ∀ q ∈ rest, q.2.length = c.lamp.night.toNat := fun q hq => hll q (by simp [hq])
    have hne : lit ≠ [] := by rintro rfl; simp at hlen; omega
    have hag := agL_len h0
    simp only [List.length_cons] at hcn
    conv => whnf
    refine CallA_fn (la94 n (by omega)) [1000001] rfl ⟨_, _, rfl, rfl, rfl⟩ rfl ?_
    conv => whnf
    refine CallA_v (la90 lit l.phases hne (by omega) hl.len) rfl rfl ?_
    conv => whnf
    have hfr := failsL_rng (l := l.phases) (lit := lit) (by omega)
    refine brk_i (fun h1 => ?_) (fun h1 => ?_)
    · have h1 : failsL lit l.phases < 0 := by simpa using h1
      have he : failuresL l.phases ((t, lit) :: rest) = failuresL l.phases rest := by
        unfold failuresL
        rw [List.filterMap_cons]
        simp only [if_pos h1]
      rw [he] at hit
      conv => whnf
      exact ⟨(n + 1, g), (Wk.sub trivial ⟨(by first | rfl | (simp only [List.length_map]; rfl) | simp [PX.get]), (by first | rfl | (simp only [List.length_map]; rfl) | simp [PX.get]), (by first | rfl | (simp only [List.length_map]; rfl) | simp [PX.get]), trivial⟩), rfl, hQ1 _ ⟨hit, hrest, by simp only; omega⟩⟩
    · have h1 : ¬ failsL lit l.phases < 0 := by simpa using h1
      have he : failuresL l.phases ((t, lit) :: rest) = (t, failsL lit l.phases) :: failuresL l.phases rest := by
        unfold failuresL
        rw [List.filterMap_cons]
        simp only [if_neg h1]
      rw [he, List.map_cons] at hit
      conv => whnf
      refine YldA_vT (ds := [failedD (t, failsL lit l.phases)]) hit rfl rfl (fun g1 hi => ?_)
      conv => whnf
      exact ⟨(n + 1, g1), (Wk.sub trivial ⟨(by first | rfl | (simp only [List.length_map]; rfl) | simp [PX.get]), (by first | rfl | (simp only [List.length_map]; rfl) | simp [PX.get]), (by first | rfl | (simp only [List.length_map]; rfl) | simp [PX.get]), trivial⟩), rfl, hQ1 _ ⟨hi, hrest, by simp only; omega⟩⟩
  · rintro ⟨n, g⟩ ⟨hit, _, hcn⟩
    simp only [List.length_nil] at hcn
    conv => whnf
    rw [show n = (agL c).length by omega]
    exact RetA_hand [] [] (tellH (agL c).length) rfl ⟨rfl, rfl, trivial⟩ rfl ⟨rfl, hit⟩

def leastS (acc : Option (LTruth × Int)) (y : LTruth × Int) : Option (LTruth × Int) := match acc with
  | none => some y
  | some x => if y.2 - x.2 < 0 then some y else some x
def leastX (l : List (LTruth × Int)) : Option (LTruth × Int) := l.foldl leastS none

def leastXD (o : Option (LTruth × Int)) : D := match o with
  | none => .tup [.agg [i64 0, .nils, i64 0], .bool false]
  | some x => .tup [failedD x, .bool true]

theorem failuresL_rng {c : LCase} (h0 : (checkL c).2.2 = 0) {l : LLight} {x : LTruth × Int} (hx : x ∈ failuresL l.phases (agL c)) : -1 ≤ x.2 ∧ x.2 ≤ 200 := by
  unfold failuresL at hx
  obtain ⟨p, hp, hpx⟩ := List.mem_filterMap.1 hx
  have hn := (checkL_ok h0).lamp.night
  have hl := (agL_ok h0 hp).2.2
  split at hpx
  · cases hpx
  · cases hpx
    exact failsL_rng (by omega)

set_option maxHeartbeats 1000000 in
theorem la92 (c : LCase) (l : LLight) (h0 : (checkL c).2.2 = 0) (hl : LightR l) : FnU Try.prog 92 [.clo 119 (failC c l), .d (.clo 95 [])] (tellH 0) fun v h' =>
    v = .d (leastXD (leastX (failuresL l.phases (agL c)))) ∧ h' = tellH (agL c).length := by
  intro σ Y st
  refine fnC_of mixed tysOk Try.func92 rfl (ft := ft92) (args := [.clo 119 (failC c l), .d (.clo 95 [])]) (show fnB ft92 Try.f92 2 = true from by decide +kernel) ?_
  have hrng := fun x hx => failuresL_rng h0 (l := l) (x := x) hx
  have hys := fun {γ : Type} => yields119 c l h0 hl (γ := γ)
  generalize (agL c).length = n at hys
  generalize failuresL l.phases (agL c) = items at hrng hys
  conv => whnf
  refine RangeA_listT tysOk (by exact drawsB_spec mixed tysOk (by decide +kernel)) (by exact drawsB_spec mixed tysOk (by decide +kernel)) rfl [1000000, 1000001] 1500000 1600000 [3, 4, 5] (by exact hys) rfl
    (fun (o : Option (LTruth × Int)) => (match o with
      | none => [(1500000, .box (.dd [.clo 95 []])), (1500001, .box (.dd [i64 0, .nils, i64 0])), (1500002, .box (.dd [.bool false]))]
      | some x => [(1500000, .box (.dd [.clo 95 []])), (1500001, .box (.dd [i64 x.1.start, intsD x.1.speeds, i64 x.2])), (1500002, .box (.dd [.bool true]))], st))
    (fun (rest : List (LTruth × Int)) (o : Option (LTruth × Int)) => leastX items = rest.foldl leastS o ∧ (∀ x, o = some x → -1 ≤ x.2 ∧ x.2 ≤ 200) ∧ ∀ x ∈ rest, -1 ≤ x.2 ∧ x.2 ≤ 200) none rfl rfl rfl rfl ⟨rfl, ⟨fun x (h : none = some x) => (by cases h), hrng⟩⟩ ?_ ?_
  · rintro y rest o ⟨hk, ho, hr⟩ Q hQ1
    refine ⟨⟨rfl, rfl⟩, ?_⟩
    rw [List.foldl_cons] at hk
    have hy := hr y (by simp)
    have hrest : ∀ x ∈ rest, -1 ≤ x.2 ∧ x.2 ≤ 200 := fun l h => hr l (by simp [h])
    cases o with
    | none =>
      conv => whnf
      exact ⟨some y, (Wk.sub trivial ⟨(by first | rfl | (simp only [List.length_map]; rfl) | simp [PX.get]), (by first | rfl | (simp only [List.length_map]; rfl) | simp [PX.get]), (by first | rfl | (simp only [List.length_map]; rfl) | simp [PX.get]), trivial⟩), rfl, hQ1 _ ⟨hk, ⟨fun x h => (by cases h; exact hy), hrest⟩⟩⟩
    | some x =>
      have hx := ho x rfl
      conv => whnf
      refine CallA_v (la95 y x hy hx) rfl rfl ?_
      conv => whnf
      rw [leastS] at hk
      refine brk_i (fun h1 => ?_) (fun h1 => ?_)
      · have h1 : y.2 - x.2 < 0 := by simpa using h1
        rw [if_pos h1] at hk
        conv => whnf
        exact ⟨some y, (Wk.sub trivial ⟨(by first | rfl | (simp only [List.length_map]; rfl) | simp [PX.get]), (by first | rfl | (simp only [List.length_map]; rfl) | simp [PX.get]), (by first | rfl | (simp only [List.length_map]; rfl) | simp [PX.get]), trivial⟩), rfl, hQ1 _ ⟨hk, ⟨fun x h => (by cases h; exact hy), hrest⟩⟩⟩
      · have h1 : ¬ y.2 - x.2 < 0 := by simpa using h1
        rw [if_neg h1] at hk
        conv => whnf
        exact ⟨some x, (Wk.sub trivial ⟨(by first | rfl | (simp only [List.length_map]; rfl) | simp [PX.get]), (by first | rfl | (simp only [List.length_map]; rfl) | simp [PX.get]), (by first | rfl | (simp only [List.length_map]; rfl) | simp [PX.get]), trivial⟩), rfl, hQ1 _ ⟨hk, ⟨ho, hrest⟩⟩⟩
  · rintro o ⟨hk, ho, _⟩
    simp only [List.foldl_nil] at hk
    rw [hk]
    cases o with
    | none =>
      conv => whnf
      exact RetA_hand [] [.d (.agg [i64 0, .nils, i64 0]), .d (.bool false)] (tellH n) rfl ⟨rfl, rfl, trivial⟩ rfl ⟨⟨rfl, rfl⟩, rfl⟩
    | some x =>
      conv => whnf
      exact RetA_hand [] [.d (failedD x), .d (.bool true)] (tellH n) rfl ⟨rfl, rfl, trivial⟩ rfl ⟨⟨rfl, rfl⟩, rfl⟩

/-- What Kept returns: no truth agrees, the light is kept, or the first failure. -/
def keptE (c : LCase) (l : LLight) : Int := if entrE c [l] = 0 then (if agL c = [] then 9 else if leastX (failuresL l.phases (agL c)) = none then 4 else 0) else entrE c [l]
def keptX (c : LCase) (l : LLight) : LTruth × Int := if entrE c [l] = 0 then (leastX (failuresL l.phases (agL c))).getD (⟨0, []⟩, 0) else (⟨0, []⟩, 0)
def keptD (c : LCase) (l : LLight) : D := .tup [(keptX c l).1.d, i64 (keptX c l).2, i64 (keptE c l)]

set_option maxHeartbeats 1000000 in
theorem la32 (c : LCase) (l : LLight) : FnV Try.prog 32 [c.d, l.d] (keptD c l) := by
  refine fnV_of mixed tysOk Try.func32 rfl (ft := ft32) 2 (by decide +kernel) (by rfl) fun {σ} Y st => ?_
  conv => whnf
  refine CallA_view (la89 c [l]) rfl 1 rfl ?_
  conv => whnf
  by_cases h0 : entrE c [l] = 0
  case neg =>
    have he : keptE c l = entrE c [l] := by unfold keptE; rw [if_neg h0]
    have hv : keptX c l = (⟨0, []⟩, 0) := by unfold keptX; rw [if_neg h0]
    rw [keptD, he, hv]
    refine brk_i (fun _ => ?_) (fun h1 => absurd h1 (by simp [h0]))
    conv => whnf
    exact RetA_viewR 0 rfl rfl ⟨⟨rfl, rfl⟩, rfl⟩
  obtain ⟨h00, hl⟩ := entr_ok h0
  have hl := hl l (by simp)
  have he : keptE c l = (if agL c = [] then 9 else if leastX (failuresL l.phases (agL c)) = none then 4 else 0) := by unfold keptE; rw [if_pos h0]
  have hv : keptX c l = (leastX (failuresL l.phases (agL c))).getD (⟨0, []⟩, 0) := by unfold keptX; rw [if_pos h0]
  rw [keptD, he, hv]
  refine brk_i (fun h1 => absurd h1 (by simp [h0])) (fun _ => ?_)
  conv => whnf
  refine CallA_fn (la93 c l 0) [7] rfl ⟨_, _, rfl, rfl, rfl⟩ rfl ?_
  conv => whnf
  refine CallA_fn (la92 c l h00 hl) [101408, 7] ?_ ?_ ?_ ?_
  · exact sameVL_eq _ _ ⟨⟨rfl, rfl, ⟨rfl, rfl⟩, rfl, trivial⟩, rfl, trivial⟩
  · exact ⟨_, _, rfl, box_same rfl ⟨⟨rfl, ⟨rfl, rfl⟩, trivial⟩, trivial⟩, _, _, rfl, rfl, rfl⟩
  · rfl
  have hlen := agL_len h00
  cases hX : leastX (failuresL l.phases (agL c)) with
  | none =>
    conv => whnf
    refine brk_i (fun h1 => ?_) (fun h1 => ?_)
    · have h1 : agL c = [] := by simpa using h1
      conv => whnf
      rw [if_pos h1]
      exact RetA_viewR 0 rfl rfl ⟨⟨rfl, rfl⟩, rfl⟩
    · have h1 : ¬ agL c = [] := by simpa using h1
      conv => whnf
      rw [if_neg h1]
      exact RetA_viewR 0 rfl rfl ⟨⟨rfl, rfl⟩, rfl⟩
  | some x =>
    conv => whnf
    refine brk_i (fun h1 => ?_) (fun h1 => ?_)
    · have h1 : agL c = [] := by simpa using h1
      rw [h1] at hX
      cases hX
    · have h1 : ¬ agL c = [] := by simpa using h1
      conv => whnf
      rw [if_neg h1]
      exact RetA_view 0 rfl ⟨⟨rfl, rfl⟩, rfl⟩
end Go.PX

namespace Go.PX
open Go.Proofs

/- Lamp: Which (the program). -/

def keepsB (ps : List LPhase) (p : LTruth × List Bool) : Bool := decide (failsL p.2 ps < 0)

def whichF (A : List (LTruth × List Bool)) : List LLight → Int → List Int
  | [], _ => []
  | x :: r, i => if A.any (keepsB x.phases) then i :: whichF A r (i + 1) else whichF A r (i + 1)

def whichE (c : LCase) (l : List LLight) : Int := entrE c l
def whichV (c : LCase) (l : List LLight) : List Int := if entrE c l = 0 then whichF (agL c) l 0 else []

set_option maxHeartbeats 1000000 in
theorem la35 (c : LCase) (l : List LLight) : FnV Try.prog 35 [c.d, lightsD l] (.tup [intsD (whichV c l), i64 (entrE c l)]) := by
  refine fnV_of mixed tysOk Try.func35 rfl (ft := ft35) 2 (by decide +kernel) (by rfl) fun {σ} Y st => ?_
  conv => whnf
  refine CallA_v (la89 c l) rfl rfl ?_
  conv => whnf
  by_cases h0 : entrE c l = 0
  case neg =>
    have hv : whichV c l = [] := by unfold whichV; rw [if_neg h0]
    rw [hv]
    refine brk_i (fun _ => ?_) (fun h1 => absurd h1 (by simp [h0]))
    conv => whnf
    exact RetA_viewR 0 rfl rfl ⟨⟨rfl, rfl⟩, rfl⟩
  obtain ⟨h00, hl⟩ := entr_ok h0
  have hlen : l.length ≤ 6 := by
    have : (lightsF l).2 = 0 := by unfold entrE at h0; rwa [if_pos h00] at h0
    exact (lightsF_ok this).1.2
  have hR := checkL_ok h00
  have hn := hR.lamp.night
  have hv : whichV c l = whichF (agL c) l 0 := by unfold whichV; rw [if_pos h0]
  rw [hv]
  refine brk_i (fun h1 => absurd h1 (by simp [h0])) (fun _ => ?_)
  conv => whnf
  refine LoopA_i (T := tys) tysOk (by exact drawsB_spec mixed tysOk (by decide +kernel)) l (fun i (acc : List Int) => ⟨[(2, .ptr 2 0), (4, .ptr 4 0), (15, .d (lightsD l)), (16, .d (i64 l.length)), (17, .d (i64 i))], [(2, .box (.dd c.cells)), (4, .box (.vv [.sl 34 1 0 acc.length])), (34, .arr 1 (.dd (acc.map fun n => [i64 n])))], st⟩)
    (fun i r acc => whichF (agL c) l 0 = acc ++ whichF (agL c) r i ∧ acc.length ≤ i ∧ ∀ x ∈ r, LightR x) [] ((Wk.bornBox 4 34 1 rfl rfl rfl rfl).trans (Wk.sub ⟨(by first | rfl | (simp only [List.length_map]; rfl) | simp [PX.get]), (by first | rfl | (simp only [List.length_map]; rfl) | simp [PX.get]), (by first | rfl | (simp only [List.length_map]; rfl) | simp [PX.get]), (by first | rfl | (simp only [List.length_map]; rfl) | simp [PX.get]), (by first | rfl | (simp only [List.length_map]; rfl) | simp [PX.get]), trivial⟩ ⟨(by first | rfl | (simp only [List.length_map]; rfl) | simp [PX.get]), (by first | rfl | (simp only [List.length_map]; rfl) | simp [PX.get]), (by first | rfl | (simp only [List.length_map]; rfl) | simp [PX.get]), trivial⟩)) ⟨rfl, by simp, hl⟩ ?_ ?_
  · intro i x r acc hx hi hr ⟨he, hal, hlr⟩
    rw [whichF] at he
    have hxR := hlr x (by simp)
    have hlr : ∀ y ∈ r, LightR y := fun y hy => hlr y (by simp [hy])
    conv => whnf
    refine brk_i (fun _ => ?_) (fun h => absurd hi (by simpa using h))
    conv => whnf
    refine elemK_nat hx ?_
    conv => whnf
    refine CallA_v (la76 c hR) rfl rfl ?_
    conv => whnf
    refine RangeA_list tysOk (by exact drawsB_spec mixed tysOk (by decide +kernel)) (by exact drawsB_spec mixed tysOk (by decide +kernel)) rfl 1500000 1600000 [2, 4, 6, 7] (by exact yields_agree h00)
      (fun (_ : Unit) => ([(1500000, .box (.dd c.cells)), (1500001, .box (.vv [.sl 34 1 0 acc.length])), (34, .arr 1 (.dd (acc.map fun n => [i64 n]))), (1500002, .box (.dd [i64 i])), (1500003, .box (.dd x.cells))], st))
      (fun rest _ => (agL c).any (keepsB x.phases) = rest.any (keepsB x.phases) ∧ ∀ p ∈ rest, p.2.length = c.lamp.night.toNat) () rfl rfl rfl ⟨rfl, fun p hp => (agL_ok h00 hp).2.2⟩ ?_ ?_
    · rintro ⟨t, lit⟩ rest _ ⟨hk, hll⟩ Q hQ1 hQ2
      refine ⟨⟨rfl, rfl⟩, ?_⟩
      have hlen := hll (t, lit) (by simp)
      simp only at hlen
      have hrest : ∀ q ∈ rest, q.2.length = c.lamp.night.toNat := fun q hq => hll q (by simp [hq])
      have hne : lit ≠ [] := by rintro rfl; simp at hlen; omega
      rw [List.any_cons] at hk
      conv => whnf
      refine CallA_v (la90 lit x.phases hne (by omega) hxR.len) rfl rfl ?_
      conv => whnf
      refine brk_i (fun h1 => ?_) (fun h1 => ?_)
      · have h1 : keepsB x.phases (t, lit) = true := h1
        rw [h1, Bool.true_or] at hk
        rw [hk, if_pos rfl] at he
        conv => whnf
        refine ownK_whole rfl ?_
        conv => whnf
        refine ownK_whole (by simp [Els.len]) ?_
        conv => whnf
        refine chk_i (decide_eq_true (by
          show ((acc.map fun n => [i64 n]).length + 1) * 8 ≤ 140737488355328
          rw [List.length_map]; omega)) ?_
        conv => whnf
        refine ⟨[(1500000, .box (.dd c.cells)), (1500001, .box (.vv [.sl 34 1 0 (acc ++ [(i : Int)]).length])), (34, .arr 1 (.dd ((acc ++ [(i : Int)]).map fun n => [i64 n])))], st, Wk.sub trivial ⟨rfl, ?_, ?_, trivial⟩, rfl, hQ2 _ _ _ ?_⟩
        · simp [PX.get, Els.len]
        · simp [PX.get]
        · conv => whnf
          refine arith_in (wrap_i64 (by (try dsimp only); omega)) ?_
          conv => whnf
          exact ⟨acc ++ [(i : Int)], ⟨by rw [he]; simp, by simp; omega, hlr⟩, (Wk.sub ⟨(by first | rfl | (simp only [List.length_map]; rfl) | simp [PX.get]), (by first | rfl | (simp only [List.length_map]; rfl) | simp [PX.get]), (by first | rfl | (simp only [List.length_map]; rfl) | simp [PX.get]), (by first | rfl | (simp only [List.length_map]; rfl) | simp [PX.get]), (by first | rfl | (simp only [List.length_map]; rfl) | simp [PX.get]), trivial⟩ ⟨(by first | rfl | (simp only [List.length_map]; rfl) | simp [PX.get]), (by first | rfl | (simp only [List.length_map]; rfl) | simp [PX.get]), (by first | rfl | (simp only [List.length_map]; rfl) | simp [PX.get]), trivial⟩)⟩
      · have h1 : keepsB x.phases (t, lit) = false := h1
        rw [h1, Bool.false_or] at hk
        conv => whnf
        exact ⟨(), (Wk.sub trivial ⟨(by first | rfl | (simp only [List.length_map]; rfl) | simp [PX.get]), (by first | rfl | (simp only [List.length_map]; rfl) | simp [PX.get]), (by first | rfl | (simp only [List.length_map]; rfl) | simp [PX.get]), (by first | rfl | (simp only [List.length_map]; rfl) | simp [PX.get]), (by first | rfl | (simp only [List.length_map]; rfl) | simp [PX.get]), trivial⟩), rfl, hQ1 _ ⟨hk, hrest⟩⟩
    · rintro _ ⟨hk, _⟩
      rw [List.any_nil] at hk
      rw [hk, if_neg (by simp)] at he
      conv => whnf
      refine arith_in (wrap_i64 (by (try dsimp only); omega)) ?_
      conv => whnf
      exact ⟨acc, ⟨he, by omega, hlr⟩, (Wk.sub ⟨(by first | rfl | (simp only [List.length_map]; rfl) | simp [PX.get]), (by first | rfl | (simp only [List.length_map]; rfl) | simp [PX.get]), (by first | rfl | (simp only [List.length_map]; rfl) | simp [PX.get]), (by first | rfl | (simp only [List.length_map]; rfl) | simp [PX.get]), (by first | rfl | (simp only [List.length_map]; rfl) | simp [PX.get]), trivial⟩ ⟨(by first | rfl | (simp only [List.length_map]; rfl) | simp [PX.get]), (by first | rfl | (simp only [List.length_map]; rfl) | simp [PX.get]), (by first | rfl | (simp only [List.length_map]; rfl) | simp [PX.get]), trivial⟩)⟩
  · intro acc ⟨he, hal, _⟩
    rw [whichF, List.append_nil] at he
    rw [he]
    conv => whnf
    refine brk_i (fun h => absurd h (by simp)) (fun _ => ?_)
    conv => whnf
    rw [h0]
    exact RetA_view 1 (ds := [intsD acc, i64 0]) (viewL_cons (viewV_sl rfl (by simp)) rfl) ⟨⟨rfl, rfl⟩, rfl⟩
end Go.PX

namespace Go.PX
open Go.Proofs

/- Lamp: Longest and Wind (the program). -/

theorem relaxE_spans : ∀ l : List Span, relaxE (l.map Span.cells) = l.map Span.cells
  | [] => rfl
  | s :: r => by
    rw [List.map_cons, relaxE, relaxE_spans r]; rfl

/-- The case of a lamp alone. -/
def aloneC (x : LLamp) : LCase := ⟨x, [], []⟩

def anyStart (x : LLamp) : LLamp := { x with start := ⟨0, x.drum - 1⟩ }

theorem la96 (s : Int) (b : Bool) : FnV Try.prog 96 [i64 s, .bool b] (.bool true) := by
  refine fnV_of mixed tysOk Try.func96 rfl (ft := ft96) 2 (by decide +kernel) (by rfl) fun {σ} Y st => ?_
  conv => whnf
  exact RetA_view 0 rfl ⟨⟨rfl, rfl⟩, rfl⟩

def anyC (x : LLamp) : List (LTruth × List Bool) := truL (anyStart x) [] trueF

def longStep (ps : List LPhase) (n : Int) (p : LTruth × List Bool) : Int := if failsL p.2 ps ≥ 0 then min n (failsL p.2 ps) else n
def longF (x : LLamp) (ps : List LPhase) : Int := (anyC x).foldl (longStep ps) x.night
def longE (x : LLamp) (l : LLight) : Int := entrE (aloneC x) [l]
def longV (x : LLamp) (l : LLight) : Int := if longE x l = 0 then longF x l.phases else 0

theorem LampR.any {x : LLamp} (h : LampR x) : LampR (anyStart x) := ⟨h.drum, h.slow, h.night, h.lits, h.lit, by
  have := h.drum
  show 0 ≤ (0 : Int) ∧ (0 : Int) ≤ x.drum - 1 ∧ x.drum - 1 ≤ x.drum - 1
  omega, h.speed⟩

theorem failsF_lo {l : List LPhase} {lit : List Bool} (h : 0 ≤ failsL lit l) : 1 ≤ failsL lit l := by
  unfold failsL at h ⊢
  cases lit with
  | nil => simp at h
  | cons b r =>
    have := failsF_rng (l := l) (r := r) (b := b) (A := initA b l.length) (s := 1)
    simp only at h ⊢
    omega

theorem upW_nil (x : LLamp) : upW x [] := trivial
theorem upF_nil {x : LLamp} (h : LampR x) : upF x 0 [] := by
  have := h.night
  show 0 ≤ x.night
  omega

theorem anyC_len {x : LLamp} (h : LampR x) {p : LTruth × List Bool} (hp : p ∈ anyC x) : p.2.length = x.night.toNat := by
  unfold anyC at hp
  rw [truL_all (upF_nil h.any)] at hp
  obtain ⟨t, _, rfl⟩ := List.mem_map.1 hp
  simp only [courseL, courseF_len]; rfl

set_option maxHeartbeats 1000000 in
theorem la37 (x : LLamp) (l : LLight) : FnV Try.prog 37 [x.d, l.d] (.tup [i64 (longV x l), i64 (longE x l)]) := by
  refine fnV_of mixed tysOk Try.func37 rfl (ft := ft37) 2 (by decide +kernel) (by rfl) fun {σ} Y st => ?_
  conv => whnf
  refine CallA_rep (args' := [.d (aloneC x).d, .sl 13 2 0 1]) (fun yv L F w vs => ?_) ?_
  · rintro ⟨a, r, rfl, ha, hr⟩
    refine ⟨a, r, rfl, ?_, hr⟩
    have e : relax (.agg (x.cells ++ [.nils, .nils])) = (aloneC x).d := by
      show D.agg (relaxL (x.cells ++ [.nils, .nils])) = _
      simp only [LLamp.cells, List.cons_append, List.nil_append, relaxL, relax, spansD, relaxE_spans]
      rfl
    exact e ▸ RepD.relax _ _ (show RepD F w (.agg (x.cells ++ [.nils, .nils])) a from ha)
  refine CallA_view (la89 (aloneC x) [l]) rfl 1 rfl ?_
  conv => whnf
  by_cases h0 : longE x l = 0
  case neg =>
    have hv : longV x l = 0 := by unfold longV; rw [if_neg h0]
    rw [hv]
    unfold longE at h0 ⊢
    refine brk_i (fun _ => ?_) (fun h1 => absurd h1 (by simp [h0]))
    conv => whnf
    exact RetA_view 0 rfl ⟨⟨rfl, rfl⟩, rfl⟩
  have hv : longV x l = longF x l.phases := by unfold longV; rw [if_pos h0]
  rw [hv]
  unfold longE at h0 ⊢
  obtain ⟨h00, hl⟩ := entr_ok h0
  have hlR := hl l (by simp)
  have hR0 := (checkL_ok h00).lamp
  have hR0 : LampR x := hR0
  have hR := hR0.any
  have hn := hR0.night
  have hd := hR0.drum
  refine brk_i (fun h1 => absurd h1 (by simp [h0])) (fun _ => ?_)
  conv => whnf
  refine arith_in (wrap_i64 (by (try dsimp only); omega)) ?_
  conv => whnf
  refine CallA_v (la80 (anyStart x) hR) rfl rfl ?_
  conv => whnf
  refine CallA_nil1 (CallA_v (la81 (anyStart x) [] 96 []) rfl rfl ?_)
  conv => whnf
  refine RangeA_list tysOk (by exact drawsB_spec mixed tysOk (by decide +kernel)) (by exact drawsB_spec mixed tysOk (by decide +kernel)) rfl 1500000 1600000 [2, 3, 7] (by exact fun {γ} => yields112 hR (w := []) (by simp) (by simp) (upW_nil _) (fun s b _ => la96 s b))
    (fun (n : Int) => ([(1500000, .box (.dd (anyStart x).cells)), (1500001, .box (.dd l.cells)), (13, .arr 2 (.dd [l.cells])), (1500002, .box (.dd [i64 n]))], st))
    (fun rest n => longF x l.phases = rest.foldl (longStep l.phases) n ∧ ∀ p ∈ rest, p.2.length = x.night.toNat) x.night rfl rfl rfl ⟨rfl, fun p hp => anyC_len hR0 hp⟩ ?_ ?_
  · rintro ⟨t, lit⟩ rest n ⟨hk, hll⟩ Q hQ1 -
    refine ⟨⟨rfl, rfl⟩, ?_⟩
    rw [List.foldl_cons] at hk
    have hlen := hll (t, lit) (by simp)
    simp only at hlen
    have hrest : ∀ q ∈ rest, q.2.length = x.night.toNat := fun q hq => hll q (by simp [hq])
    have hne : lit ≠ [] := by rintro rfl; simp at hlen; omega
    conv => whnf
    refine CallA_v (la90 lit l.phases hne (by omega) hlR.len) rfl rfl ?_
    conv => whnf
    rw [longStep] at hk
    refine brk_i (fun h1 => ?_) (fun h1 => ?_)
    · have h1 : failsL lit l.phases ≥ 0 := by simpa using h1
      rw [if_pos h1] at hk
      conv => whnf
      exact ⟨min n (failsL lit l.phases), (Wk.sub trivial ⟨(by first | rfl | (simp only [List.length_map]; rfl) | simp [PX.get]), (by first | rfl | (simp only [List.length_map]; rfl) | simp [PX.get]), (by first | rfl | (simp only [List.length_map]; rfl) | simp [PX.get]), (by first | rfl | (simp only [List.length_map]; rfl) | simp [PX.get]), trivial⟩), rfl, hQ1 _ ⟨hk, hrest⟩⟩
    · have h1 : ¬ failsL lit l.phases ≥ 0 := by simpa using h1
      rw [if_neg h1] at hk
      conv => whnf
      exact ⟨n, (Wk.sub trivial ⟨(by first | rfl | (simp only [List.length_map]; rfl) | simp [PX.get]), (by first | rfl | (simp only [List.length_map]; rfl) | simp [PX.get]), (by first | rfl | (simp only [List.length_map]; rfl) | simp [PX.get]), (by first | rfl | (simp only [List.length_map]; rfl) | simp [PX.get]), trivial⟩), rfl, hQ1 _ ⟨hk, hrest⟩⟩
  · rintro n ⟨hk, _⟩
    rw [List.foldl_nil] at hk
    rw [hk]
    conv => whnf
    rw [h0]
    exact RetA_view 0 rfl ⟨⟨rfl, rfl⟩, rfl⟩
end Go.PX

namespace Go.PX
open Go.Proofs

/- Lamp: Wind (the program). -/

def windL (k : Nat) (n : Int) : List Int := (List.range k).map fun (i : Nat) => ((i : Int) + 1) * n
def windV (x : LLamp) (l : LLight) : List Int := if longE x l = 0 then windL ((x.night - 1).tdiv (longV x l)).toNat (longV x l) else []

theorem windL_succ (k : Nat) (n : Int) : windL (k + 1) n = windL k n ++ [((k : Int) + 1) * n] := by
  unfold windL
  rw [List.range_succ, List.map_append]; rfl

theorem windL_len (k : Nat) (n : Int) : (windL k n).length = k := by simp [windL]

theorem longF_rng {x : LLamp} {ps : List LPhase} (h : LampR x) : 1 ≤ longF x ps ∧ longF x ps ≤ x.night := by
  have hn := h.night
  unfold longF
  have key : ∀ (l : List (LTruth × List Bool)) (n : Int), 1 ≤ n ∧ n ≤ x.night → 1 ≤ l.foldl (longStep ps) n ∧ l.foldl (longStep ps) n ≤ x.night := by
    intro l
    induction l with
    | nil => exact fun n h => h
    | cons p r ih =>
      intro n hn
      rw [List.foldl_cons]
      refine ih _ ?_
      unfold longStep
      split
      · rename_i h1
        have := failsF_lo h1
        omega
      · exact hn
  exact key _ _ ⟨hn.1, Int.le_refl _⟩

theorem long_ok {x : LLamp} {l : LLight} (h : longE x l = 0) : LampR x ∧ LightR l := by
  obtain ⟨h1, h2⟩ := entr_ok h
  exact ⟨(checkL_ok h1).lamp, h2 l (by simp)⟩

set_option maxHeartbeats 1000000 in
theorem la39 (x : LLamp) (l : LLight) : FnV Try.prog 39 [x.d, l.d] (.tup [intsD (windV x l), i64 (longE x l)]) := by
  refine fnV_of mixed tysOk Try.func39 rfl (ft := ft39) 2 (by decide +kernel) (by rfl) fun {σ} Y st => ?_
  conv => whnf
  refine CallA_v (la37 x l) rfl rfl ?_
  conv => whnf
  by_cases h0 : longE x l = 0
  case neg =>
    have hv : windV x l = [] := by unfold windV; rw [if_neg h0]
    rw [hv]
    refine brk_i (fun _ => ?_) (fun h1 => absurd h1 (by simp [h0]))
    conv => whnf
    exact RetA_viewR 0 rfl rfl ⟨⟨rfl, rfl⟩, rfl⟩
  have hv : windV x l = windL ((x.night - 1).tdiv (longV x l)).toNat (longV x l) := by unfold windV; rw [if_pos h0]
  have hR := (long_ok h0).1
  have hl := longF_rng (ps := l.phases) hR
  have hlv : longV x l = longF x l.phases := by unfold longV; rw [if_pos h0]
  rw [← hlv] at hl
  rw [hv]
  have hn := hR.night
  refine brk_i (fun h1 => absurd h1 (by simp [h0])) (fun _ => ?_)
  conv => whnf
  refine arith_in (wrap_i64 (by (try dsimp only); omega)) ?_
  conv => whnf
  refine chk_i (decide_eq_true (by omega)) ?_
  conv => whnf
  have hq : 0 ≤ (x.night - 1).tdiv (longV x l) ∧ (x.night - 1).tdiv (longV x l) * longV x l ≤ x.night - 1 := by
    rw [Int.tdiv_eq_ediv_of_nonneg (by omega)]
    exact ⟨Int.ediv_nonneg (by omega) (by omega), Int.ediv_mul_le _ (by omega)⟩
  have hq2 : (x.night - 1).tdiv (longV x l) ≤ 200 := by
    rw [Int.tdiv_eq_ediv_of_nonneg (by omega)]
    have := Int.ediv_le_self (a := x.night - 1) (longV x l) (by omega)
    omega
  generalize (x.night - 1).tdiv (longV x l) = k at hq hq2
  generalize longV x l = n at hl hq
  obtain ⟨K, rfl⟩ := Int.eq_ofNat_of_zero_le hq.1
  refine arith_in (wrap_i64 (by (try dsimp only); omega)) ?_
  conv => whnf
  refine LoopA_p (T := tys) tysOk (by exact drawsB_spec mixed tysOk (by decide +kernel)) (α := Nat)
    (fun i => ⟨[(4, .sl 31 1 0 i), (5, .d (i64 (longE x l))), (6, .d (i64 n)), (21, .d (i64 K)), (22, .d (i64 i))], [(31, .arr 1 (.dd ((windL i n).map fun n => [i64 n])))], st⟩) (fun i => i ≤ K) (fun i => K - i) 0 ((Wk.born 4 31 1 rfl rfl rfl).trans (Wk.sub ⟨(by first | rfl | (simp only [List.length_map]; rfl) | simp [PX.get]), (by first | rfl | (simp only [List.length_map]; rfl) | simp [PX.get]), (by first | rfl | (simp only [List.length_map]; rfl) | simp [PX.get]), (by first | rfl | (simp only [List.length_map]; rfl) | simp [PX.get]), (by first | rfl | (simp only [List.length_map]; rfl) | simp [PX.get]), trivial⟩ ⟨(by first | rfl | (simp only [List.length_map]; rfl) | simp [PX.get]), trivial⟩)) (Nat.zero_le _) ?_
  intro i hi
  have hil : (windL i n).length = i := windL_len i n
  conv => whnf
  refine brk_i (fun h1 => ?_) (fun h1 => ?_)
  · have h1 : i < K := by have := of_decide_eq_true h1; omega
    have hm0 : 0 ≤ ((i : Int) + 1) * n := Int.mul_nonneg (by omega) (by omega)
    have hm : ((i : Int) + 1) * n ≤ x.night - 1 := Int.le_trans (Int.mul_le_mul_of_nonneg_right (by omega) (by omega)) hq.2
    conv => whnf
    refine arith_in (wrap_i64 (by (try dsimp only); omega)) ?_
    conv => whnf
    refine arith_in (wrap_i64 (by omega)) ?_
    conv => whnf
    refine ownK_whole rfl ?_
    conv => whnf
    refine ownK_whole (by simp [Els.len, hil]) ?_
    conv => whnf
    refine chk_i (decide_eq_true (by
      show (((windL i n).map fun n => [i64 n]).length + 1) * 8 ≤ 140737488355328
      rw [List.length_map]; omega)) ?_
    conv => whnf
    refine arith_in (wrap_i64 (by (try dsimp only); omega)) ?_
    conv => whnf
    refine ⟨i + 1, (by show K - (i + 1) < K - i; omega), (by show i + 1 ≤ K; omega), Wk.sub ⟨?_, rfl, rfl, rfl, rfl, trivial⟩ ⟨?_, trivial⟩⟩
    · simp [PX.get, Els.len, hil]
    · rw [windL_succ]; simp [PX.get]
  · have h1 : i = K := by have := of_decide_eq_false h1; omega
    subst h1
    conv => whnf
    rw [h0]
    exact RetA_view 1 (ds := [intsD (windL i n), i64 0]) (viewL_cons (viewV_sl rfl (by simp [hil])) rfl) ⟨⟨rfl, rfl⟩, rfl⟩
end Go.PX

namespace Go.PX
open Go.Proofs

/- Lamp: the makers of the examples. -/

theorem la59 (s : Int) (b : Bool) : FnV Try.prog 59 [i64 s, .bool b] (.agg [i64 s, .bool b]) := by
  refine fnV_of mixed tysOk Try.func59 rfl (ft := ft59) 2 (by decide +kernel) (by rfl) fun {σ} Y st => ?_
  conv => whnf
  exact RetA_view 0 rfl ⟨⟨rfl, rfl⟩, rfl⟩

def lampK : LLamp := ⟨12, [⟨0, 2⟩], ⟨0, 1⟩, ⟨1, 2⟩, 100, 24⟩

theorem la41 : FnV Try.prog 41 [] lampK.d := by
  refine fnV_of mixed tysOk Try.func41 rfl (ft := ft41) 0 (by decide +kernel) (by rfl) fun {σ} Y st => ?_
  conv => whnf
  refine CallA_v (ds := [i64 0, i64 2]) (fn28 0 2) rfl rfl ?_
  conv => whnf
  refine CallA_v (ds := [i64 0, i64 1]) (fn28 0 1) rfl rfl ?_
  conv => whnf
  refine CallA_v (ds := [i64 1, i64 2]) (fn28 1 2) rfl rfl ?_
  conv => whnf
  exact RetA_view 2 rfl ⟨⟨rfl, rfl⟩, rfl⟩

def caseK (l : List LSight) : LCase := ⟨lampK, [], [⟨3, false⟩, ⟨12, true⟩] ++ l⟩

theorem la42_0 : FnV Try.prog 42 [.nils] (caseK []).d := by
  refine fnV_of mixed tysOk Try.func42 rfl (ft := ft42) 1 (by decide +kernel) (by rfl) fun {σ} Y st => ?_
  conv => whnf
  refine CallA_v (la41) rfl rfl ?_
  conv => whnf
  refine CallA_v (ds := [i64 3, .bool false]) (la59 3 false) rfl rfl ?_
  conv => whnf
  refine CallA_v (ds := [i64 12, .bool true]) (la59 12 true) rfl rfl ?_
  conv => whnf
  refine ownK_whole rfl ?_
  conv => whnf
  exact RetA_viewR 2 rfl rfl ⟨⟨rfl, rfl⟩, rfl⟩
theorem la42_1 : FnV Try.prog 42 [.vs [[i64 13, .bool false]]] (caseK [⟨13, false⟩]).d := by
  refine fnV_of mixed tysOk Try.func42 rfl (ft := ft42) 1 (by decide +kernel) (by rfl) fun {σ} Y st => ?_
  conv => whnf
  refine CallA_v (la41) rfl rfl ?_
  conv => whnf
  refine CallA_v (ds := [i64 3, .bool false]) (la59 3 false) rfl rfl ?_
  conv => whnf
  refine CallA_v (ds := [i64 12, .bool true]) (la59 12 true) rfl rfl ?_
  conv => whnf
  refine ownK_whole rfl ?_
  conv => whnf
  exact RetA_viewR 2 rfl rfl ⟨⟨rfl, rfl⟩, rfl⟩
theorem la42_2 : FnV Try.prog 42 [.vs [[i64 13, .bool false], [i64 18, .bool false]]] (caseK [⟨13, false⟩, ⟨18, false⟩]).d := by
  refine fnV_of mixed tysOk Try.func42 rfl (ft := ft42) 1 (by decide +kernel) (by rfl) fun {σ} Y st => ?_
  conv => whnf
  refine CallA_v (la41) rfl rfl ?_
  conv => whnf
  refine CallA_v (ds := [i64 3, .bool false]) (la59 3 false) rfl rfl ?_
  conv => whnf
  refine CallA_v (ds := [i64 12, .bool true]) (la59 12 true) rfl rfl ?_
  conv => whnf
  refine ownK_whole rfl ?_
  conv => whnf
  exact RetA_viewR 2 rfl rfl ⟨⟨rfl, rfl⟩, rfl⟩

theorem la97 (n : ByteArray) (a b c d : Int) : FnV Try.prog 97 [.str n, i64 a, i64 b, i64 c, i64 d] (LLight.d ⟨n, [⟨⟨a, b⟩, ⟨c, d⟩⟩]⟩) := by
  refine fnV_of mixed tysOk Try.func97 rfl (ft := ft97) 5 (by decide +kernel) (by rfl) fun {σ} Y st => ?_
  conv => whnf
  refine CallA_v (fn28 a b) rfl rfl ?_
  conv => whnf
  refine CallA_v (fn28 c d) rfl rfl ?_
  conv => whnf
  exact RetA_view 2 rfl ⟨⟨rfl, rfl⟩, rfl⟩

def sunkB : ByteArray := ⟨#[115, 117, 110, 107]⟩
def noreB : ByteArray := ⟨#[110, 111, 114, 101]⟩
def sunkK : LLight := ⟨sunkB, [⟨⟨1, 2⟩, ⟨4, 5⟩⟩]⟩
def noreK : LLight := ⟨noreB, [⟨⟨1, 3⟩, ⟨3, 9⟩⟩]⟩

theorem la44 : FnV Try.prog 44 [] sunkK.d := by
  refine fnV_of mixed tysOk Try.func44 rfl (ft := ft44) 0 (by decide +kernel) (by rfl) fun {σ} Y st => ?_
  conv => whnf
  refine CallA_v (ds := [.str sunkB, i64 1, i64 2, i64 4, i64 5]) (la97 sunkB 1 2 4 5) rfl rfl ?_
  conv => whnf
  exact RetA_view 0 rfl ⟨⟨rfl, rfl⟩, rfl⟩
theorem la45 : FnV Try.prog 45 [] noreK.d := by
  refine fnV_of mixed tysOk Try.func45 rfl (ft := ft45) 0 (by decide +kernel) (by rfl) fun {σ} Y st => ?_
  conv => whnf
  refine CallA_v (ds := [.str noreB, i64 1, i64 3, i64 3, i64 9]) (la97 noreB 1 3 3 9) rfl rfl ?_
  conv => whnf
  exact RetA_view 0 rfl ⟨⟨rfl, rfl⟩, rfl⟩

theorem la43 (s v : Int) : FnV Try.prog 43 [i64 s, i64 v] (LTruth.d ⟨s, [v]⟩) := by
  refine fnV_of mixed tysOk Try.func43 rfl (ft := ft43) 2 (by decide +kernel) (by rfl) fun {σ} Y st => ?_
  conv => whnf
  exact RetA_view 2 rfl ⟨⟨rfl, rfl⟩, rfl⟩

theorem la34 (a b : LTruth) (ha : a.speeds.length < 1000000) : FnV Try.prog 34 [a.d, b.d] (.bool (decide (a = b))) := by
  refine fnV_of mixed tysOk Try.func34 rfl (ft := ft34) 2 (by decide +kernel) (by rfl) fun {σ} Y st => ?_
  conv => whnf
  have he : (decide (a = b)) = (decide (a.start = b.start) && decide (a.speeds = b.speeds)) := by
    rw [Bool.eq_iff_iff, Bool.and_eq_true, decide_eq_true_eq, decide_eq_true_eq, decide_eq_true_eq]
    constructor
    · rintro rfl; exact ⟨rfl, rfl⟩
    · rintro ⟨h1, h2⟩; cases a; cases b; simp_all
  rw [he]
  by_cases h1 : a.start = b.start
  · rw [decide_eq_true h1]
    conv => whnf
    refine CallA_v (fn19 a.speeds b.speeds ha) rfl rfl ?_
    conv => whnf
    exact RetA_view 0 rfl ⟨⟨rfl, rfl⟩, rfl⟩
  · rw [decide_eq_false h1]
    conv => whnf
    exact RetA_view 0 rfl ⟨⟨rfl, rfl⟩, rfl⟩
end Go.PX

namespace Go.PX
open Go.Proofs

/- Lamp: the values of the examples. -/

theorem vS : showE (caseK []) ⟨1, [2]⟩ = 0 ∧ showL (caseK []) ⟨1, [2]⟩ = [⟨0, 0⟩, ⟨6, 6⟩, ⟨12, 12⟩, ⟨18, 18⟩] := by decide +kernel
theorem vR : rangeE (caseK [⟨13, false⟩]) = 0 ∧ rangeA (caseK [⟨13, false⟩]) = ⟨1, 1⟩ ∧ rangeB' (caseK [⟨13, false⟩]) = [⟨2, 2⟩] := by decide +kernel
theorem vA1 : atE (caseK []) 2 = 0 ∧ atV (caseK []) 2 = 2 := by decide +kernel
theorem vA2 : atE (caseK [⟨13, false⟩]) 6 = 0 ∧ atV (caseK [⟨13, false⟩]) 6 = 1 := by decide +kernel
theorem vW : (checkL (caseK [⟨13, false⟩, ⟨18, false⟩])).2.2 = 0 ∧ wrongV (caseK [⟨13, false⟩, ⟨18, false⟩]) = [2] := by decide +kernel
theorem vF1 : failE (caseK []) sunkK ⟨0, [1]⟩ = 0 ∧ failV (caseK []) sunkK ⟨0, [1]⟩ = 2 := by decide +kernel
theorem vF2 : failE (caseK []) noreK ⟨0, [1]⟩ = 0 ∧ failV (caseK []) noreK ⟨0, [1]⟩ = -1 := by decide +kernel
theorem vK1 : keptE (caseK []) sunkK = 0 ∧ keptX (caseK []) sunkK = (⟨0, [1]⟩, 2) := by decide +kernel
theorem vK2 : keptE (caseK [⟨13, false⟩]) sunkK = 4 := by decide +kernel
theorem vWh : entrE (caseK []) [noreK, sunkK] = 0 ∧ whichV (caseK []) [noreK, sunkK] = [0, 1] := by decide +kernel
theorem vL : longE lampK sunkK = 0 ∧ longV lampK sunkK = 2 := by decide +kernel
theorem vWi : windV lampK sunkK = [2, 4, 6, 8, 10, 12, 14, 16, 18, 20, 22] := by decide +kernel
theorem vT : (lightsF [noreK, noreK]).2 = 5 := by decide +kernel
end Go.PX

namespace Go.PX
open Go.Proofs

/- Lamp: Awake. -/

theorem kS : FnV Try.prog 19 [(caseK []).d, LTruth.d ⟨1, [2]⟩] (.tup [spansD [⟨0, 0⟩, ⟨6, 6⟩, ⟨12, 12⟩, ⟨18, 18⟩], i64 0]) := FnV.cast (la19 _ _) (by rw [vS.1, vS.2])
theorem kR : FnV Try.prog 23 [(caseK [⟨13, false⟩]).d] (.tup [Span.d ⟨1, 1⟩, spansD [⟨2, 2⟩], i64 0]) := FnV.cast (la23 _) (by rw [vR.1, vR.2.1, vR.2.2])
theorem kA1 : FnV Try.prog 25 [(caseK []).d, i64 2] (.tup [i64 2, i64 0]) := FnV.cast (la25 _ _) (by rw [vA1.1, vA1.2])
theorem kA2 : FnV Try.prog 25 [(caseK [⟨13, false⟩]).d, i64 6] (.tup [i64 1, i64 0]) := FnV.cast (la25 _ _) (by rw [vA2.1, vA2.2])
theorem kW : FnV Try.prog 27 [(caseK [⟨13, false⟩, ⟨18, false⟩]).d] (.tup [intsD [2], i64 0]) := FnV.cast (la27 _) (by rw [vW.1, vW.2])
theorem kF1 : FnV Try.prog 30 [(caseK []).d, sunkK.d, LTruth.d ⟨0, [1]⟩] (.tup [i64 2, i64 0]) := FnV.cast (la30 _ _ _) (by rw [vF1.1, vF1.2])
theorem kF2 : FnV Try.prog 30 [(caseK []).d, noreK.d, LTruth.d ⟨0, [1]⟩] (.tup [i64 (-1), i64 0]) := FnV.cast (la30 _ _ _) (by rw [vF2.1, vF2.2])
theorem kK1 : FnV Try.prog 32 [(caseK []).d, sunkK.d] (.tup [LTruth.d ⟨0, [1]⟩, i64 2, i64 0]) := FnV.cast (la32 _ _) (by rw [keptD, vK1.1, vK1.2])
theorem kK2 : FnV Try.prog 32 [(caseK [⟨13, false⟩]).d, sunkK.d] (.tup [(keptX (caseK [⟨13, false⟩]) sunkK).1.d, i64 (keptX (caseK [⟨13, false⟩]) sunkK).2, i64 4]) := FnV.cast (la32 _ _) (by rw [keptD, vK2])
theorem kWh : FnV Try.prog 35 [(caseK []).d, lightsD [noreK, sunkK]] (.tup [intsD [0, 1], i64 0]) := FnV.cast (la35 _ _) (by rw [vWh.1, vWh.2])
theorem kL : FnV Try.prog 37 [lampK.d, sunkK.d] (.tup [i64 2, i64 0]) := FnV.cast (la37 _ _) (by rw [vL.1, vL.2])
theorem kWi : FnV Try.prog 39 [lampK.d, sunkK.d] (.tup [intsD [2, 4, 6, 8, 10, 12, 14, 16, 18, 20, 22], i64 0]) := FnV.cast (la39 _ _) (by rw [vWi, vL.1])
theorem kT : FnV Try.prog 17 [lightsD [noreK, noreK]] (.tup [i64 (lightsF [noreK, noreK]).1, i64 5]) := FnV.cast (la17 _) (by rw [vT])

set_option maxHeartbeats 4000000 in
theorem la22 : FnV Try.prog 22 [] (.bool true) := by
  refine fnV_of mixed tysOk Try.func22 rfl (ft := ft22) 0 (by decide +kernel) (by rfl) fun {σ} Y st => ?_
  conv => whnf
  refine CallA_v (ds := [i64 13, .bool false]) (la59 13 false) rfl rfl ?_
  conv => whnf
  refine CallA_fz la42_1 1 [32] rfl rfl ?_
  conv => whnf
  refine CallA_v la42_0 rfl rfl ?_
  conv => whnf
  refine CallA_v (ds := [i64 1, i64 2]) (la43 1 2) rfl rfl ?_
  conv => whnf
  refine CallA_v (kS) rfl rfl ?_
  conv => whnf
  refine CallA_v (kR) rfl rfl ?_
  conv => whnf
  refine CallA_v la42_0 rfl rfl ?_
  conv => whnf
  refine CallA_v (kA1) rfl rfl ?_
  conv => whnf
  refine CallA_v (kA2) rfl rfl ?_
  conv => whnf
  refine CallA_v (ds := [i64 13, .bool false]) (la59 13 false) rfl rfl ?_
  conv => whnf
  refine CallA_v (ds := [i64 18, .bool false]) (la59 18 false) rfl rfl ?_
  conv => whnf
  refine CallA_fz la42_2 1 [59] rfl rfl ?_
  conv => whnf
  refine CallA_v (kW) rfl rfl ?_
  conv => whnf
  refine CallA_v la42_0 rfl rfl ?_
  conv => whnf
  refine CallA_v (la44) rfl rfl ?_
  conv => whnf
  refine CallA_v (ds := [i64 0, i64 1]) (la43 0 1) rfl rfl ?_
  conv => whnf
  refine CallA_v (kF1) rfl rfl ?_
  conv => whnf
  refine CallA_v la42_0 rfl rfl ?_
  conv => whnf
  refine CallA_v (la45) rfl rfl ?_
  conv => whnf
  refine CallA_v (ds := [i64 0, i64 1]) (la43 0 1) rfl rfl ?_
  conv => whnf
  refine CallA_v (kF2) rfl rfl ?_
  conv => whnf
  refine CallA_v la42_0 rfl rfl ?_
  conv => whnf
  refine CallA_v (la44) rfl rfl ?_
  conv => whnf
  refine CallA_v (kK1) rfl rfl ?_
  conv => whnf
  refine DrawCall_v la44 rfl rfl ?_
  conv => whnf
  refine DrawCall_v kK2 rfl rfl ?_
  conv => whnf
  refine CallA_v la42_0 rfl rfl ?_
  conv => whnf
  refine CallA_v (la45) rfl rfl ?_
  conv => whnf
  refine CallA_v (la44) rfl rfl ?_
  conv => whnf
  refine CallA_fz kWh 1 [96] rfl rfl ?_
  conv => whnf
  refine CallA_v (la41) rfl rfl ?_
  conv => whnf
  refine CallA_v (la44) rfl rfl ?_
  conv => whnf
  refine CallA_v (kL) rfl rfl ?_
  conv => whnf
  refine CallA_v (la41) rfl rfl ?_
  conv => whnf
  refine CallA_v (la44) rfl rfl ?_
  conv => whnf
  refine CallA_v (kWi) rfl rfl ?_
  conv => whnf
  refine CallA_v (la45) rfl rfl ?_
  conv => whnf
  refine CallA_v (la45) rfl rfl ?_
  conv => whnf
  refine CallA_view kT rfl 1 rfl ?_
  conv => whnf
  refine DrawCall_v (ds := [i64 0, i64 0]) (fn28 0 0) rfl rfl ?_
  conv => whnf
  refine DrawCall_v (ds := [i64 6, i64 6]) (fn28 6 6) rfl rfl ?_
  conv => whnf
  refine DrawCall_v (ds := [i64 12, i64 12]) (fn28 12 12) rfl rfl ?_
  conv => whnf
  refine DrawCall_v (ds := [i64 18, i64 18]) (fn28 18 18) rfl rfl ?_
  conv => whnf
  refine DrawCall_view (fn45 [⟨0, 0⟩, ⟨6, 6⟩, ⟨12, 12⟩, ⟨18, 18⟩] [⟨0, 0⟩, ⟨6, 6⟩, ⟨12, 12⟩, ⟨18, 18⟩] (by decide)) rfl 1 rfl ?_
  conv => whnf
  refine DrawCall_v (ds := [i64 1, i64 1]) (fn28 1 1) rfl rfl ?_
  conv => whnf
  refine DrawCall_v (ds := [i64 2, i64 2]) (fn28 2 2) rfl rfl ?_
  conv => whnf
  refine DrawCall_view (fn45 [⟨2, 2⟩] [⟨2, 2⟩] (by decide)) rfl 1 rfl ?_
  conv => whnf
  refine DrawCall_view (fn19 [2] [2] (by decide)) rfl 1 rfl ?_
  conv => whnf
  refine DrawCall_v (ds := [i64 0, i64 1]) (la43 0 1) rfl rfl ?_
  conv => whnf
  refine DrawCall_v (la34 ⟨0, [1]⟩ ⟨0, [1]⟩ (by decide)) rfl rfl ?_
  conv => whnf
  refine DrawCall_view (fn19 [0, 1] [0, 1] (by decide)) rfl 1 rfl ?_
  conv => whnf
  exact RetA_view 0 rfl ⟨⟨rfl, rfl⟩, rfl⟩
end Go.PX

namespace Go.PX
open Go.Proofs

/- Lamp: what the outright statements call: valid, lights, turn, among, Truth, has. -/

def bytesD (l : List Int) : D := .vs (l.map fun b => [.int .u8 b])
def turnF (x : List Int) (n : Nat) : Int := if x = [] then 0 else x.getD (n % x.length) 0
def valL (c : LCase) : Bool := decide ((checkL c).2.2 = 0)
def lightsB (l : List LLight) : Bool := decide ((lightsF l).2 = 0)

theorem la47 (c : LCase) : FnV Try.prog 47 [c.d] (.bool (valL c)) := by
  refine fnV_of mixed tysOk Try.func47 rfl (ft := ft47) 1 (by decide +kernel) (by rfl) fun {σ} Y st => ?_
  conv => whnf
  refine CallA_v (la16 c) rfl rfl ?_
  conv => whnf
  exact RetA_view 0 rfl ⟨⟨rfl, rfl⟩, rfl⟩

theorem la52 (l : List LLight) : FnV Try.prog 52 [lightsD l] (.bool (lightsB l)) := by
  refine fnV_of mixed tysOk Try.func52 rfl (ft := ft52) 1 (by decide +kernel) (by rfl) fun {σ} Y st => ?_
  conv => whnf
  refine CallA_v (la18 l) rfl rfl ?_
  conv => whnf
  exact RetA_view 0 rfl ⟨⟨rfl, rfl⟩, rfl⟩

theorem la51 (x : List Int) (hx : ∀ b ∈ x, 0 ≤ b ∧ b ≤ 255) (n : Nat) : FnV Try.prog 51 [bytesD x, i64 n] (i64 (turnF x n)) := by
  refine fnV_of mixed tysOk Try.func51 rfl (ft := ft51) 2 (by decide +kernel) (by rfl) fun {σ} Y st => ?_
  conv => whnf
  by_cases h : x = []
  · subst h
    conv => whnf
    exact RetA_view 0 rfl ⟨⟨rfl, rfl⟩, rfl⟩
  · have hl : 0 < x.length := List.length_pos_iff.2 h
    refine brk_i (fun h1 => absurd h1 (by simp [h])) (fun _ => ?_)
    conv => whnf
    refine chk_i (decide_eq_true (by rw [List.length_map]; omega)) ?_
    conv => whnf
    rw [List.length_map]
    have hm := Nat.mod_lt n hl
    have he : ((n : Int).tmod (x.length : Int)) = ((n % x.length : Nat) : Int) := by
      rw [Int.tmod_eq_emod_of_nonneg (by omega)]; omega
    rw [he]
    have hg : x[n % x.length]? = some (x[n % x.length]) := List.getElem?_eq_getElem hm
    refine elemK_nat hg ?_
    conv => whnf
    have hb := hx _ (List.mem_of_getElem? hg)
    have ht : turnF x n = x[n % x.length] := by
      unfold turnF
      rw [if_neg h, List.getD_eq_getElem?_getD, hg]; rfl
    rw [← ht] at hb ⊢
    refine arith_in (wrap_i64 (by (try dsimp only); omega)) ?_
    conv => whnf
    exact RetA_view 0 rfl ⟨⟨rfl, rfl⟩, rfl⟩

theorem turn_bd {x : List Int} (hx : ∀ b ∈ x, 0 ≤ b ∧ b ≤ 255) (n : Nat) : 0 ≤ turnF x n ∧ turnF x n ≤ 255 := by
  unfold turnF
  split
  · omega
  · rename_i h
    have hm := Nat.mod_lt n (List.length_pos_iff.2 h)
    rw [List.getD_eq_getElem?_getD, List.getElem?_eq_getElem hm]
    exact hx _ (List.getElem_mem _)

def amongF (s : Span) (n : Int) : Int := s.lo + n.tmod (s.hi - s.lo + 1)

theorem among_in {s : Span} {n : Int} (hs : s.lo ≤ s.hi) (hn : 0 ≤ n) : s.lo ≤ amongF s n ∧ amongF s n ≤ s.hi := by
  have h1 := Int.tmod_nonneg (s.hi - s.lo + 1) hn
  have h2 := Int.tmod_lt_of_pos n (b := s.hi - s.lo + 1) (by omega)
  unfold amongF
  omega

theorem la58 (s : Span) (n : Int) (hs : s.lo ≤ s.hi) (hb : -1000000 ≤ s.lo ∧ s.hi ≤ 1000000) (hn : 0 ≤ n ∧ n ≤ 1000000) : FnV Try.prog 58 [s.d, i64 n] (i64 (amongF s n)) := by
  refine fnV_of mixed tysOk Try.func58 rfl (ft := ft58) 2 (by decide +kernel) (by rfl) fun {σ} Y st => ?_
  conv => whnf
  have h1 := among_in hs hn.1
  refine arith_in (wrap_i64 (by (try dsimp only); omega)) ?_
  conv => whnf
  refine arith_in (wrap_i64 (by (try dsimp only); omega)) ?_
  conv => whnf
  refine chk_i (decide_eq_true (by omega)) ?_
  conv => whnf
  refine arith_in (wrap_i64 (by unfold amongF at h1; omega)) ?_
  conv => whnf
  exact RetA_view 0 rfl ⟨⟨rfl, rfl⟩, rfl⟩

def speedsX (c : LCase) (x : List Int) : List Int := (List.range (c.windings.length + 1)).map fun i => amongF c.lamp.speed (turnF x (i + 1))
def truthX (c : LCase) (x : List Int) : LTruth := ⟨amongF c.lamp.start (turnF x 0), speedsX c x⟩

theorem truthX_ok {c : LCase} (hR : CaseL c) {x : List Int} (hx : ∀ b ∈ x, 0 ≤ b ∧ b ≤ 255) : TruthR c (truthX c x) := by
  have h1 := hR.lamp.start
  have h2 := hR.lamp.speed
  refine ⟨among_in (by omega) (turn_bd hx 0).1, by simp [truthX, speedsX], fun s hs => ?_⟩
  obtain ⟨i, _, rfl⟩ := List.mem_map.1 hs
  exact among_in (by omega) (turn_bd hx _).1

theorem Wk.bornAtD {σ : Type} {e : Env} {h : Heap} {s : σ} (b k sz : Nat) (A B : List D) {l : List D} (hk : Nat.blt k 1000000 = true) (hs : Nat.blt 0 sz = true) (hb : get h b = some (.box (.dd l))) (hl : l = A ++ .nils :: B) (hbk : Nat.beq b k = false) :
    Wk (⟨e, h, s⟩ : St σ) ⟨mapT (mapId (killF k)) e, put (put (mapT (Obj.mapId (killF k)) (cut h k)) k (.arr sz (.dd []))) b (.box (.vv (inj A ++ .sl k sz 0 0 :: inj B))), s⟩ := by
  have hk := Nat.le_of_ble_eq_true hk
  have hs := Nat.le_of_ble_eq_true hs
  have hne : b ≠ k := by rintro rfl; simp at hbk
  have h1 : Wk (⟨e, h, s⟩ : St σ) ⟨mapT (mapId (killF k)) e, put (mapT (Obj.mapId (killF k)) (cut h k)) k (.arr sz (.dd [])), s⟩ := by
    intro cx r m L F a w hg
    exact ⟨_, F, hg.newEmpty k sz (by unfold pinned; omega) hs (.dd []) rfl, Tr.refl F w⟩
  refine h1.trans (Wk.reobj b (o := .box (.dd l)) _ (by rw [get_put, if_neg hne, get_mapT, get_cut, if_neg hne, hb]; rfl) (fun yv L F w h => ?_) fun L hb => hb)
  obtain ⟨c, T, hc, hr⟩ := h
  have hr : RepVL yv L F w (inj l) c.toList := hr
  rw [hl, inj_append] at hr
  exact ⟨c, T, hc, RepVL.nil_at k sz hs hr⟩

theorem la48 (c : LCase) (hR : CaseL c) (x : List Int) (hx : ∀ b ∈ x, 0 ≤ b ∧ b ≤ 255) : FnV Try.prog 48 [c.d, bytesD x] (truthX c x).d := by
  refine fnV_of mixed tysOk Try.func48 rfl (ft := ft48) 2 (by decide +kernel) (by rfl) fun {σ} Y st => ?_
  conv => whnf
  have hst := hR.lamp.start
  have hsp := hR.lamp.speed
  have hdr := hR.lamp.drum
  have hw := hR.winds
  have t0 := turn_bd hx 0
  refine DrawCall_v (ds := [bytesD x, i64 (0 : Nat)]) (la51 x hx 0) rfl rfl ?_
  conv => whnf
  refine DrawCall_v (ds := [c.lamp.start.d, i64 (turnF x 0)]) (la58 c.lamp.start (turnF x 0) (by omega) (by omega) (by omega)) rfl rfl ?_
  conv => whnf
  have hsx : (truthX c x).speeds = speedsX c x := rfl
  generalize hS : speedsX c x = S at hsx
  refine LoopA_i (T := tys) tysOk (by exact drawsB_spec mixed tysOk (by decide +kernel)) (List.range (c.windings.length + 1)) (fun i (acc : List Int) => ⟨[(1, .d (bytesD x)), (2, .ptr 2 0), (4, .ptr 4 0), (5, .ptr 5 0), (6, .d (i64 i))], [(2, .box (.dd c.cells)), (4, .box (.dd [i64 0, .nils])), (5, .box (.vv [.d (i64 (amongF c.lamp.start (turnF x 0))), .sl 32 1 0 acc.length])), (32, .arr 1 (.dd (acc.map fun n => [i64 n])))], st⟩)
    (fun i r acc => acc.length ≤ i ∧ S = acc ++ r.map fun i => amongF c.lamp.speed (turnF x (i + 1))) [] ((Wk.bornAtD 5 32 1 [i64 (amongF c.lamp.start (turnF x 0))] [] rfl rfl rfl rfl rfl).trans (Wk.sub ⟨(by first | rfl | (simp only [List.length_map]; rfl) | simp [PX.get]), (by first | rfl | (simp only [List.length_map]; rfl) | simp [PX.get]), (by first | rfl | (simp only [List.length_map]; rfl) | simp [PX.get]), (by first | rfl | (simp only [List.length_map]; rfl) | simp [PX.get]), (by first | rfl | (simp only [List.length_map]; rfl) | simp [PX.get]), trivial⟩ ⟨(by first | rfl | (simp only [List.length_map]; rfl) | simp [PX.get]), (by first | rfl | (simp only [List.length_map]; rfl) | simp [PX.get]), (by first | rfl | (simp only [List.length_map]; rfl) | simp [PX.get]), (by first | rfl | (simp only [List.length_map]; rfl) | simp [PX.get]), trivial⟩)) ⟨by simp, hS.symm⟩ ?_ ?_
  · rintro i y r acc hy hi hr ⟨hal, he⟩
    have hxj : i = y := by
      rw [List.getElem?_range (by simpa using hi)] at hy
      exact Option.some.inj hy
    subst hxj
    have hiw : i < c.windings.length + 1 := by simpa using hi
    have t1 := turn_bd hx (i + 1)
    rw [List.map_cons] at he
    conv => whnf
    refine brk_i (fun _ => ?_) (fun h => absurd hiw (by have := of_decide_eq_false h; simp at this; omega))
    conv => whnf
    refine arith_to (((i + 1 : Nat) : Int)) (by (try dsimp only); omega) (wrap_i64 (by (try dsimp only); omega)) ?_
    conv => whnf
    refine DrawCall_v (ds := [bytesD x, i64 (i + 1 : Nat)]) (la51 x hx (i + 1)) rfl rfl ?_
    conv => whnf
    refine DrawCall_v (ds := [c.lamp.speed.d, i64 (turnF x (i + 1))]) (la58 c.lamp.speed (turnF x (i + 1)) (by omega) (by omega) (by omega)) rfl rfl ?_
    conv => whnf
    refine ownK_whole rfl ?_
    conv => whnf
    refine ownK_whole (by simp [Els.len]) ?_
    conv => whnf
    refine chk_i (decide_eq_true (by
      show ((acc.map fun n => [i64 n]).length + 1) * 8 ≤ 140737488355328
      rw [List.length_map]; omega)) ?_
    conv => whnf
    refine arith_in (wrap_i64 (by (try dsimp only); omega)) ?_
    conv => whnf
    refine ⟨acc ++ [amongF c.lamp.speed (turnF x (i + 1))], ⟨by simp; omega, by simpa using he⟩, Wk.sub ⟨rfl, rfl, rfl, rfl, rfl, trivial⟩ ⟨rfl, rfl, ?_, ?_, trivial⟩⟩
    · show some (Obj.box (.vv [.d (i64 (amongF c.lamp.start (turnF x 0))), .sl 32 1 0 ((acc.map fun n => [i64 n]).length + 1)])) = _
      simp
    · show some (Obj.arr 1 (Els.dd ((acc.map fun n => [i64 n]) ++ [[i64 (amongF c.lamp.speed (turnF x (i + 1)))]]))) = _
      simp
  · rintro acc ⟨_, he⟩
    have he : S = acc := by simpa using he
    rw [he] at hsx
    conv => whnf
    refine brk_i (fun h => absurd h (by simp; omega)) (fun _ => ?_)
    conv => whnf
    have hd : (truthX c x).d = .agg [i64 (amongF c.lamp.start (turnF x 0)), intsD acc] := by
      show D.agg [_, intsD (truthX c x).speeds] = _
      rw [hsx]; rfl
    rw [hd]
    refine RetA_view 2 (ds := [.agg [i64 (amongF c.lamp.start (turnF x 0)), intsD acc]]) ?_ ⟨⟨rfl, rfl⟩, rfl⟩
    exact viewL_cons (viewV_agg (viewL_cons rfl (viewL_cons (viewV_sl rfl (by simp)) rfl))) rfl

theorem la53 (l : List Int) (n : Int) (hl : l.length < 1000000) : FnV Try.prog 53 [intsD l, i64 n] (.bool (decide (n ∈ l))) := by
  refine fnV_of mixed tysOk Try.func53 rfl (ft := ft53) 2 (by decide +kernel) (by rfl) fun {σ} Y st => ?_
  conv => whnf
  refine LoopA_i (T := tys) tysOk (by exact drawsB_spec mixed tysOk (by decide +kernel)) l (fun i (_ : Unit) => ⟨[(0, .d (intsD l)), (1, .d (i64 n)), (4, .d (.bool false)), (5, .d (i64 i))], [], st⟩)
    (fun i r _ => decide (n ∈ l) = decide (n ∈ r)) () (Wk.sub ⟨(by first | rfl | (simp only [List.length_map]; rfl) | simp [PX.get]), (by first | rfl | (simp only [List.length_map]; rfl) | simp [PX.get]), (by first | rfl | (simp only [List.length_map]; rfl) | simp [PX.get]), (by first | rfl | (simp only [List.length_map]; rfl) | simp [PX.get]), trivial⟩ trivial) rfl ?_ ?_
  · rintro i y r _ hy hi hr he
    conv => whnf
    refine brk_i (fun _ => ?_) (fun h => absurd hi (by have := of_decide_eq_false h; simp at this; omega))
    conv => whnf
    refine elemK_nat hy ?_
    conv => whnf
    refine brk_i (fun h1 => ?_) (fun h1 => ?_)
    · have h1 : y = n := of_decide_eq_true h1
      have h2 : decide (n ∈ l) = true := by rw [he, h1]; simp
      rw [h2]
      conv => whnf
      exact RetA_view 0 rfl ⟨⟨rfl, rfl⟩, rfl⟩
    · have h1 : y ≠ n := of_decide_eq_false h1
      have he2 : decide (n ∈ l) = decide (n ∈ r) := by
        rw [he]; simp [Ne.symm h1]
      conv => whnf
      refine arith_in (wrap_i64 (by (try dsimp only); omega)) ?_
      conv => whnf
      exact ⟨(), he2, (Wk.sub ⟨(by first | rfl | (simp only [List.length_map]; rfl) | simp [PX.get]), (by first | rfl | (simp only [List.length_map]; rfl) | simp [PX.get]), (by first | rfl | (simp only [List.length_map]; rfl) | simp [PX.get]), (by first | rfl | (simp only [List.length_map]; rfl) | simp [PX.get]), trivial⟩ trivial)⟩
  · rintro _ he
    conv => whnf
    refine brk_i (fun h => absurd h (by simp)) (fun _ => ?_)
    conv => whnf
    rw [he]
    exact RetA_view 0 rfl ⟨⟨rfl, rfl⟩, rfl⟩
end Go.PX

namespace Go.PX
open Go.Proofs Go.RowKit Go.ChangeShapes

theorem c5 : Try.prog.cellsOf 5 = 1 := by kernel_rfl
theorem c68 : Try.prog.cellsOf 68 = 1 := by kernel_rfl

theorem byteIn {n : Int} (h : (Lit.int .u8 n).wf = true) : 0 ≤ n ∧ n ≤ 255 := by
  simp only [Lit.wf, Bool.and_eq_true, decide_eq_true_eq] at h
  exact h

theorem Rd.intw {P : Program} {W : World} {t : TypeId} {k : IntKind} (ht : P.underlying t = some (.int k)) : Rd P W t fun ds => ∃ n, ds = [.int k n] ∧ (Lit.int k n).wf = true := by
  refine ⟨?_⟩
  intro H enc sp held fuel cs x h
  obtain ⟨n, rfl, _, hw⟩ := DataW.trod_int ht h
  exact ⟨[.int k n], ⟨n, rfl, hw⟩, _, [], rfl, rfl, rfl⟩

section
variable (W : World)
theorem rdByte : Rd Try.prog W 5 fun ds => ∃ n, ds = [.int .u8 n] ∧ 0 ≤ n ∧ n ≤ 255 := (Rd.intw Try.underlying5).mono fun ds ⟨n, h, w⟩ => ⟨n, h, byteIn w⟩

theorem rdBytes : Rd Try.prog W 68 fun ds => ∃ l : List Int, ds = [bytesD l] ∧ ∀ b ∈ l, 0 ≤ b ∧ b ≤ 255 :=
  (Rd.slice Try.underlying68 c5 (by omega) (rdByte W)).mono fun ds h => by
    obtain ⟨es, rfl, he⟩ := h
    have : ∃ l : List Int, es = l.map (fun b => [D.int .u8 b]) ∧ ∀ b ∈ l, 0 ≤ b ∧ b ≤ 255 := by
      induction es with
      | nil => exact ⟨[], rfl, fun b h => by cases h⟩
      | cons e r ih =>
        obtain ⟨l, h1, h2⟩ := ih fun x hx => he x (by simp [hx])
        obtain ⟨n, h3, h4⟩ := he e (by simp)
        refine ⟨n :: l, by rw [h3, h1]; rfl, fun b hb => ?_⟩
        rcases List.mem_cons.1 hb with rfl | hb
        · exact h4
        · exact h2 b hb
    obtain ⟨l, rfl, h2⟩ := this
    exact ⟨l, rfl, h2⟩

theorem c88 : Try.prog.cellsOf 88 = 2 * 1 := by kernel_rfl
theorem c91 : Try.prog.cellsOf 91 = 2 * 1 := by kernel_rfl

theorem rdTwoZ : RdZ Try.prog W 88 fun ds => ∃ a b : Int, ds = [.int .u8 a, .int .u8 b] ∧ (0 ≤ a ∧ a ≤ 255) ∧ (0 ≤ b ∧ b ≤ 255) :=
  (RdZ.array Try.underlying88 c88 c5 (Rd.z (rdByte W))).mono fun ds h => by
    obtain ⟨dss, rfl, hl, hd⟩ := h
    match dss, hl with
    | [x, y], _ =>
      obtain ⟨a, rfl, ha⟩ := hd x (by simp)
      obtain ⟨b, rfl, hb⟩ := hd y (by simp)
      exact ⟨a, b, rfl, ha, hb⟩

theorem rdTwosZ : RdZ Try.prog W 91 fun ds => ∃ a b : List Int, ds = [bytesD a, bytesD b] ∧ (∀ x ∈ a, 0 ≤ x ∧ x ≤ 255) ∧ (∀ x ∈ b, 0 ≤ x ∧ x ≤ 255) :=
  (RdZ.array Try.underlying91 c91 c68 (Rd.z (rdBytes W))).mono fun ds h => by
    obtain ⟨dss, rfl, hl, hd⟩ := h
    match dss, hl with
    | [x, y], _ =>
      obtain ⟨a, rfl, ha⟩ := hd x (by simp)
      obtain ⟨b, rfl, hb⟩ := hd y (by simp)
      exact ⟨a, b, rfl, ha, hb⟩
end
end Go.PX
