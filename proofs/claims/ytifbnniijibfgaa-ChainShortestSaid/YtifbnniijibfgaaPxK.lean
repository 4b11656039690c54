import Derived.Test.YtifbnniijibfgaaPxJ
set_option linter.all false
/- PX: the statement 'for x := range f': the whole of it. -/
namespace Go.PX
open Go.RowKit

section
variable {P : Program} {T : Tys} {ft : FT} {α σ : Type} {Y : Hd σ} {cx : Cx σ} {I : α → Heap × σ} {l : Nat} {m : List Nat} {r : Option Nat} {base : Go.Loop} {e1 : Env} {tmps : Array Value} {c : Nat} {tb : List Nat} {pρ pκ : Nat → Nat} {F0 : Nat → Nat} {w0 : World}

/-- A call of yield is a round. -/
theorem range_handles (hT : TysOk P T) {ps : Array Tmp} {a b : Code} (hDa : drawsOk P T ft a) (hDb : drawsOk P T ft b) (hY : Handles P Y cx) (hrl : r ≠ some l)
    (hb1 : base.params = ps) (hb2 : base.assign = a) (hb3 : base.body = b) (hb4 : base.tmps = tmps) (hbase : base.state = .ready ∧ base.pending = none)
    (hps : ∀ p ∈ ps.toList, p < tmps.size) (htm : tmps.size ≤ 1000000) (hca : codeOk tmps.size a = true) (hcb : codeOk tmps.size b = true) (hc : 1000000 ≤ c ∧ c + 64 ≤ 2000000) (hE : ∀ i ∈ envNames e1, pinned i ∧ inRange c 64 i = false) :
    Handles P (liftY (rangeY P T ft Y I ps a b e1 c tb)) (rangeCx cx I l m r base e1 tmps c tb pρ pκ F0 w0) := by
  intro l' hl args h s Q hy L2 F vals w hh hr
  cases hl
  obtain ⟨g, L1⟩ := s
  cases g with
  | done e hd s => exact hy.elim
  | go x =>
    obtain ⟨⟨hlen, hok⟩, hy⟩ := hy
    have hHG := hh.hg
    have hi := hHG.rcd.1
    have hrec : recOf base (RS.go x : RS α σ) = base := by
      obtain ⟨h1, h2⟩ := hbase
      cases base; simp only at h1 h2; subst h1; subst h2; rfl
    have hi : w.heap[l]? = some (.loop base) := by rw [← hrec]; exact hi
    have hvl : vals.size = base.params.size := by
      have := hr.length
      rw [hb1, ← hlen]; simpa using this
    refine ⟨base.fn, _, base.assign, base.body, run_yield hi hvl, ?_⟩
    refine roundIn_of_wpIn (F := Fence.wide) trivial ?_
    have hg := round_enter hHG hbase hps htm hc hE hh hr hlen hok
    have hYr : Handles P Y (roundCx cx (I x).2 w F (OwnB (roundLoc c L1 L2) ((I x).1 ++ renH (lentR c) h)) l (some base) (roundLoc c L1 L2).ρ (roundLoc c L1 L2).κ) := (lendCx_handles hY).upd _ _ _
    have hsz : ((ps.zip vals).foldl (fun t (p, v) => t.setIfInBounds p v) tmps).size = tmps.size := by rw [← Array.foldl_toList, foldl_size]
    rw [hb1, hb2, hb3, hb4]
    have hA := wpA_sound hT a hDa _ _ hy _ hYr (some l) [] _ F _ w hg (by rw [hsz]; exact hca)
    refine wpIn_mono hA fun ex a1 w1 hq => ?_
    obtain ⟨e', st1, m1, L3, F3, rfl, hk, hg1, tr1, hs1⟩ := hq
    cases e' with
    | exit i => exact hk.elim
    | ret => exact hk.elim
    | normal =>
      obtain ⟨lp, ⟨q1, q2⟩, _⟩ := hg1.lk l rfl
      have q2 : some base = some lp := q2
      cases q2
      refine ⟨_, run_beginRound q1 hbase.1, ?_⟩
      obtain ⟨hg2, tr2⟩ := hg1.record { base with state := .busy }
      have hYr2 : Handles P Y { roundCx cx (I x).2 w F (OwnB (roundLoc c L1 L2) ((I x).1 ++ renH (lentR c) h)) l (some base) (roundLoc c L1 L2).ρ (roundLoc c L1 L2).κ with rcd := some { base with state := .busy } } := hYr.upd (some { base with state := .busy }) _ _
      have hB := wpA_sound hT b hDb _ _ hk _ hYr2 (some l) m1 L3 F3 _ _ hg2 (by rw [hs1]; show codeOk (Array.size _) b = true; rw [hsz]; exact hcb)
      refine wpIn_mono hB fun ex a2 w2 hq => ?_
      obtain ⟨e'', st2, m2, L4, F4, rfl, hk2, hg3, tr3, hs3⟩ := hq
      have trA : Tr F w F4 w2 := Tr.trans tr1 (Tr.trans tr2 tr3)
      have fin : ∀ (g : RS α σ) (jump : Option Code) (v : Bool), recOf base g = { base with state := if jump.isNone then .ready else .done, pending := jump } → v = jump.isNone → Wk st2 ⟨[], g.heap I ++ renH (lentR c) h, g.st I⟩ → okH c tb (g.heap I) = true →
          (∀ L', Q (.d (.bool v)) h (g, L')) → ∃ u w', (Instr.endRound l jump).run P w2 = .ok u w' ∧ ∃ x_1, Ending.returned u = .returned x_1 ∧ ∃ v h' s' L' F', Q v h' s' ∧ HeapOk (rangeCx cx I l m r base e1 tmps c tb pρ pκ F0 w0) L' F' h' s' w' ∧
            RepV (rangeCx cx I l m r base e1 tmps c tb pρ pκ F0 w0).yv L' F' w' v x_1 ∧ Tr F w F' w' ∧ PinEq L2 L' ∧
            (∀ b, b < w.heap.size → ¬ (rangeCx cx I l m r base e1 tmps c tb pρ pκ F0 w0).C (.go x, L1) b → ¬ (rangeCx cx I l m r base e1 tmps c tb pρ pκ F0 w0).C s' b) ∧
            (∀ b, b < w.heap.size → ¬ (rangeCx cx I l m r base e1 tmps c tb pρ pκ F0 w0).C (.go x, L1) b → (∀ id o, get h id = some o → Backed L2 id o → L2.ρ id ≠ b) → w'.heap[b]? = w.heap[b]? ∧ F' b = F b) ∧
            (∀ id o, get h' id = some o → Backed L' id o → L'.ρ id < w.heap.size → ∃ id' o', get h id' = some o' ∧ Backed L2 id' o' ∧ L2.ρ id' = L'.ρ id) := by
        intro g jump v hrec hv hwk hok3 hQ
        obtain ⟨L5, F5, hg4, tr4⟩ := hwk _ _ _ _ _ _ _ hg3
        obtain ⟨lp, ⟨q3, q4⟩, _⟩ := hg4.lk l rfl
        have q4 : some ({ base with state := .busy } : Go.Loop) = some lp := q4
        cases q4
        have hend := run_endRound (P := P) jump q3
        have heq : ({ ({ base with state := .busy } : Go.Loop) with state := if jump.isNone then .ready else .done, pending := jump } : Go.Loop) = recOf base g := hrec.symm
        obtain ⟨L6, L7, z1, z2, z3, z4, z5, z6⟩ := round_leave hHG hrl hc hE hh hok (g := g) (by cases g <;> rfl) hg4 hok3 (Tr.trans trA tr4)
        rw [heq] at hend
        exact ⟨_, _, hend, _, rfl, _, h, (g, L6), L7, F5, hQ L6, z1, by rw [hv]; exact rfl, z2, z3, z4, z5, z6⟩
      cases e'' with
      | normal =>
        obtain ⟨x', hwk, hok3, hQ⟩ := hk2
        exact fin (.go x') none true rfl rfl hwk hok3 hQ
      | ret =>
        obtain ⟨hd, s', hwk, hok3, hQ⟩ := hk2
        exact fin (.done .ret hd s') (some .ret) false rfl rfl hwk hok3 hQ
      | exit i =>
        obtain ⟨hd, s', hwk, hok3, hQ⟩ := hk2
        exact fin (.done (.exit i) hd s') (some (.exit i)) false rfl rfl hwk hok3 hQ
end
end Go.PX

/- PX: the statement 'for x := range f': its rule. -/
namespace Go.PX
open Go.RowKit

/-- The names of a frame that ranges over a function. -/
def rangeB (c1 c2 : Nat) (tb : List Nat) (e : Env) (h : Heap) : Bool :=
  nodupB tb && allB (fun i => Nat.blt i 1000000) tb && Nat.ble 1000000 c1 && Nat.ble (c1 + tb.length) 2000000 && Nat.ble 1000000 c2 && Nat.ble (c2 + 64) 2000000 && allB (fun k => !inRange c2 64 (c1 + k)) (List.range tb.length) &&
    allB (fun i => inL tb i || (Nat.ble 1000000 i && Nat.blt i 2000000 && !inRange c1 tb.length i && !inRange c2 64 i)) (envNames e) &&
    allB (fun i => !inRange c1 tb.length i) (heapNames h)

section
variable {c1 : Nat} {tb : List Nat}

theorem dnR_in {k i : Nat} (h : tb[k]? = some i) : dnR c1 tb (c1 + k) = i := by
  unfold dnR
  rw [Nat.ble_eq_true_of_le (Nat.le_add_right c1 k), Nat.add_sub_cancel_left, h]
theorem dnR_out {i : Nat} (h : inRange c1 tb.length i = false) : dnR c1 tb i = i := by
  unfold dnR
  split
  · rename_i hb
    have hb := Nat.le_of_ble_eq_true hb
    have : tb[i - c1]? = none := by
      rw [List.getElem?_eq_none_iff]
      rcases Nat.lt_or_ge (i - c1) tb.length with hlt | hge
      · rw [show inRange c1 tb.length i = true from by rw [inRange_iff]; omega] at h; cases h
      · exact hge
    rw [this]
  · rfl
theorem upR_in {k i : Nat} (hn : tb.Nodup) (h : tb[k]? = some i) : upR c1 tb i = c1 + k := by
  unfold upR
  cases hx : idx tb c1 i with
  | none => exact absurd (List.mem_of_getElem? h) (idx_none hx)
  | some j =>
    obtain ⟨h1, h2⟩ := idx_some hx
    have := nodup_get hn h2 h
    show j = c1 + k
    omega
theorem upR_out {i : Nat} (h : i ∉ tb) : upR c1 tb i = i := by
  unfold upR
  cases hx : idx tb c1 i with
  | none => rfl
  | some j => exact absurd (List.mem_of_getElem? (idx_some hx).2) h
end

mutual
theorem namesOf_ren {R : Nat → Nat} : ∀ (v : V) (i : Nat), i ∈ namesOf (mapId (renF R) v) → ∃ j ∈ namesOf v, i = R j
  | .d _, i, h => by cases h
  | .agg cs, i, h => namesOfL_ren cs i h
  | .tup cs, i, h => namesOfL_ren cs i h
  | .clo _ cs, i, h => namesOfL_ren cs i h
  | .ptr j _, i, h => ⟨j, by simp [namesOf], by simpa [mapId, renF, namesOf] using h⟩
  | .ep j _ _ _, i, h => ⟨j, by simp [namesOf], by simpa [mapId, renF, namesOf] using h⟩
  | .sl j _ _ _, i, h => ⟨j, by simp [namesOf], by simpa [mapId, renF, namesOf] using h⟩
  | .mp j, i, h => ⟨j, by simp [namesOf], by simpa [mapId, renF, namesOf] using h⟩
  | .it j, i, h => ⟨j, by simp [namesOf], by simpa [mapId, renF, namesOf] using h⟩
  | .yld, i, h => by cases h
  | .unk, i, h => by cases h
theorem namesOfL_ren {R : Nat → Nat} : ∀ (vs : List V) (i : Nat), i ∈ namesOfL (mapIdL (renF R) vs) → ∃ j ∈ namesOfL vs, i = R j
  | [], i, h => by cases h
  | v :: r, i, h => by
    rcases List.mem_append.1 (show i ∈ namesOf (mapId (renF R) v) ++ namesOfL (mapIdL (renF R) r) from h) with h | h
    · obtain ⟨j, hj, rfl⟩ := namesOf_ren v i h
      exact ⟨j, List.mem_append.2 (.inl hj), rfl⟩
    · obtain ⟨j, hj, rfl⟩ := namesOfL_ren r i h
      exact ⟨j, List.mem_append.2 (.inr hj), rfl⟩
end

section
variable {P : Program} {T : Tys} {ft : FT} {α σ : Type} {Y : Hd σ}

theorem RangeA.wk {g : Operand} {ps : Array Tmp} {a b : Code} {st st' : St σ} {K : AExit → St σ → Prop} (hw : Wk st st') (h : RangeA P ft Y g ps a b st' K) : RangeA P ft Y g ps a b st K := by
  obtain ⟨h⟩ := h
  exact ⟨WPC.wk hw h⟩

theorem RangeA_gen (hT : TysOk P T) {g : Operand} {ps : Array Tmp} {a b : Code} (hDa : drawsOk P T ft a) (hDb : drawsOk P T ft b) {f : FuncId} {caps : List D} {e : Env} {h : Heap} {s : σ} {K : AExit → St σ → Prop} (hgv : opnd e g = some (.d (.clo f caps)))
    (c1 c2 : Nat) (tb : List Nat) (I : α → Heap × σ) (x0 : α) (hck : rangeB c1 c2 tb e h = true) (hI : I x0 = (renH (upR c1 tb) h, s)) (hok0 : okH c2 tb (I x0).1 = true)
    (hf : ∀ L, FnC P (liftY (rangeY P T ft Y I ps a b (renE (upR c1 tb) e) c2 tb)) f (.yld :: inj caps) [] (.go x0, L) fun v h' g => h' = [] ∧ match g.1 with
      | .go x => K .normal ⟨e, renH (dnR c1 tb) (I x).1, (I x).2⟩
      | .done ex hd s' => K ex ⟨e, renH (dnR c1 tb) hd, s'⟩) : RangeA P ft Y g ps a b ⟨e, h, s⟩ K := by
  constructor
  intro cx hY r m L F aa w hg hc
  simp only [codeOk, Bool.and_eq_true] at hc
  obtain ⟨⟨hps, hca⟩, hcb⟩ := hc
  have hps : ∀ p ∈ ps.toList, p < aa.tmps.size := fun p hp => of_decide_eq_true (List.all_eq_true.1 hps p hp)
  simp only [rangeB, Bool.and_eq_true] at hck
  obtain ⟨⟨⟨⟨⟨⟨⟨⟨k1, k2⟩, k3⟩, k4⟩, k5⟩, k6⟩, k7⟩, k8⟩, k9⟩ := hck
  have htb := nodupB_spec k1
  have htb6 : ∀ i ∈ tb, i < 1000000 := fun i hi => Nat.le_of_ble_eq_true (allB_spec k2 i hi)
  have k3 := Nat.le_of_ble_eq_true k3
  have k4 := Nat.le_of_ble_eq_true k4
  have k5 := Nat.le_of_ble_eq_true k5
  have k6 := Nat.le_of_ble_eq_true k6
  have k7 : ∀ k, k < tb.length → inRange c2 64 (c1 + k) = false := fun k hk => by
    have := allB_spec k7 k (List.mem_range.2 hk)
    simpa using this
  have k8 : ∀ i ∈ envNames e, i ∈ tb ∨ (pinned i ∧ inRange c1 tb.length i = false ∧ inRange c2 64 i = false) := by
    intro i hi
    have := allB_spec k8 i hi
    simp only [Bool.or_eq_true, Bool.and_eq_true, Bool.not_eq_true'] at this
    exact this.imp inL_iff.1 fun h => ⟨⟨Nat.le_of_ble_eq_true h.1.1.1, Nat.le_of_ble_eq_true h.1.1.2⟩, h.1.2, h.2⟩
  have k9 : ∀ i ∈ heapNames h, inRange c1 tb.length i = false := fun i hi => by simpa using allB_spec k9 i hi
  have htbr : ∀ i ∈ tb, inRange c1 tb.length i = false := fun i hi => by
    cases hr : inRange c1 tb.length i with
    | false => rfl
    | true => rw [inRange_iff] at hr; have := htb6 i hi; omega
  -- up and down
  have hdu : ∀ i, inRange c1 tb.length i = false → dnR c1 tb (upR c1 tb i) = i := by
    intro i hi
    by_cases hm : i ∈ tb
    · obtain ⟨k, hk⟩ := List.mem_iff_getElem?.1 hm
      rw [upR_in htb hk, dnR_in hk]
    · rw [upR_out hm, dnR_out hi]
  have hud : ∀ i, i ∉ tb → upR c1 tb (dnR c1 tb i) = i := by
    intro i hi
    cases hr : inRange c1 tb.length i with
    | false => rw [dnR_out hr, upR_out hi]
    | true =>
      rw [inRange_iff] at hr
      obtain ⟨k, hk⟩ : ∃ k, i = c1 + k := ⟨i - c1, by omega⟩
      obtain ⟨y, hy⟩ : ∃ y, tb[k]? = some y := ⟨_, List.getElem?_eq_getElem (by omega)⟩
      rw [hk, dnR_in hy, upR_in htb hy]
  have henv1 : ∀ i ∈ envNames e, inRange c1 tb.length i = false := fun i hi => (k8 i hi).elim (htbr i) (fun h => h.2.1)
  have hE : ∀ i ∈ envNames (renE (upR c1 tb) e), pinned i ∧ inRange c2 64 i = false := by
    have hren : ∀ (e : Env), ∀ i ∈ envNames (renE (upR c1 tb) e), ∃ j ∈ envNames e, i = upR c1 tb j := by
      intro e
      induction e with
      | nil => intro i hi; cases hi
      | cons kv r ih =>
        obtain ⟨k, v⟩ := kv
        intro i hi
        rcases List.mem_append.1 hi with hi | hi
        · obtain ⟨j, hj, rfl⟩ := namesOf_ren v i hi
          exact ⟨j, List.mem_append.2 (.inl hj), rfl⟩
        · obtain ⟨j, hj, rfl⟩ := ih i hi
          exact ⟨j, List.mem_append.2 (.inr hj), rfl⟩
    intro i hi
    obtain ⟨j, hj, rfl⟩ := hren e i hi
    rcases k8 j hj with hm | ⟨h1, h2, h3⟩
    · obtain ⟨k, hk⟩ := List.mem_iff_getElem?.1 hm
      have hlt := (List.getElem?_eq_some_iff.1 hk).1
      rw [upR_in htb hk]
      exact ⟨by unfold pinned; omega, k7 k hlt⟩
    · have : j ∉ tb := fun hm => by have := htb6 j hm; unfold pinned at h1; omega
      rw [upR_out this]; exact ⟨h1, h3⟩
  obtain ⟨lc, hev, hcap⟩ := hg.opnd hgv
  have hI1 : (I x0).1 = renH (upR c1 tb) h := by rw [hI]
  have hI2 : (I x0).2 = s := by rw [hI]
  refine wpIn_rangeFunc fun fn _ => ?_
  -- the record is laid
  have enter : ∃ (base : Go.Loop) (l : Nat) (mk : List Nat) (W1 : World), (Instr.enterLoop fn aa.tmps ps a b r).run P w = .ok (l, mk.map mark) W1 ∧ (base.params = ps ∧ base.assign = a ∧ base.body = b ∧ base.tmps = aa.tmps ∧ base.state = .ready ∧ base.pending = none) ∧
      W1.heap[l]? = some (.loop base) ∧ w.heap.size ≤ l ∧ (∀ x, x < w.heap.size → W1.heap[x]? = w.heap[x]?) ∧ Tr F w F W1 ∧ w.heap.size ≤ W1.heap.size ∧ mk.Nodup ∧ ∀ x ∈ mk, w.heap.size ≤ x ∧ W1.heap[x]? = some (.deferred (some [])) := by
    cases r with
    | none =>
      refine ⟨{ state := .ready, pending := none, fn, tmps := aa.tmps, params := ps, assign := a, body := b, defers := w.heap.size }, _, [w.heap.size], _, run_enterLoop_outer fn aa.tmps ps a b, ⟨rfl, rfl, rfl, rfl, rfl, rfl⟩, ?_, by omega, fun x hx => ?_, Tr.trans (Tr.alloc hg.heap.fresh _) (Tr.alloc (fun b hb => hg.heap.fresh b (by simp at hb; omega)) _), by simp; omega, by simp, fun x hx => ?_⟩
      · have := World.alloc_heap_new (w.alloc (.deferred (some []))) (.loop { state := .ready, pending := none, fn, tmps := aa.tmps, params := ps, assign := a, body := b, defers := w.heap.size })
        rwa [World.size_alloc] at this
      · rw [heap_alloc_old _ _ (by simp; omega), heap_alloc_old _ _ hx]
      · rw [List.mem_singleton] at hx
        subst hx
        exact ⟨Nat.le_refl _, by rw [heap_alloc_old _ _ (by simp)]; exact World.alloc_heap_new w _⟩
    | some l0 =>
      obtain ⟨lp, ⟨q1, _⟩, _⟩ := hg.lk l0 rfl
      refine ⟨{ state := .ready, pending := none, fn, tmps := aa.tmps, params := ps, assign := a, body := b, defers := lp.defers }, _, [], _, run_enterLoop_inner q1 fn aa.tmps ps a b, ⟨rfl, rfl, rfl, rfl, rfl, rfl⟩, World.alloc_heap_new w _, Nat.le_refl _, fun x hx => heap_alloc_old _ _ hx, Tr.alloc hg.heap.fresh _, by simp, List.nodup_nil, fun x hx => by cases hx⟩
  obtain ⟨base, l, mk, W1, hent, ⟨hb1, hb2, hb3, hb4, hb5, hb6⟩, hl, hlw, hold, tr1, hsz1, hmn, hmk⟩ := enter
  have hg1 := hg.onward tr1 (fun x hx => ⟨hold x hx, rfl⟩) (fun x hx => hg.heap.fresh x (Nat.le_trans hsz1 hx))
  have hrl : r ≠ some l := by
    rintro rfl
    obtain ⟨lp, ⟨q1, _⟩, _⟩ := hg.lk l rfl
    have := block_lt q1; omega
  let L1 : Loc := ⟨fun j => L.ρ (dnR c1 tb j), fun j => L.κ (dnR c1 tb j)⟩
  have hL1 : ∀ i, inRange c1 tb.length i = false → L1.ρ (upR c1 tb i) = L.ρ i ∧ L1.κ (upR c1 tb i) = L.κ i := fun i hi => by
    show L.ρ (dnR c1 tb (upR c1 tb i)) = L.ρ i ∧ L.κ (dnR c1 tb (upR c1 tb i)) = L.κ i
    rw [hdu i hi]; exact ⟨rfl, rfl⟩
  have hnC : ∀ x, w.heap.size ≤ x → ¬ cx.C s x := fun x hx hC => by have := hg.heap.csz x hC; omega
  have hbase : recOf base (RS.go x0 : RS α σ) = base := by
    cases base; simp only at hb5 hb6; subst hb5; subst hb6; rfl
  have hHG : RInv cx I l (mk ++ m) r base (renE (upR c1 tb) e) aa.tmps c2 tb L1.ρ L1.κ F W1 (.go x0, L1) W1 F := by
    refine ⟨?_, ⟨by rw [hbase]; exact hl, by show ¬ cx.C (I x0).2 l; rw [hI2]; exact hnC l hlw⟩, fun x hx => ?_, fun l0 h0 => ?_, fun t v ht => ?_, fun _ _ => ⟨rfl, rfl⟩, Tr.refl F W1, hok0⟩
    · show HeapOk cx L1 F (I x0).1 (I x0).2 W1
      rw [hI1, hI2]
      exact hg1.heap.ren fun i hi => hL1 i (k9 i hi)
    · show _ ∧ ¬ cx.C (I x0).2 x
      rw [hI2]
      rcases List.mem_append.1 hx with hx | hx
      · exact ⟨(hmk x hx).2, hnC x (hmk x hx).1⟩
      · exact hg1.mks x hx
    · show ∃ lp, _ ∧ ¬ cx.C (I x0).2 l0
      rw [hI2]
      exact hg1.lk l0 h0
    · simp only [renE, get_mapT] at ht
      cases h0 : get e t with
      | none => simp [h0] at ht
      | some v0 =>
        simp [h0] at ht
        subst ht
        obtain ⟨x, hx, hr⟩ := hg1.env t v0 h0
        exact ⟨x, hx, (RepV.ren (R := upR c1 tb) (L := L) (L' := L1) v0 x fun i hi => hL1 i (henv1 i (envNames_mem h0 hi))).2 hr⟩
  have hH0 : HeapOk (rangeCx cx I l (mk ++ m) r base (renE (upR c1 tb) e) aa.tmps c2 tb L1.ρ L1.κ F W1) L1 F [] (.go x0, L1) W1 := by
    refine ⟨hHG, fun x hx => ?_, hg1.heap.fresh, (fun _ _ h => by cases h), (fun _ _ h => by cases h), (fun _ _ _ _ h => by cases h)⟩
    rcases hx with hx | ⟨id, o, hi, hb, hx⟩ | hx | hx | hx
    · exact hHG.heap.csz x hx
    · rw [← hx]; exact (hHG.heap.obj id o hi).lt hb
    · rw [hx]; exact block_lt hl
    · exact block_lt (hHG.mks x hx).1
    · obtain ⟨lp, ⟨q1, _⟩, _⟩ := hHG.out x hx; exact block_lt q1
  have hcall := (hf L1).run _ (range_handles hT hDa hDb hY hrl hb1 hb2 hb3 hb4 ⟨hb5, hb6⟩ hps hg.tsz hca hcb ⟨k5, k6⟩ hE) L1 F (#[.func (.yield l) #[] #[]] ++ lc) W1 hH0 (by
    show RepVL (some l) L1 F W1 (.yld :: inj caps) _
    refine ⟨.func (.yield l) #[] #[], lc.toList, by simp, ⟨l, rfl, rfl⟩, RepVL.inj.2 (RepDL.mono tr1 caps _ hcap)⟩)
  refine ⟨l, mk.map mark, W1, { target := .fn (.func f) lc, args := #[.func (.yield l) #[] #[]] }, W1, f, #[.func (.yield l) #[] #[]] ++ lc, W1, hent, ?_, fun _ _ => trivial, ?_, (fun h => by cases h), ?_⟩
  · simp only [resolve, hev]
    simp [go_sem]
  · simp [invoke, go_sem, (hf L1).enter]
  refine (callsIn_fr hcall).mono ?_
  rintro en w' ⟨x, rfl, v, h', gs, L', F', ⟨rfl, hK⟩, hH, hv, tr, pin⟩
  obtain ⟨gg, L2⟩ := gs
  obtain ⟨i1, i2, i3, i4, i5, i6, i7, i8⟩ := hH.hg
  have hnb : (recOf base gg).state ≠ .busy := by cases gg <;> (intro h; cases h)
  have hend := run_endLoop (P := P) i2.1 hnb
  -- the state behind the loop
  obtain ⟨W4, hW4⟩ : ∃ W4, W4 = w'.putObj l (.loop { recOf base gg with state := .exhausted }) := ⟨_, rfl⟩
  rw [← hW4] at hend
  have tr4 : Tr F' w' F' W4 := by rw [hW4]; exact Tr.ctl i2.1 (fun _ _ _ h => by cases h) (fun _ _ h => by cases h) (fun _ _ _ h => by cases h)
  have hk4 : ∀ y, y ≠ l → W4.heap[y]? = w'.heap[y]? := fun y hy => by rw [hW4]; exact World.putObj_heap_other hy
  have h4 := i1.keep tr4 (fun b hb => i1.fresh b (Nat.le_trans tr4.size hb)) (fun b hb => ⟨hk4 b (by rintro rfl; exact i2.2 hb), rfl⟩) (fun id o hi hb => ⟨hk4 _ (fun e => (RepO.not_ctl (i1.obj id o hi) hb (by rw [e]; exact i2.1)).1 _ rfl), rfl⟩)
  let L3 : Loc := ⟨fun i => if i ∈ tb then L2.ρ (upR c1 tb i) else if inRange c1 tb.length i then cx.pρ i else L2.ρ i, fun i => if i ∈ tb then L2.κ (upR c1 tb i) else if inRange c1 tb.length i then cx.pκ i else L2.κ i⟩
  have hL3 : ∀ i, inRange c1 tb.length i = false → L3.ρ i = L2.ρ (upR c1 tb i) ∧ L3.κ i = L2.κ (upR c1 tb i) := by
    intro i hi
    by_cases hm : i ∈ tb
    · simp [L3, hm]
    · simp [L3, hm, hi, upR_out hm]
  have hL3d : ∀ i, i ∉ tb → L3.ρ (dnR c1 tb i) = L2.ρ i ∧ L3.κ (dnR c1 tb i) = L2.κ i := by
    intro i hi
    have : inRange c1 tb.length (dnR c1 tb i) = false := by
      cases hr : inRange c1 tb.length i with
      | false => rw [dnR_out hr]; exact hr
      | true =>
        rw [inRange_iff] at hr
        obtain ⟨k, hk⟩ : ∃ k, i = c1 + k := ⟨i - c1, by omega⟩
        obtain ⟨y, hy⟩ : ∃ y, tb[k]? = some y := ⟨_, List.getElem?_eq_getElem (by omega)⟩
        rw [hk, dnR_in hy]; exact htbr y (List.mem_of_getElem? hy)
    obtain ⟨q1, q2⟩ := hL3 _ this
    rw [hud i hi] at q1 q2
    exact ⟨q1, q2⟩
  have hok' := okH_spec i8
  have hgood : Good cx r (mk ++ m) L3 F' ⟨e, renH (dnR c1 tb) (gg.heap I), gg.st I⟩ { aa with defers := mk.map mark ++ aa.defers } W4 := by
    refine ⟨h4.ren fun i hi => hL3d i (hok' i hi).2, fun t v ht => ?_, ?_, fun x hx => ?_, ?_, fun l0 h0 => ?_, fun i hi => ?_, hg.tsz⟩
    · obtain ⟨x, hx, hr⟩ := i5 t (mapId (renF (upR c1 tb)) v) (by
        have ht : get e t = some v := ht
        simp only [renE, get_mapT, ht]; rfl)
      refine ⟨x, hx, RepV.mono tr4 v x (fun _ _ => ⟨rfl, rfl⟩) ((RepV.ren (R := upR c1 tb) (L := L3) (L' := L2) v x fun i hi => ?_).1 hr)⟩
      obtain ⟨q1, q2⟩ := hL3 i (henv1 i (envNames_mem ht hi))
      exact ⟨q1.symm, q2.symm⟩
    · show mk.map mark ++ aa.defers = (mk ++ m).map mark
      rw [hg.dfr, List.map_append]
    · obtain ⟨q1, q2⟩ := i3 x hx
      exact ⟨by rw [hk4 x (by rintro rfl; rw [i2.1] at q1; cases q1)]; exact q1, q2⟩
    · rw [List.nodup_append]
      refine ⟨hmn, hg.mnd, fun x hx y hy e => ?_⟩
      have h1 := (hmk x hx).1
      have h2 := block_lt (hg.mks y hy).1
      omega
    · obtain ⟨lp, ⟨q1, q2⟩, q3⟩ := i4 l0 h0
      exact ⟨lp, ⟨by rw [hk4 l0 (by rintro rfl; exact hrl h0)]; exact q1, q2⟩, q3⟩
    · have hm : i ∉ tb := fun hm => by have := htb6 i hm; unfold pinned at hi; omega
      cases hr : inRange c1 tb.length i with
      | true => simp [L3, hm, hr]
      | false =>
        obtain ⟨q1, q2⟩ := hL3 i hr
        rw [upR_out hm] at q1 q2
        obtain ⟨q3, q4⟩ := i6 i hi
        have q5 : L1.ρ i = L.ρ i ∧ L1.κ i = L.κ i := by
          show L.ρ (dnR c1 tb i) = L.ρ i ∧ L.κ (dnR c1 tb i) = L.κ i
          rw [dnR_out hr]; exact ⟨rfl, rfl⟩
        obtain ⟨q6, q7⟩ := hg.pin i hi
        exact ⟨q1.trans (q3.trans (q5.1.trans q6)), q2.trans (q4.trans (q5.2.trans q7))⟩
  have trw : Tr F w F' W4 := Tr.trans tr1 (Tr.trans tr tr4)
  refine ⟨_, W4, hend, ?_⟩
  cases gg with
  | go x =>
    show ∃ e' st' m' L' F', _
    exact ⟨.normal, _, mk ++ m, L3, F', rfl, hK, hgood, trw, rfl⟩
  | done ex hd s' =>
    cases ex with
    | normal => exact wpIn_skip ⟨.normal, _, mk ++ m, L3, F', rfl, hK, hgood, trw, rfl⟩
    | ret => exact wpIn_ret ⟨.ret, _, mk ++ m, L3, F', rfl, hK, hgood, trw, rfl⟩
    | exit i => exact wpIn_exit ⟨.exit i, _, mk ++ m, L3, F', rfl, hK, hgood, trw, rfl⟩
end
end Go.PX

/- PX: functions that yield one after another. -/
namespace Go.PX
open Go.RowKit

/-- Yield is called with these, one after another, until it says that it is enough. -/
def iterate {γ : Type} (Y : Hd γ) : List (List V × Heap) → γ → (γ → Prop) → Prop
  | [], g, Q => Q g
  | (args, h) :: r, g, Q => Y.y args h g fun v h' g' => h' = h ∧ ((v = .d (.bool true) ∧ iterate Y r g' Q) ∨ (v = .d (.bool false) ∧ Q g'))

/-- A function that yields these. -/
def Yields (P : Program) (f : FuncId) (caps : List D) (l : List (List V × Heap)) : Prop :=
  ∀ {γ : Type} (Y : Hd γ) (g : γ) (Q : γ → Prop), iterate Y l g Q → FnC P Y f (.yld :: inj caps) [] g fun v h' g' => h' = [] ∧ Q g'

section
variable {P : Program} {T : Tys} {ft : FT} {α σ : Type} {Y : Hd σ}

theorem RangeA_list (hT : TysOk P T) {g : Operand} {ps : Array Tmp} {a b : Code} (hDa : drawsOk P T ft a) (hDb : drawsOk P T ft b) {f : FuncId} {caps : List D} {e : Env} {h : Heap} {s : σ} {K : AExit → St σ → Prop} (hgv : opnd e g = some (.d (.clo f caps)))
    (c1 c2 : Nat) (tb : List Nat) {β : Type} {items : List β} {arg : β → List V} {hp : β → Heap} (hf : Yields P f caps (items.map fun b => (arg b, hp b)))
    (I : α → Heap × σ) (J : List β → α → Prop) (x0 : α) (hck : rangeB c1 c2 tb e h = true) (hI : I x0 = (renH (upR c1 tb) h, s)) (hok0 : okH c2 tb (I x0).1 = true) (hJ0 : J items x0)
    (round : ∀ it rest x, J (it :: rest) x → ∀ (Q : V → Heap → RS α σ → Prop), (∀ x', J rest x' → Q (.d (.bool true)) (hp it) (.go x')) → (∀ ex hd s', K ex ⟨e, renH (dnR c1 tb) hd, s'⟩ → Q (.d (.bool false)) (hp it) (.done ex hd s')) →
      (rangeY P T ft Y I ps a b (renE (upR c1 tb) e) c2 tb).y (arg it) (hp it) (.go x) Q)
    (fin : ∀ x, J [] x → K .normal ⟨e, renH (dnR c1 tb) (I x).1, (I x).2⟩) : RangeA P ft Y g ps a b ⟨e, h, s⟩ K := by
  refine RangeA_gen hT hDa hDb hgv c1 c2 tb I x0 hck hI hok0 fun L => hf (liftY (rangeY P T ft Y I ps a b (renE (upR c1 tb) e) c2 tb)) (RS.go x0, L) (fun g => match g.1 with
      | .go x => K .normal ⟨e, renH (dnR c1 tb) (I x).1, (I x).2⟩
      | .done ex hd s' => K ex ⟨e, renH (dnR c1 tb) hd, s'⟩) ?_
  have key : ∀ (l : List β) (x : α) (L : Loc), J l x → iterate (liftY (rangeY P T ft Y I ps a b (renE (upR c1 tb) e) c2 tb)) (l.map fun b => (arg b, hp b))  (RS.go x, L) (fun g => match g.1 with
      | .go x => K .normal ⟨e, renH (dnR c1 tb) (I x).1, (I x).2⟩
      | .done ex hd s' => K ex ⟨e, renH (dnR c1 tb) hd, s'⟩) := by
    intro l
    induction l with
    | nil => exact fun x L hj => fin x hj
    | cons it rest ih =>
      intro x L hj
      exact round it rest x hj (fun v h' g' => ∀ L', h' = hp it ∧ ((v = .d (.bool true) ∧ iterate (liftY (rangeY P T ft Y I ps a b (renE (upR c1 tb) e) c2 tb)) (rest.map fun b => (arg b, hp b)) (g', L') (fun g => match g.1 with
      | .go x => K .normal ⟨e, renH (dnR c1 tb) (I x).1, (I x).2⟩
      | .done ex hd s' => K ex ⟨e, renH (dnR c1 tb) hd, s'⟩)) ∨ (v = .d (.bool false) ∧ (match g' with
      | .go x => K .normal ⟨e, renH (dnR c1 tb) (I x).1, (I x).2⟩
      | .done ex hd s' => K ex ⟨e, renH (dnR c1 tb) hd, s'⟩)))) (fun x' hj' L' => ⟨rfl, .inl ⟨rfl, ih x' L' hj'⟩⟩) (fun ex hd s' hk L' => ⟨rfl, .inr ⟨rfl, hk⟩⟩)
  exact key items x0 L hJ0

/-- Yield, with data. -/
theorem YldA_v {e : Env} {h : Heap} {s : σ} {d : Option Nat} {ds : List D} {r : List (List V × Heap)} {Q : σ → Prop} (hit : iterate Y ((inj ds, []) :: r) s Q) {args : List V} (hv : args = inj ds) (hd : Nat.ble (d.getD 0) 10000 = true) {K : St σ → Prop}
    (kt : ∀ s', iterate Y r s' Q → applyK (wset d (.d (.bool true))) e h fun e h => K ⟨e, h, s'⟩) (kf : ∀ s', Q s' → applyK (wset d (.d (.bool false))) e h fun e h => K ⟨e, h, s'⟩) : YldA P Y ⟨e, h, s⟩ d args K := by
  have hB : ∀ b : Bool, callB [] d (.d (.bool b)) [] = true := by
    intro b
    simp only [callB, Bool.and_eq_true]
    refine ⟨⟨⟨⟨⟨⟨⟨⟨⟨rfl, rfl⟩, rfl⟩, rfl⟩, rfl⟩, rfl⟩, rfl⟩, hd⟩, rfl⟩, ?_⟩
    cases d <;> rfl
  have hren : ∀ (R : Nat → Nat) (l : List D), renL R (inj l) = inj l := by
    intro R l
    induction l with
    | nil => rfl
    | cons c r ih => show mapId (renF R) (.d c) :: mapIdL (renF R) (inj r) = .d c :: inj r; rw [show mapIdL (renF R) (inj r) = inj r from ih]; rfl
  refine yldY_of [] hit (by rw [hv]; exact hren _ _) rfl rfl rfl ?_
  rintro v h1 s' ⟨rfl, hv⟩
  rcases hv with ⟨rfl, hi⟩ | ⟨rfl, hq⟩
  · refine ⟨hB true, ?_⟩
    have := kt s' hi
    rw [applyK_eq s'] at this
    have hs : (applyWs (⟨e, h, s'⟩ : St σ) (wset d (.d (.bool true)))).s = s' := applyWs_s _ _
    show K (applyWs ⟨e, h, s'⟩ (wset d (.d (.bool true))))
    generalize applyWs (⟨e, h, s'⟩ : St σ) (wset d (.d (.bool true))) = st at this hs
    obtain ⟨e1, h1, s1⟩ := st
    simp only at hs; subst hs; exact this
  · refine ⟨hB false, ?_⟩
    have := kf s' hq
    rw [applyK_eq s'] at this
    have hs : (applyWs (⟨e, h, s'⟩ : St σ) (wset d (.d (.bool false)))).s = s' := applyWs_s _ _
    show K (applyWs ⟨e, h, s'⟩ (wset d (.d (.bool false))))
    generalize applyWs (⟨e, h, s'⟩ : St σ) (wset d (.d (.bool false))) = st at this hs
    obtain ⟨e1, h1, s1⟩ := st
    simp only at hs; subst hs; exact this
end
end Go.PX
