import Derived.Test.YtifbnniijibfgaaPxD
import Derived.Deep.AppendSrc
set_option linter.all false
/- PX: appends. -/
namespace Go.PX
open Go.RowKit

section
variable {σ : Type} {cx : Cx σ} {r : Option Nat} {m : List Nat} {L : Loc} {F : Nat → Nat} {st : St σ} {a : Act} {w : World}

/-- An object's block goes to another object. -/
theorem Good.retake (hh : Good cx r m L F st a w) {id d : Nat} {o0 o : Obj} (hpd : ¬ pinned d) (h0 : get st.heap id = some o0) (hb0 : Backed L id o0) {w' : World}
    (hos : w'.os = w.os) (ht : w'.tape = w.tape) (hu : w'.output = w.output) (hsz : w'.heap.size = w.heap.size) (hk : ∀ b, b ≠ L.ρ id → w'.heap[b]? = w.heap[b]?)
    (hnd : ∀ ds, w.heap[L.ρ id]? ≠ some (.deferred ds)) (hnl : ∀ lp, w.heap[L.ρ id]? ≠ some (.loop lp))
    (ho : RepO cx.yv ⟨fun i => if i = d then L.ρ id else L.ρ i, fun i => if i = d then L.κ id else L.κ i⟩ F w' d o) :
    Good cx r m ⟨fun i => if i = d then L.ρ id else L.ρ i, fun i => if i = d then L.κ id else L.κ i⟩ F (applyW (applyW st (.del id)) (.new d o)) a w' ∧ Tr F w F w' := by
  obtain ⟨hF, hnC⟩ := hh.heap.own id o0 h0 hb0
  have tr : Tr F w F w' := .of_keep hos ht hu (by omega) (fun _ => Nat.le_refl _) hh.heap.fresh fun b _ hF' => hk b (by rintro rfl; omega)
  have hC : ∀ c, cx.C st.s c → w'.heap[c]? = w.heap[c]? := fun c hc => hk c (by rintro rfl; exact hnC hc)
  have hg : ∀ i o', get (applyW (applyW st (.del id)) (.new d o)).heap i = some o' → (i = d ∧ o' = o) ∨ (i ≠ d ∧ i ≠ id ∧ ∃ o1, get st.heap i = some o1 ∧ o' = Obj.mapId (killF d) o1) := by
    intro i o' hi
    simp only [applyW, get_put, get_mapT, get_cut] at hi
    split at hi
    · rename_i e; left; exact ⟨e, by cases hi; rfl⟩
    · rename_i e
      right
      by_cases hid : i = id
      · simp [hid] at hi
      · refine ⟨e, hid, ?_⟩
        cases h1 : get st.heap i with
        | none => simp [h1] at hi
        | some o1 => simp [h1, hid] at hi; exact ⟨o1, rfl, hi.symm⟩
  have key : ∀ i o', get (applyW (applyW st (.del id)) (.new d o)).heap i = some o' → i ≠ d → Backed ⟨fun i => if i = d then L.ρ id else L.ρ i, fun i => if i = d then L.κ id else L.κ i⟩ i o' → i ≠ id ∧ ∃ o1, get st.heap i = some o1 ∧ Backed L i o1 := by
    intro i o' hi hne hb
    rcases hg i o' hi with ⟨rfl, rfl⟩ | ⟨_, hid, o1, h1, rfl⟩
    · exact absurd rfl hne
    · refine ⟨hid, o1, h1, ?_⟩
      have := (Backed_kill _ d i o1).1 hb
      cases o1 <;> simp_all [Backed]
  refine ⟨⟨⟨cx.stable hh.heap.hg tr (fun c hc => hh.heap.fresh c (by omega)) fun c hc => ⟨hC c hc, rfl⟩, fun c hc => by rw [hsz]; exact hh.heap.csz c hc, fun c hc => hh.heap.fresh c (by omega), ?_, ?_, ?_⟩, ?_, hh.dfr, ?_, hh.mnd, ?_, fun i hi => ?_, hh.tsz⟩, tr⟩
  · intro i o' hi
    rcases hg i o' hi with ⟨rfl, rfl⟩ | ⟨hne, hid, o1, h1, rfl⟩
    · exact ho
    · refine RepO.mono (L := L) tr i _ (fun j hj => ?_) ⟨by simp [hne], by simp [hne]⟩ (fun hb => hk _ ?_) (RepO.kill d i o1 (hh.heap.obj i o1 h1))
      · have : j ≠ d := by rintro rfl; exact namesO_kill j o1 hj
        simp [this]
      · intro e
        exact hid (hh.heap.inj i id o1 o0 h1 h0 ((Backed_kill L d i o1).1 hb) hb0 e)
  · intro i o' hi hb
    by_cases hie : i = d
    · subst hie; simp only [if_true]; exact ⟨hF, hnC⟩
    · obtain ⟨_, o1, h1, hb1⟩ := key i o' hi hie hb
      simp only [hie, if_false]
      exact hh.heap.own i o1 h1 hb1
  · intro i j o' p hi hj hbi hbj e
    by_cases hie : i = d <;> by_cases hje : j = d
    · rw [hie, hje]
    · exfalso
      obtain ⟨hjid, p1, hp1, hbp⟩ := key j p hj hje hbj
      simp [hie, hje] at e
      exact hjid (hh.heap.inj j id p1 o0 hp1 h0 hbp hb0 e.symm)
    · exfalso
      obtain ⟨hiid, p1, hp1, hbp⟩ := key i o' hi hie hbi
      simp [hie, hje] at e
      exact hiid (hh.heap.inj i id p1 o0 hp1 h0 hbp hb0 e)
    · obtain ⟨_, o1, ho1, hb1⟩ := key i o' hi hie hbi
      obtain ⟨_, p1, hp1, hbp⟩ := key j p hj hje hbj
      simp only [hie, hje, if_false] at e
      exact hh.heap.inj i j o1 p1 ho1 hp1 hb1 hbp e
  · intro s v hs
    simp only [applyW, get_mapT] at hs
    cases h1 : get st.env s with
    | none => simp [h1] at hs
    | some v0 =>
      simp [h1] at hs
      subst hs
      obtain ⟨x, hx, hr⟩ := hh.env s v0 h1
      refine ⟨x, hx, RepV.mono tr _ x (fun j hj => ?_) (RepV.kill d v0 x hr)⟩
      have : j ≠ d := by rintro rfl; exact names_kill j v0 hj
      simp [this]
  · intro b hb
    have := (hh.mks b hb).1
    exact ⟨by rw [hk b (by rintro rfl; exact hnd _ this)]; exact this, (hh.mks b hb).2⟩
  · intro l hl
    obtain ⟨lp, hlp⟩ := hh.lk l hl
    exact ⟨lp, ⟨by rw [hk l (by rintro rfl; exact hnl _ hlp.1.1)]; exact hlp.1.1, hlp.1.2⟩, hlp.2⟩
  · have : i ≠ d := by rintro rfl; exact hpd hi
    simp only [this, if_false]; exact hh.pin i hi
end

theorem Els.len_eq (c : Els) : c.len = c.toV.length := by
  cases c <;> simp [Els.len, Els.toV, injL_eq]
theorem Els.part_toV (c : Els) (off n : Nat) : (c.part off n).toV = (c.toV.drop off).take n := by
  cases c <;> simp [Els.part, Els.toV, injL_eq, List.map_drop, List.map_take]
theorem Els.app_toV (c x : Els) : (c.app x).toV = c.toV ++ x.toV := by
  cases c <;> cases x <;> simp [Els.app, Els.toV, injL_eq]

theorem flatten_take {α : Type} {sz : Nat} : ∀ {es : List (List α)} (n : Nat), lensAre sz es → (es.take n).flatten = es.flatten.take (n * sz)
  | [], n, _ => by simp
  | f :: es, 0, _ => by simp
  | f :: es, n + 1, h => by
    have hf := h f (List.mem_cons_self ..)
    have e1 : (n + 1) * sz = f.length + n * sz := by rw [Nat.succ_mul]; omega
    rw [List.take_succ_cons, List.flatten_cons, List.flatten_cons, flatten_take n (fun e he => h e (List.mem_cons_of_mem _ he)), e1, List.take_length_add_append]

theorem flatten_drop {α : Type} {sz : Nat} : ∀ {es : List (List α)} (n : Nat), lensAre sz es → (es.drop n).flatten = es.flatten.drop (n * sz)
  | [], n, _ => by simp
  | f :: es, 0, _ => by simp
  | f :: es, n + 1, h => by
    have hf := h f (List.mem_cons_self ..)
    have e1 : (n + 1) * sz = f.length + n * sz := by rw [Nat.succ_mul]; omega
    rw [List.drop_succ_cons, List.flatten_cons, flatten_drop n (fun e he => h e (List.mem_cons_of_mem _ he)), e1, List.drop_length_add_append]

section
variable {yv : Option Nat} {L : Loc} {F : Nat → Nat} {w : World}

theorem RepEs.cells {b off sz : Nat} : ∀ {es : List (List D)}, RepEs F w b off sz es → ∃ l : List Value, RepDL F w es.flatten l ∧ l.length = es.length * sz ∧ ∀ (j : Nat) v, l[j]? = some v → w.cell? ⟨b, off + j, none⟩ = some v := by
  intro es
  have at_ : ∀ {cs : List D} {o : Nat}, RepAt F w b o cs → ∃ l : List Value, RepDL F w cs l ∧ ∀ (j : Nat) v, l[j]? = some v → w.cell? ⟨b, o + j, none⟩ = some v := by
    intro cs
    induction cs with
    | nil => intro o _; exact ⟨[], rfl, by simp⟩
    | cons c r ih =>
      intro o h
      obtain ⟨_, ⟨x, hx, hc⟩, hr⟩ := h
      obtain ⟨l, hl, hj⟩ := ih hr
      refine ⟨x :: l, ⟨x, l, rfl, hc, hl⟩, fun j v hv => ?_⟩
      cases j with
      | zero => simp at hv; subst hv; exact hx
      | succ j =>
        have := hj j v (by simpa using hv)
        rw [Nat.add_assoc, Nat.add_comm 1 j] at this; exact this
  induction es generalizing off with
  | nil => intro _; exact ⟨[], rfl, by simp, by simp⟩
  | cons e r ih =>
    intro h
    obtain ⟨he, ha, hr⟩ := h
    obtain ⟨l1, h1, j1⟩ := at_ ha
    obtain ⟨l2, h2, e2, j2⟩ := ih hr
    have e1 := h1.length
    refine ⟨l1 ++ l2, ?_, by simp [e1, e2, he, Nat.succ_mul]; omega, fun j v hv => ?_⟩
    · rw [List.flatten_cons]
      have := RepVL.append (yv := none) (L := ⟨fun _ => 0, fun _ => 0⟩) (RepVL.inj.2 h1) (RepVL.inj.2 h2)
      rw [← inj_append] at this
      exact RepVL.inj.1 this
    · by_cases hj : j < l1.length
      · rw [List.getElem?_append_left hj] at hv; exact j1 j v hv
      · rw [List.getElem?_append_right (by omega)] at hv
        have := j2 _ v hv
        have e : off + sz + (j - l1.length) = off + j := by omega
        rw [e] at this; exact this

/-- The elements that a slice value has. -/
theorem elems_of {σ' : Type} {h : Heap} {s : σ'} {cx : Cx σ'} {hp : Heap} (hs : SubT h hp) (hg : HeapOk cx L F hp s w) {v : V} {fs : Els} (hf : elemsV h v = some fs) {y : Value} (hr : RepV cx.yv L F w v y) {sz : Nat} (hl : ∀ e ∈ fs.toV, e.length = sz) (hsz : 0 < sz) :
    ∃ (ay : Option Addr) (cap : Nat) (news : List Value), y = .slice ay fs.toV.length cap ∧ fs.toV.length ≤ cap ∧ RepVL cx.yv L F w fs.toV.flatten news ∧ news.length = fs.toV.length * sz ∧
      (fs.toV = [] ∨ ∃ b off, ay = some ⟨b, off, none⟩ ∧ ∀ (j : Nat) v, news[j]? = some v → w.cell? ⟨b, off + j, none⟩ = some v) := by
  unfold elemsV at hf
  split at hf
  · rename_i es
    cases hf
    obtain ⟨a0, len, cap, rfl, hlen, hcap, hes⟩ := hr
    have e1 : (Els.dd es).toV.length = es.length := by simp [Els.toV, injL_eq]
    by_cases hne : es = []
    · subst hne
      refine ⟨a0, cap, [], by rw [hlen]; rfl, Nat.zero_le _, rfl, by simp [Els.toV, injL], .inl rfl⟩
    · obtain ⟨b, off, sz', rfl, hsz0, hat⟩ := hes hne
      have hszz : sz' = sz := by
        cases es with
        | nil => exact absurd rfl hne
        | cons x r =>
          have := hl (inj x) (by simp [Els.toV, injL])
          rw [inj_length] at this
          exact hat.1.symm.trans this
      subst hszz
      obtain ⟨l, h1, h2, h3⟩ := RepEs.cells hat
      refine ⟨_, cap, l, by rw [hlen, e1], by rw [e1, ← hlen]; exact hcap, ?_, by rw [h2, e1], .inr ⟨b, off, rfl, h3⟩⟩
      show RepVL _ _ _ _ (injL es).flatten l
      rw [injL_flatten]; exact RepVL.inj.2 h1
  · cases hf
    have hr : y = .slice none 0 0 := hr
    exact ⟨none, 0, [], hr, Nat.le_refl _, rfl, by simp [Els.toV, injL], .inl rfl⟩
  · rename_i id z off n
    split at hf
    case h_2 => cases hf
    rename_i m es hes
    split at hf
    case h_2 => cases hf
    rename_i hc1 hc2
    cases hf
    have hc1 := beq_t hc1
    have hc2 := ble_t hc2
    subst hc1
    rw [Els.len_eq] at hc2
    obtain ⟨a0, cap, rfl, hcap, hz0, hb⟩ := hr
    have e1 : (es.part off n).toV.length = n := by rw [Els.part_toV]; simp; omega
    obtain ⟨_, hlens, hrest⟩ := hg.obj id _ (hs _ _ hes)
    by_cases hn0 : n = 0
    · subst hn0
      have e0 : (es.part off 0).toV = [] := by rw [Els.part_toV]; simp
      exact ⟨a0, cap, [], by rw [e0]; rfl, by rw [e0]; exact Nat.zero_le _, by rw [e0]; rfl, by rw [e0]; simp, .inl e0⟩
    · rcases hb with ⟨h0, _⟩ | ⟨rfl, hb⟩
      · omega
      have hmsz : m = sz := by
        have hx : off < es.toV.length := by omega
        have := hl es.toV[off] (by rw [Els.part_toV]; exact List.mem_iff_getElem?.2 ⟨0, by rw [List.getElem?_take_of_lt (by omega), List.getElem?_drop]; simp [hx]⟩)
        rw [← this]; exact (hlens _ (List.getElem_mem _)).symm
      subst hmsz
      rcases hrest with ⟨he, _⟩ | ⟨l, E, hl', hk, hszl, hrr⟩
      · rw [he] at hc2; simp at hc2; omega
      have hflat : (es.part off n).toV.flatten = (es.toV.flatten.drop (off * m)).take (n * m) := by
        rw [Els.part_toV, flatten_take _ (fun e he => hlens e (List.mem_of_mem_drop he)), flatten_drop _ hlens]
      have hle : (off + n) * m ≤ es.toV.length * m := Nat.mul_le_mul_right _ hc2
      rw [Nat.add_mul] at hle
      refine ⟨_, cap, ((l.toList.take (es.toV.length * m)).drop (off * m)).take (n * m), by rw [e1], by rw [e1]; exact hcap, by rw [hflat]; exact (hrr.drop _).take _, ?_, .inr ⟨_, _, rfl, fun j v hv => ?_⟩⟩
      · rw [e1]; simp; omega
      · rw [cell_of_row _ _ _ _ _ _ hl']
        have hj : j < n * m := by have := (List.getElem?_eq_some_iff.1 hv).1; simp at this; omega
        rw [List.getElem?_take_of_lt hj, List.getElem?_drop, List.getElem?_take_of_lt (by omega)] at hv
        simpa using hv
  · cases hf

end
end Go.PX

/- PX: the append. -/
namespace Go.PX
open Go.RowKit

section
variable {P : Program} {T : Tys}

theorem run_append_room {w : World} (t tx ty e : TypeId) {i : TypeInfo} (ht : P.underlying t = some (.slice e)) (hi : P.info? e = some i) {b off sLen sCap : Nat} {x : Value} {n : Nat} {news : List Value} (hs : Src P i.size tx x n news w)
    (hroom : sLen + n ≤ sCap) {c : Array Value} {E : TypeId} (hb : w.heap[b]? = some (.cells c E (0, 0))) (hc : off + sCap * i.size ≤ c.size) :
    (Builtin.append_ #[t, tx] ty #[.slice (some ⟨b, off, none⟩) sLen sCap, x]).run P w =
      .ok (.slice (some ⟨b, off, none⟩) (sLen + n) sCap) (w.setRow b (c.toList.take (off + sLen * i.size) ++ news ++ c.toList.drop (off + sLen * i.size + news.length)).toArray) := by
  have hle : (sLen + n) * i.size ≤ sCap * i.size := Nat.mul_le_mul_right _ hroom
  rw [Nat.add_mul] at hle
  have hst := run_storeCells_at (P := P) b (off + sLen * i.size) E news 0 c w hb (by rw [hs.newsLen]; omega) hs.one
  simp only [Nat.add_zero] at hst
  rcases hs.kind with ⟨e', hk⟩ | hk <;> simp [Builtin.append_, run_underlying ht, run_underlying hk, sizeOf, typeInfo, hi, hs.len, hroom, hs.cells, add_none, hst]

theorem run_append_none {w : World} (t tx ty e : TypeId) {i : TypeInfo} (ht : P.underlying t = some (.slice e)) (hi : P.info? e = some i) {base : Option Addr} {sLen sCap : Nat} {x : Value} (hs : Src P i.size tx x 0 [] w)
    (hroom : sLen ≤ sCap) :
    (Builtin.append_ #[t, tx] ty #[.slice base sLen sCap, x]).run P w = .ok (.slice base sLen sCap) w := by
  cases base <;> rcases hs.kind with ⟨e', hk⟩ | hk <;> simp [Builtin.append_, run_underlying ht, run_underlying hk, sizeOf, typeInfo, hi, hs.len, hroom, hs.cells, storeCells]

theorem src_of {w : World} {size : Nat} {u el : TypeId} (hu : P.underlying u = some (.slice el)) {ay : Option Addr} {n cap : Nat} {news : List Value} (hlen : news.length = n * size)
    (hc : n = 0 ∨ ∃ b off, ay = some ⟨b, off, none⟩ ∧ ∀ (j : Nat) v, news[j]? = some v → w.cell? ⟨b, off + j, none⟩ = some v) (h1 : ∀ v ∈ news, v.oneCell' = true) :
    Src P size u (.slice ay n cap) n news w := by
  rcases hc with rfl | ⟨b, off, rfl, hj⟩
  · have hn : news = [] := List.length_eq_zero_iff.1 (by simpa using hlen)
    subst hn
    cases ay with
    | none => exact Src.ofNil w hu cap
    | some ad => exact Src.ofSlice w hu ad 0 cap [] (by simp) (by simp) (fun _ h => by cases h)
  · exact Src.ofSlice w hu _ n cap news hlen (fun j v hv => by rw [add_none]; exact hj j v hv) h1

variable {e : Env} {h : Heap} {dst : Option Nat} {K : List Wr → Prop} {ty : TypeId} {pos : String} {after : Array Edge} {guard : Option (Nat × Bool)}

/-- The append grows: a new block. -/
theorem append_grow {σ : Type} {cx : Cx σ} {r : Option Nat} {m : List Nat} {L : Loc} {F : Nat → Nat} {st : St σ} {a : Act} {w : World} (hg : Good cx r m L F st a w) {d : Nat} (hd : d < a.tmps.size)
    {t tx el : TypeId} {ie : TypeInfo} {z : Value} (hu : P.underlying t = some (.slice el)) (hie : P.info? el = some ie) (hz : ie.zero = some z) (hzs : z.cells.size = ie.size) (hsz : 0 < ie.size) (hby : 0 < ie.bytes)
    {base : Option Addr} {len cap n : Nat} {olds news : List Value} {x : Value} (hold : ∀ w' : World, (∀ y, w'.cell? y = w.cell? y) → (Builtin.firstCells ie.size len (.slice base len cap)).run P w' = .ok olds.toArray w')
    (holdl : olds.length = len * ie.size) (hs : Src P ie.size tx x n news w) (hgr : cap < len + n) (hbig : (len + n) * ie.bytes ≤ 140737488355328)
    {es : Els} (hesl : es.toV.length = len + n) (hlens : lensAre ie.size es.toV) (hr : RepVL cx.yv L F w es.toV.flatten (olds ++ news)) (hf : ¬ namesVL es.toV.flatten d) :
    ∃ v w' L' F', (Builtin.append_ #[t, tx] ty #[.slice base len cap, x]).run P w = .ok v w' ∧ Good cx r m L' F' (applyWs st [.new d (.arr ie.size es), .set d (.sl d ie.size 0 (len + n))]) (a.put (some d) v) w' ∧ Tr F w F' w' := by
  have hnl := hs.newsLen
  have h63 : ((len + n : Nat) : Int) ≤ 9223372036854775807 := by
    have : len + n ≤ (len + n) * ie.bytes := Nat.le_mul_of_pos_right _ hby
    omega
  have hrun := run_append_grow_src (P := P) w t tx ty el ie z hu hie hz base len cap olds (hold w.drew fun _ => rfl) x n news hs hgr h63 (growslice_fits hgr hbig)
  generalize hgc : grownCap w (len + n) cap el = nc at hrun
  have hnc : len + n ≤ nc := by rw [← hgc]; exact grownCap_ge _ _ _ _
  generalize hcells : (olds ++ news).toArray ++ Builtin.zeroCells z.cells (nc - (len + n)) = c' at hrun
  have hmul : (len + n) * ie.size = len * ie.size + n * ie.size := Nat.add_mul _ _ _
  have hctake : c'.toList.take ((len + n) * ie.size) = olds ++ news := by
    rw [← hcells]
    have : (olds ++ news).length = (len + n) * ie.size := by simp [holdl, hnl, hmul]
    rw [← this]
    simp only [Array.toList_append]
    exact List.take_left' rfl
  have hcsz : c'.size = nc * ie.size := by
    rw [← hcells]
    have h1 : nc = (len + n) + (nc - (len + n)) := by omega
    have h2 : nc * ie.size = (len + n) * ie.size + (nc - (len + n)) * ie.size := by
      conv => lhs; rw [h1]
      rw [Nat.add_mul]
    rw [h2]
    simp [Builtin.zeroCells, holdl, hnl, hzs, hmul]
  have hgd : Good cx r m L F st a w.drew := hg.same rfl rfl rfl rfl
  have tr0 : Tr F w F w.drew := Tr.drew _
  have tr1 : Tr F w.drew F (w.drew.alloc (.cells c' el)) := Tr.alloc hgd.heap.fresh _
  have hle : (len + n) * ie.size ≤ nc * ie.size := Nat.mul_le_mul_right _ hnc
  have hgn := hgd.new d c'.size (.arr ie.size es) (.cells c' el) (hgd.unpinned hd) ⟨hsz, hlens, .inr ⟨c', el, (by show (w.drew.alloc _).heap[if d = d then w.drew.heap.size else L.ρ d]? = _; rw [if_pos rfl]; exact heap_alloc_new w.drew _), (by simp), (by rw [hesl, hcsz]; exact hle), (by
    rw [hesl, hctake]
    exact RepVL.newLoc (L := L) (Tr.trans tr0 tr1) (fun i hi => by simp [hi]) hf hr)⟩⟩
  refine ⟨_, _, _, F, hrun, hgn.set (v := .sl d ie.size 0 (len + n)) hd ⟨_, _, rfl, hnc, hsz, .inr ⟨(by simp), (by simp [hcsz])⟩⟩, Tr.trans tr0 tr1⟩

theorem out_append (hT : TysOk P T) {args : Array Operand} {tys : Array TypeId} (hk : builtinK T e h dst .append args tys K) : ∃ ws, K ws ∧ Out P e h ⟨dst, .call ⟨.builtin .append, args, tys⟩, ty, pos, after, guard⟩ ws := by
  simp only [builtinK] at hk
  split at hk
  case h_2 => exact hk.elim
  rename_i x y t u hargs htys
  split at hk
  case h_2 => exact hk.elim
  rename_i ui hui
  unfold appendK at hk
  split at hk
  case h_2 => exact hk.elim
  rename_i v uv ei d hx hy hei
  split at hk
  case h_2 => exact hk.elim
  rename_i fs hfs
  obtain ⟨hok, hk⟩ := chk_t hk
  obtain ⟨el, hun, hel⟩ := sliceOf_t hT hei
  obtain ⟨el', hun', _⟩ := sliceOf_t hT hui
  obtain ⟨ie, z, hie, hz, hsz, hby, hsize, hbytes, hzs⟩ := elemOk_t hT hel hok
  have hrun : ∀ (a : Act) (w : World) (b : Option Addr) (l c : Nat) (v : Value) (w' : World), a.eval x = .slice b l c → (Builtin.append_ #[t, u] ty #[.slice b l c, a.eval y]).run P w = .ok v w' →
      (execOp a.eval ⟨some d, .call ⟨.builtin .append, args, tys⟩, ty, pos, after, guard⟩).run P w = .ok (.value v) w' := fun a w b l c v w' hev hv => by
    have h1 : args.map a.eval = #[.slice b l c, a.eval y] := by
      apply Array.ext'
      simp [hargs, hev]
    have h2 : tys = #[t, u] := by
      apply Array.ext'
      simp [htys]
    simp [execOp, resolve, invoke, builtin, h1, h2, hv]
  unfold targetK at hk
  split at hk
  · obtain ⟨hc, hk⟩ := chk_t hk
    simp only [Bool.and_eq_true] at hc
    obtain ⟨hfok, hfree⟩ := hc
    obtain ⟨hbig, hk⟩ := chk_t hk
    have hbig := of_decide_eq_true hbig
    refine ⟨_, hk, ?_⟩
    intro σ cx r m L F st a w he hh hg hd
    have hev : a.eval x = .slice none 0 0 := hg.opnd (opnd_sub he hx)
    have hfo := els_ok hfok
    obtain ⟨ay, cap, news, hye, hcap, hnr, hnl, hcell⟩ := elems_of hh hg.heap hfs (hg.opnd (opnd_sub he hy)) (fun e he => (hfo e he).1) hsz
    have h1 := hnr.one (allScalar_flatten fun e he => (hfo e he).2)
    have hsrc : Src P ie.size u (a.eval y) fs.toV.length news w := by
      rw [hye, ← hsize]
      exact src_of hun' hnl (hcell.imp (fun h => by rw [h]; rfl) fun h => h) h1
    have happ : ((Els.dd []).app fs).toV = fs.toV := by rw [Els.app_toV]; rfl
    have hl0 : (Els.dd []).len + fs.len = fs.toV.length := by rw [Els.len_eq, Els.len_eq]; simp [Els.toV, injL]
    rw [hl0] at hbig
    rw [hl0, hsize]
    by_cases h0 : fs.toV = []
    · have hn0 : fs.toV.length = 0 := by rw [h0]; rfl
      have hnn : news = [] := List.length_eq_zero_iff.1 (by rw [hnl, hn0]; simp)
      rw [hn0, hnn] at hsrc
      have hr := run_append_none (P := P) t u ty el hun hie (base := none) (sLen := 0) (sCap := 0) hsrc (Nat.le_refl _)
      have hgn := hg.newEmpty d ie.size (hg.unpinned (hd d rfl)) (by rw [← hsize]; exact hsz) ((Els.dd []).app fs) (by rw [happ, h0])
      exact ⟨_, _, _, hrun a w none 0 0 _ _ hev hr, .inl rfl, _, F, hgn.set (v := .sl d ie.size 0 fs.toV.length) (hd d rfl) ⟨none, 0, (by rw [hn0]), (by rw [hn0]; exact Nat.le_refl _), (by rw [← hsize]; exact hsz), .inl ⟨hn0, rfl⟩⟩, Tr.refl F w⟩
    · have hpos : 0 < fs.toV.length := Nat.pos_of_ne_zero fun e => h0 (List.length_eq_zero_iff.1 e)
      have := append_grow (P := P) (ty := ty) (tx := u) (x := a.eval y) hg (hd d rfl) hun hie hz hzs (by omega) (by omega) (base := none) (len := 0) (cap := 0) (n := fs.toV.length) (olds := []) (news := news) (fun w' _ => run_firstCells_none w' ie.size 0 0 0) (by simp) hsrc (by omega) (by rw [Nat.zero_add, ← hbytes]; exact hbig)
        (es := (Els.dd []).app fs) (by rw [happ]; simp) (by rw [happ, ← hsize]; exact fun e he => (hfo e he).1) (by rw [happ]; exact hnr) (els_free hfree)
      obtain ⟨v, w', L', F', hv, hgn, tr⟩ := this
      rw [Nat.zero_add] at hgn
      exact ⟨v, w', _, hrun a w none 0 0 v w' hev hv, .inl rfl, L', F', hgn, tr⟩
  · rename_i id n off len _
    split at hk
    case h_2 => exact hk.elim
    rename_i mm es0 hes0
    obtain ⟨hc, hk1⟩ := chk_t hk
    clear hk
    simp only [Bool.and_eq_true] at hc
    obtain ⟨⟨⟨hn1, hm1⟩, hle⟩, hoff⟩ := hc
    have hn1 := beq_t hn1; have hm1 := beq_t hm1; have hle := ble_t hle; have hoff := beq_t hoff
    rw [Els.len_eq] at hle
    obtain ⟨hc, hk2⟩ := chk_t hk1
    clear hk1
    simp only [Bool.and_eq_true] at hc
    obtain ⟨hfok, hfree⟩ := hc
    obtain ⟨hbig, hk⟩ := chk_t hk2
    have hbig := of_decide_eq_true hbig
    refine ⟨_, hk, ?_⟩
    intro σ cx r m L F st a w he hh hg hd
    subst hn1 hoff
    rw [hm1] at hes0
    clear hm1
    obtain ⟨base, cap, hev, hlc, _, hb⟩ := hg.opnd (opnd_sub he hx)
    have hfo := els_ok hfok
    have h0 := hh _ _ hes0
    obtain ⟨_, hlens, hrest⟩ := hg.heap.obj id _ h0
    obtain ⟨ay, capy, news, hye, hcapy, hnr, hnl, hcell⟩ := elems_of hh hg.heap hfs (hg.opnd (opnd_sub he hy)) (fun e he => (hfo e he).1) hsz
    have h1 := hnr.one (allScalar_flatten fun e he => (hfo e he).2)
    have hsrc : Src P ie.size u (a.eval y) fs.toV.length news w := by
      rw [hye, ← hsize]
      exact src_of hun' hnl (hcell.imp (fun h => by rw [h]; rfl) fun h => h) h1
    have hpl : (es0.part 0 len).toV = es0.toV.take len := by rw [Els.part_toV]; rfl
    have hpll : (es0.part 0 len).toV.length = len := by rw [hpl]; simp; omega
    have happ : ((es0.part 0 len).app fs).toV = es0.toV.take len ++ fs.toV := by rw [Els.app_toV, hpl]
    have hl0 : (es0.part 0 len).len + fs.len = len + fs.toV.length := by rw [Els.len_eq, Els.len_eq, hpll]
    have happl : ((es0.part 0 len).app fs).toV.length = len + fs.toV.length := by rw [Els.app_toV, List.length_append, hpll]
    have hplens : lensAre ei.size (es0.toV.take len) := fun e he => hlens e (List.mem_of_mem_take he)
    have happlens : lensAre ei.size ((es0.part 0 len).app fs).toV := by
      rw [happ]
      intro e he
      rcases List.mem_append.1 he with he | he
      · exact hplens e he
      · exact (hfo e he).1
    rw [hl0] at hbig
    rw [hl0]
    -- the old elements
    have hold : ∃ olds, (∀ w' : World, (∀ x, w'.cell? x = w.cell? x) → (Builtin.firstCells ie.size len (.slice base len cap)).run P w' = .ok olds.toArray w') ∧ RepVL cx.yv L F w (es0.toV.take len).flatten olds ∧ olds.length = len * ie.size := by
      rw [← hsize]
      by_cases hl0 : len = 0
      · subst hl0
        refine ⟨[], fun w' _ => ?_, by simp [RepVL], by simp⟩
        cases base with
        | none => exact run_firstCells_none w' _ 0 0 cap
        | some ad => exact run_firstCells_some w' _ 0 ad 0 cap [] (by simp) (by simp)
      · rcases hb with ⟨h0, _⟩ | ⟨rfl, hb⟩
        · omega
        rcases hrest with ⟨he, _⟩ | ⟨l, E, hl', hk', hszl, hrr⟩
        · rw [he] at hle; simp at hle; omega
        have hle' : len * ei.size ≤ es0.toV.length * ei.size := Nat.mul_le_mul_right _ hle
        refine ⟨(l.toList.take (es0.toV.length * ei.size)).take (len * ei.size), fun w' hw' => run_firstCells_some w' _ len _ len cap _ (by simp; omega) fun j v hv => ?_, by rw [flatten_take _ hlens]; exact hrr.take _, by simp; omega⟩
        rw [add_none, hw', cell_of_row _ _ _ _ _ _ hl']
        have hj : j < len * ei.size := by have := (List.getElem?_eq_some_iff.1 hv).1; simp at this; omega
        rw [List.getElem?_take_of_lt hj, List.getElem?_take_of_lt (by omega)] at hv
        simpa using hv
    obtain ⟨olds, hold, holdr, holdl⟩ := hold
    have hallr : RepVL cx.yv L F w ((es0.part 0 len).app fs).toV.flatten (olds ++ news) := by
      rw [happ, List.flatten_append]; exact holdr.append hnr
    have hdel := hg.del id
    by_cases hroom : len + fs.toV.length ≤ cap
    · rcases hb with ⟨hb1, hb2⟩ | ⟨rfl, hb⟩
      · -- nothing at all
        have hn0 : fs.toV.length = 0 := by omega
        have hnn : news = [] := List.length_eq_zero_iff.1 (by rw [hnl, hn0]; simp)
        rw [hn0, hnn] at hsrc
        have hr := run_append_none (P := P) t u ty el hun hie (base := base) (sLen := len) (sCap := cap) hsrc hlc
        have hemp : ((es0.part 0 len).app fs).toV = [] := List.length_eq_zero_iff.1 (by rw [happl]; omega)
        have hgn := hdel.newEmpty d ei.size (hdel.unpinned (hd d rfl)) hsz ((es0.part 0 len).app fs) hemp
        exact ⟨_, _, _, hrun a w base len cap _ _ hev hr, .inl rfl, _, F, hgn.set (v := .sl d ei.size 0 (len + fs.toV.length)) (hd d rfl) ⟨base, cap, (by rw [hn0]; rfl), (by omega), hsz, .inl ⟨(by omega), hb2⟩⟩, Tr.refl F w⟩
      · by_cases hcap0 : cap = 0
        · -- no room, and none wanted
          have hn0 : fs.toV.length = 0 := by omega
          have hnn : news = [] := List.length_eq_zero_iff.1 (by rw [hnl, hn0]; simp)
          rw [hn0, hnn] at hsrc
          have hr := run_append_none (P := P) t u ty el hun hie (base := some ⟨L.ρ id, 0 * ei.size, none⟩) (sLen := len) (sCap := cap) hsrc hlc
          have hemp : ((es0.part 0 len).app fs).toV = [] := List.length_eq_zero_iff.1 (by rw [happl]; omega)
          have hgn := hdel.newEmpty d ei.size (hdel.unpinned (hd d rfl)) hsz ((es0.part 0 len).app fs) hemp
          exact ⟨_, _, _, hrun a w _ len cap _ _ hev hr, .inl rfl, _, F, hgn.set (v := .sl d ei.size 0 (len + fs.toV.length)) (hd d rfl) ⟨_, cap, (by rw [hn0]; rfl), (by omega), hsz, .inl ⟨(by omega), hcap0⟩⟩, Tr.refl F w⟩
        · -- room in the block
          rw [Nat.zero_add] at hb
          have hκ : L.κ id ≠ 0 := by
            have : 0 < cap * ei.size := Nat.mul_pos (by omega) hsz
            omega
          rcases hrest with ⟨_, hk0⟩ | ⟨l, E, hl', hk', hszl, hrr⟩
          · exact absurd hk0 hκ
          have hr := run_append_room (P := P) (ty := ty) t u el hun hie hsrc hroom (b := L.ρ id) (off := 0 * ei.size) hl' (by rw [hk', ← hsize]; simpa using hb)
          simp only [Nat.zero_mul, Nat.zero_add] at hr hev
          have hroom' : (len + fs.toV.length) * ei.size ≤ cap * ei.size := Nat.mul_le_mul_right _ hroom
          rw [Nat.add_mul] at hroom'
          have hnl' : news.length = fs.toV.length * ei.size := hnl
          have hlie : len * ie.size = len * ei.size := by rw [hsize]
          have hL := Array.length_toList (xs := l)
          have hsp := splice_len (cs := l.toList) (l := news) (off := len * ie.size) (by omega)
          generalize hc' : (l.toList.take (len * ie.size) ++ news ++ l.toList.drop (len * ie.size + news.length)).toArray = c' at hr
          have ce : c'.toList = l.toList.take (len * ie.size) ++ news ++ l.toList.drop (len * ie.size + news.length) := by rw [← hc']
          have hcs' : c'.size = l.size := by rw [← ce] at hsp; simpa using hsp
          have tr : Tr F w F (w.setRow (L.ρ id) c') :=
            .of_keep rfl rfl rfl (by simp) (fun _ => Nat.le_refl _) hg.heap.fresh fun b _ hF => setRow_other _ _ _ _ (by rintro rfl; have := (hg.heap.own id _ h0 hκ).1; omega)
          have hol : olds = l.toList.take (len * ie.size) := by
            have h2 := hold w (fun _ => rfl)
            have hle' : len * ei.size ≤ es0.toV.length * ei.size := Nat.mul_le_mul_right _ hle
            have h3 := run_firstCells_some (P := P) w ie.size len ⟨L.ρ id, 0 * ei.size, none⟩ len cap (l.toList.take (len * ie.size)) (by rw [List.length_take, Array.length_toList, ← hsize]; omega) (fun j v hv => by
              rw [add_none, cell_of_row _ _ _ _ _ _ hl']
              have hj : j < len * ie.size := by have := (List.getElem?_eq_some_iff.1 hv).1; rw [List.length_take] at this; omega
              rw [List.getElem?_take_of_lt hj] at hv
              simpa using hv)
            rw [h3] at h2
            simp only [Result.ok.injEq, and_true] at h2
            have := congrArg Array.toList h2
            simpa using this.symm
          obtain ⟨g1, g2⟩ := hg.retake (d := d) (o := .arr ei.size ((es0.part 0 len).app fs)) (hg.unpinned (hd d rfl)) h0 hκ (w' := w.setRow (L.ρ id) c') rfl rfl rfl (size_setRow _ _ _) (fun b hb => setRow_other _ _ _ _ hb)
            (by rw [hl']; intro ds e; cases e) (by rw [hl']; intro lp e; cases e)
            ⟨hsz, happlens, .inr ⟨c', E, (by show (w.setRow _ c').heap[if d = d then L.ρ id else L.ρ d]? = _; rw [if_pos rfl]; exact setRow_heap _ _ _ _ _ _ hl'), (by rw [hcs', hk']; simp), (by rw [happl, hcs', hk', Nat.add_mul]; omega), (by
              rw [happl, ce]
              have e1 : (len + fs.toV.length) * ei.size = (l.toList.take (len * ie.size) ++ news).length := by
                rw [List.length_append, List.length_take, hnl', Nat.add_mul]; omega
              rw [e1, List.take_left', ← hol]
              · exact RepVL.newLoc (L := L) tr (fun i hi => by simp [hi]) (els_free hfree) hallr
              · rfl)⟩⟩
          exact ⟨_, _, _, hrun a w _ len cap _ _ hev hr, .inl rfl, _, F, g1.set (v := .sl d ei.size 0 (len + fs.toV.length)) (hd d rfl) ⟨_, _, rfl, hroom, hsz, .inr ⟨(by simp), (by simp; exact hb)⟩⟩, g2⟩
    · have := append_grow (P := P) (ty := ty) (tx := u) (x := a.eval y) hdel (hd d rfl) hun hie hz hzs (by omega) (by omega) (base := base) (len := len) (cap := cap) (n := fs.toV.length) (olds := olds) (news := news) hold holdl hsrc (by omega) (by rw [← hbytes]; exact hbig)
        (es := (es0.part 0 len).app fs) happl (by rw [← hsize]; exact happlens) hallr (els_free hfree)
      obtain ⟨v, w', L', F', hv, hgn, tr⟩ := this
      rw [← hsize] at hgn
      exact ⟨v, w', _, hrun a w base len cap v w' hev hv, .inl rfl, L', F', hgn, tr⟩
  · exact hk.elim

end
end Go.PX

/- PX: strings that are ranged over, and maps. -/
namespace Go.PX
open Go.RowKit

section
variable {P : Program} {T : Tys} {e : Env} {h : Heap} {dst : Option Nat} {K : List Wr → Prop} {ty : TypeId} {pos : String} {after : Array Edge} {guard : Option (Nat × Bool)}

theorem out_range (hT : TysOk P T) {t : TypeId} {x : Operand} (hk : opK T e h dst (.range t x) K) : ∃ ws, K ws ∧ Out P e h ⟨dst, .range t x, ty, pos, after, guard⟩ ws := by
  simp only [opK] at hk
  split at hk
  case h_2 => exact hk.elim
  rename_i ti s d ht hx
  split at hk
  case h_2 => exact hk.elim
  rename_i hkd
  obtain ⟨de, hde, hk1⟩ := kd_under hT ht
  rw [hkd] at hk1
  have := kdOf_str hk1.symm; subst this
  refine ⟨_, hk, ?_⟩
  intro σ cx r m L F st a w he hh hg hd
  have hev := eval_str hg he hx
  have tr : Tr F w F (w.alloc (.stringIter s 0)) := Tr.alloc hg.heap.fresh _
  have hgn := hg.new d 0 (.iter s 0) (.stringIter s 0) (hg.unpinned (hd d rfl)) (by show (w.alloc _).heap[if d = d then w.heap.size else L.ρ d]? = _; rw [if_pos rfl]; exact heap_alloc_new w _)
  refine ⟨.pointer (some ⟨w.heap.size, 0, none⟩), _, _, ?_, .inl rfl, _, F, hgn.set (v := .it d) (hd d rfl) (by show Value.pointer _ = Value.pointer _; simp), tr⟩
  simp [execOp, hev, Instr.range, run_underlying hde]

theorem out_next {x : Operand} {b : Bool} (hk : opK T e h dst (.next x b) K) : ∃ ws, K ws ∧ Out P e h ⟨dst, .next x b, ty, pos, after, guard⟩ ws := by
  simp only [opK] at hk
  split at hk
  case h_2 => exact hk.elim
  rename_i id hx
  split at hk
  case h_2 => exact hk.elim
  rename_i s p hs
  rcases brk_t hk with ⟨hb, ⟨hk⟩⟩ | ⟨hb, hk⟩
  · have hb := of_decide_eq_true hb
    refine ⟨_, hk, ?_⟩
    intro σ cx r m L F st a w he hh hg hd
    have hev : a.eval x = .pointer (some ⟨L.ρ id, 0, none⟩) := hg.opnd (opnd_sub he hx)
    have h0 := hh _ _ hs
    have hb0 : w.heap[L.ρ id]? = some (.stringIter s p) := hg.heap.obj id _ h0
    have hlt := (Array.getElem?_eq_some_iff.1 hb0).1
    obtain ⟨g1, g2⟩ := hg.obj (o := .iter s (p + (Utf8.decode s p).2)) h0 trivial (w' := { w with heap := w.heap.setIfInBounds (L.ρ id) (.stringIter s (p + (Utf8.decode s p).2)) }) rfl rfl rfl (by simp) (fun y hy => by simp [Array.getElem?_setIfInBounds_ne (Ne.symm hy)])
      (by rw [hb0]; intro ds e; cases e) (by rw [hb0]; intro lp e; cases e) (by show _ = _; simp [Array.getElem?_setIfInBounds, hlt])
    refine ⟨.tuple #[.bool true, .int .i64 p, .int .i32 (Utf8.decode s p).1], _, _, ?_, .inl rfl, L, F, ?_, g2⟩
    · simp only [execOp, hev, Instr.next, getObj, setObj, Sem.run_bind, Sem.run, hb0, Result.andThen]
      simp [hb, Sem.run, hb0, goInt]
    · cases dst with
      | none => exact g1
      | some d => exact g1.set (hd d rfl) ⟨_, rfl, ⟨_, _, rfl, rfl, _, _, rfl, rfl, _, _, rfl, rfl, rfl⟩⟩
  · have hb := of_decide_eq_false hb
    refine ⟨_, hk, out_val (o := ⟨dst, .next x true, ty, pos, after, guard⟩) fun cx r m L F st a w he hh hg => ?_⟩
    have hev : a.eval x = .pointer (some ⟨L.ρ id, 0, none⟩) := hg.opnd (opnd_sub he hx)
    have hb0 : w.heap[L.ρ id]? = some (.stringIter s p) := hg.heap.obj id _ (hh _ _ hs)
    refine ⟨_, ?_, ⟨_, rfl, ⟨_, _, rfl, rfl, rfl⟩⟩⟩
    simp only [execOp, hev, Instr.next, getObj, Sem.run_bind, Sem.run, hb0, Result.andThen]
    simp [hb, Sem.run]

theorem out_makeMap {t : TypeId} {x : Option Operand} (hk : opK T e h dst (.makeMap t x) K) : ∃ ws, K ws ∧ Out P e h ⟨dst, .makeMap t x, ty, pos, after, guard⟩ ws := by
  simp only [opK] at hk
  split at hk
  case h_2 => exact hk.elim
  rename_i d
  refine ⟨_, hk, ?_⟩
  intro σ cx r m L F st a w he hh hg hd
  have tr : Tr F w F (w.alloc (.map #[] 0)) := Tr.alloc hg.heap.fresh _
  have hgn := hg.new d 0 (.map []) (.map #[] 0) (hg.unpinned (hd d rfl)) ⟨#[], 0, by show (w.alloc _).heap[if d = d then w.heap.size else L.ρ d]? = _; rw [if_pos rfl]; exact heap_alloc_new w _, rfl⟩
  refine ⟨.map (some w.heap.size), _, _, ?_, .inl rfl, _, F, hgn.set (v := .mp d) (hd d rfl) (by show Value.map _ = Value.map _; simp), tr⟩
  simp [execOp, Instr.makeMap]

/-- Keys are compared as the model does it. -/
theorem findNow_t {F : Nat → Nat} {w : World} {kd : TypeDesc} {k : D} {x : Value} (hx : RepD F w k x) (hsame : ∀ (k' : D) (y : Value) (r : Bool), sameD k k' = some r → RepD F w k' y → Instr.sameNow kd x y = some r) :
    ∀ {kvs : List (D × D)} {es : List MapEntry} {n : Nat} {r : Option (Nat × D)}, findD k kvs n = some r → RepKv F w kvs es →
      ∃ q, Instr.findNow kd x es n = some q ∧ (match r, q with
        | none, none => True
        | some (i, v), some (j, u) => i = j ∧ RepD F w v u ∧ n ≤ i ∧ i < n + es.length ∧ ∃ en, es[i - n]? = some en ∧ ∃ kk, RepD F w kk en.key ∧ sameD k kk = some true
        | _, _ => False)
  | [], es, n, r, h, hr => by
    have hr : es = [] := hr
    subst hr
    simp only [findD, Option.some.injEq] at h
    subst h
    exact ⟨none, rfl, trivial⟩
  | (k', v) :: kr, es, n, r, h, hr => by
    obtain ⟨en, es', rfl, hk, hv, hr⟩ := hr
    simp only [findD] at h
    split at h
    · rename_i hs
      cases h
      refine ⟨some (n, en.val), ?_, rfl, hv, Nat.le_refl _, by simp, en, by simp, k', hk, hs⟩
      simp only [Instr.findNow, hsame k' en.key true hs hk]
    · rename_i hs
      obtain ⟨q, h1, h2⟩ := findNow_t hx hsame h hr
      refine ⟨q, ?_, ?_⟩
      · simp only [Instr.findNow, hsame k' en.key false hs hk]; exact h1
      · match r, q, h2 with
        | none, none, _ => trivial
        | some (i, v), some (j, u), ⟨p1, p2, p3, p4, en', p5, p6⟩ =>
          refine ⟨p1, p2, by omega, by simp; omega, en', ?_, p6⟩
          have : i - n = (i - (n + 1)) + 1 := by omega
          rw [this, List.getElem?_cons_succ]; exact p5
    · cases h

/-- What is known of a map's type. -/
theorem mapOf_t (hT : TysOk P T) {t : TypeId} {ki ei : TyI} (h : mapOf T t = some (ki, ei)) : ∃ kt el dk, P.underlying t = some (.map kt el) ∧ P.underlying kt = some dk ∧ ki.kd = kdOf dk ∧ ((∃ k, dk = .int k) ∨ dk = .string ∨ dk = .bool) ∧ T.get el = some ei := by
  unfold mapOf at h
  split at h
  case h_2 => cases h
  rename_i ti ht
  split at h
  case h_2 => cases h
  rename_i kt el hkd
  obtain ⟨de, hde, hk1⟩ := kd_under hT ht
  rw [hkd] at hk1
  have := kdOf_map hk1.symm; subst this
  split at h
  case h_2 => cases h
  rename_i ki' ei' hki hei
  obtain ⟨dk, hdk, hk2⟩ := kd_under hT hki
  split at h
  · rename_i k hkk
    cases h
    have hk3 := hk2
    rw [hkk] at hk2
    exact ⟨kt, el, dk, hde, hdk, hk3, .inl ⟨k, kdOf_int hk2.symm⟩, hei⟩
  · rename_i hkk
    cases h
    have hk3 := hk2
    rw [hkk] at hk2
    exact ⟨kt, el, dk, hde, hdk, hk3, .inr (.inl (kdOf_str hk2.symm)), hei⟩
  · rename_i hkk
    cases h
    have hk3 := hk2
    rw [hkk] at hk2
    exact ⟨kt, el, dk, hde, hdk, hk3, .inr (.inr (kdOf_bool hk2.symm)), hei⟩
  · cases h

theorem beq_ba (a b : ByteArray) : (a == b) = decide (a = b) := by
  have h : (a == b) = (a.data == b.data) := by cases a; cases b; rfl
  rw [h]
  by_cases hab : a = b
  · subst hab; simp
  · have : a.data ≠ b.data := fun e => hab (by cases a; cases b; simp only at e; rw [e])
    simp [hab, this]

theorem same_of {F : Nat → Nat} {w : World} {dk : TypeDesc} (hdk : (∃ k, dk = .int k) ∨ dk = .string ∨ dk = .bool) {k : D} {x : Value} (hx : RepD F w k x) (hkk : keyB (kdOf dk) k = true) (k' : D) (y : Value) (r : Bool) (h : sameD k k' = some r) (hy : RepD F w k' y) : Instr.sameNow dk x y = some r := by
  cases k <;> cases k' <;> simp only [sameD] at h <;> try (cases h; done)
  · cases hx; cases hy
    cases h
    rcases hdk with ⟨_, rfl⟩ | rfl | rfl <;> simp [keyB, kdOf] at hkk
    rfl
  · cases hx; cases hy
    rename_i k1 a k2 b
    split at h
    · rename_i he
      have he := of_decide_eq_true he
      cases h
      rcases hdk with ⟨_, rfl⟩ | rfl | rfl <;> simp [keyB, kdOf] at hkk
      simp [Instr.sameNow, he]
      rfl
    · cases h
  · cases hx; cases hy
    cases h
    rcases hdk with ⟨_, rfl⟩ | rfl | rfl <;> simp [keyB, kdOf] at hkk
    show some (_ == _) = _
    rename_i a b
    congr 1
    exact beq_ba _ _

theorem run_checkKey {w : World} {kt : TypeId} {dk : TypeDesc} (hk : P.underlying kt = some dk) (hdk : (∃ k, dk = .int k) ∨ dk = .string ∨ dk = .bool) (b : Bool) (x : Value) : (Instr.checkKey b 10000 kt x).run P w = .ok () w := by
  rw [show (10000 : Nat) = 9999 + 1 from rfl]
  unfold Instr.checkKey
  rcases hdk with ⟨k, rfl⟩ | rfl | rfl <;> simp [run_underlying hk]

theorem run_findKey {w : World} {kt : TypeId} {dk : TypeDesc} (hk : P.underlying kt = some dk) {x : Value} {es : List MapEntry} {q : Option (Nat × Value)} (h : Instr.findNow dk x es 0 = some q) : (Instr.findKey kt x es).run P w = .ok q w := by
  simp [Instr.findKey, run_underlying hk, h]

theorem zeroD_t {F : Nat → Nat} {w : World} (hT : TysOk P T) {el : TypeId} {ei : TyI} (hei : T.get el = some ei) {z : D} (hz : zeroD ei = some z) : ∃ zv, (zeroValue el).run P w = .ok zv w ∧ RepD F w z zv := by
  obtain ⟨i, d, hi, hd, _, _, _, _, _, hzz⟩ := hT el ei hei
  unfold zeroD at hz
  split at hz
  · rename_i l hl ha
    cases hz
    obtain ⟨zv, hzv, hzc, hag⟩ := hzz _ hl
    refine ⟨zv, by simp [zeroValue, typeInfo, hi, hzv], ?_⟩
    rw [ha] at hag
    unfold zeroCells at hzc
    unfold aggC at hag
    split at hag
    · rename_i l' ho
      rw [ho] at hzc
      cases hzc
      exact RepD_ofConst ho
    · cases hag
  · rename_i l hl ha
    cases hz
    obtain ⟨zv, hzv, hzc, hag⟩ := hzz _ hl
    refine ⟨zv, by simp [zeroValue, typeInfo, hi, hzv], ?_⟩
    rw [ha] at hag
    unfold zeroCells at hzc
    unfold aggC at hag
    split at hzc
    · rename_i l' ho; rw [ho] at hag; cases hag
    · cases hzc
    · rename_i v _ _ ho
      cases hzc
      exact RepD_ofConst ho
    · cases hzc
  · cases hz

theorem out_lookup (hT : TysOk P T) {t : TypeId} {x i : Operand} {c : Bool} (hk : opK T e h dst (.lookup t x i c) K) : ∃ ws, K ws ∧ Out P e h ⟨dst, .lookup t x i c, ty, pos, after, guard⟩ ws := by
  simp only [opK] at hk
  split at hk
  case h_2 => exact hk.elim
  rename_i ki ei kvs k hm hkv hi
  obtain ⟨hkb, ⟨r, hf, hk⟩⟩ := chk_t hk
  obtain ⟨kt, el, dk, h1, h2, h3, h4, h5⟩ := mapOf_t hT hm
  rw [h3] at hkb
  -- the entries
  have hent : ∀ {σ : Type} (cx : Cx σ) (r : Option Nat) (m : List Nat) (L : Loc) (F : Nat → Nat) (st : St σ) (a : Act) (w : World), SubT e st.env → SubT h st.heap → Good cx r m L F st a w →
      ∃ es : List MapEntry, RepKv F w kvs es ∧ ((a.eval x = .map none ∧ es = []) ∨ ∃ b en cl, a.eval x = .map (some b) ∧ w.heap[b]? = some (.map en cl) ∧ en.toList = es) := by
    intro σ cx r m L F st a w he hh hg
    unfold kvsOf at hkv
    split at hkv
    · rename_i kvs' hx
      cases hkv
      obtain ⟨b, en, cl, hev, hF, hb, hr⟩ := hg.opnd (opnd_sub he hx)
      exact ⟨en.toList, hr, .inr ⟨b, en, cl, hev, hb, rfl⟩⟩
    · rename_i hx
      cases hkv
      exact ⟨[], rfl, .inl ⟨hg.opnd (opnd_sub he hx), rfl⟩⟩
    · rename_i id hx
      split at hkv
      case h_2 => cases hkv
      rename_i kvs' ho
      cases hkv
      obtain ⟨en, cl, hb, hr⟩ := hg.heap.obj id _ (hh _ _ ho)
      exact ⟨en.toList, hr, .inr ⟨_, en, cl, hg.opnd (opnd_sub he hx), hb, rfl⟩⟩
    · cases hkv
  have hrun : ∀ {a : Act} {w : World} {es : List MapEntry} {q : Option (Nat × Value)}, Instr.findNow dk (a.eval i) es 0 = some q → ((a.eval x = .map none ∧ es = []) ∨ ∃ b en cl, a.eval x = .map (some b) ∧ w.heap[b]? = some (.map en cl) ∧ en.toList = es) →
      ∀ v ok, ((∃ n, q = some (n, v)) ∧ ok = true) ∨ (q = none ∧ ok = false ∧ (zeroValue el).run P w = .ok v w) → (Instr.lookup t (a.eval x) (a.eval i) c).run P w = .ok (if c then .tuple #[v, .bool ok] else v) w := by
    intro a w es q hq hx v ok hv
    rcases hx with ⟨hx, rfl⟩ | ⟨b, en, cl, hx, hb, rfl⟩
    · have hq' : Instr.findNow dk (a.eval i) (#[] : Array MapEntry).toList 0 = some q := hq
      rcases hv with ⟨⟨n, rfl⟩, rfl⟩ | ⟨rfl, rfl, hz⟩
      · simp [Instr.lookup, run_underlying h1, hx, run_checkKey h2 h4, run_findKey h2 hq']
      · simp [Instr.lookup, run_underlying h1, hx, run_checkKey h2 h4, run_findKey h2 hq', hz]
    · rcases hv with ⟨⟨n, rfl⟩, rfl⟩ | ⟨rfl, rfl, hz⟩
      · simp [Instr.lookup, run_underlying h1, hx, run_checkKey h2 h4, run_findKey h2 hq, getObj, Sem.run, hb]
      · simp [Instr.lookup, run_underlying h1, hx, run_checkKey h2 h4, run_findKey h2 hq, getObj, Sem.run, hb, hz]
  have hlook : ∀ {F : Nat → Nat} {w : World} {yv : Option Nat} {L : Loc} {v : D} {u : Value} {ok : Bool}, RepD F w v u → RepV yv L F w (lookV c v ok) (if c then .tuple #[u, .bool ok] else u) := by
    intro F w yv L v u ok hv
    cases c
    · exact hv
    · exact ⟨_, rfl, _, _, rfl, hv, _, _, rfl, rfl, rfl⟩
  cases r with
  | some nv =>
    obtain ⟨n, v⟩ := nv
    refine ⟨_, hk, out_val (o := ⟨dst, .lookup t x i c, ty, pos, after, guard⟩) fun cx r m L F st a w he hh hg => ?_⟩
    obtain ⟨es, hr, hx⟩ := hent cx r m L F st a w he hh hg
    have hkr : RepD F w k (a.eval i) := hg.opnd (opnd_sub he hi)
    obtain ⟨q, hq, hm⟩ := findNow_t hkr (same_of h4 hkr hkb) hf hr
    cases q with
    | none => exact hm.elim
    | some ju =>
      obtain ⟨j, u⟩ := ju
      obtain ⟨rfl, hv, _⟩ := hm
      exact ⟨_, by simp [execOp, hrun hq hx u true (.inl ⟨⟨n, rfl⟩, rfl⟩)], hlook hv⟩
  | none =>
    simp only at hk
    split at hk
    case h_2 => exact hk.elim
    rename_i z hz
    refine ⟨_, hk, out_val (o := ⟨dst, .lookup t x i c, ty, pos, after, guard⟩) fun cx r m L F st a w he hh hg => ?_⟩
    obtain ⟨es, hr, hx⟩ := hent cx r m L F st a w he hh hg
    have hkr : RepD F w k (a.eval i) := hg.opnd (opnd_sub he hi)
    obtain ⟨q, hq, hm⟩ := findNow_t hkr (same_of h4 hkr hkb) hf hr
    cases q with
    | some ju => exact hm.elim
    | none =>
      obtain ⟨zv, hzr, hzd⟩ := zeroD_t (F := F) (w := w) hT h5 hz
      exact ⟨_, by simp [execOp, hrun hq hx zv false (.inr ⟨rfl, rfl, hzr⟩)], hlook hzd⟩

theorem RepKv.get {F : Nat → Nat} {w : World} : ∀ {kvs : List (D × D)} {es : List MapEntry}, RepKv F w kvs es → es.length = kvs.length
  | [], es, h => by rw [show es = [] from h]; rfl
  | (k, v) :: r, es, h => by
    obtain ⟨en, es', rfl, _, _, hr⟩ := h
    simp [RepKv.get hr]

theorem RepKv.set {F : Nat → Nat} {w : World} {k v : D} {x y : Value} (hk : RepD F w k x) (hv : RepD F w v y) : ∀ {kvs : List (D × D)} {es : List MapEntry} (n : Nat), RepKv F w kvs es → RepKv F w (kvs.set n (k, v)) (es.modify n fun e => { e with key := x, val := y })
  | [], es, n, h => by rw [show es = [] from h]; cases n <;> rfl
  | (k', v') :: r, es, 0, h => by
    obtain ⟨en, es', rfl, _, _, hr⟩ := h
    exact ⟨{ en with key := x, val := y }, es', by simp, hk, hv, hr⟩
  | (k', v') :: r, es, n + 1, h => by
    obtain ⟨en, es', rfl, h1, h2, hr⟩ := h
    exact ⟨en, es'.modify n fun e => { e with key := x, val := y }, by simp, h1, h2, RepKv.set hk hv n hr⟩

theorem RepKv.push {F : Nat → Nat} {w : World} {k v : D} {x y : Value} {b : Nat} (hk : RepD F w k x) (hv : RepD F w v y) : ∀ {kvs : List (D × D)} {es : List MapEntry}, RepKv F w kvs es → RepKv F w (kvs ++ [(k, v)]) (es ++ [{ key := x, val := y, born := b }])
  | [], es, h => by rw [show es = [] from h]; exact ⟨_, [], rfl, hk, hv, rfl⟩
  | (k', v') :: r, es, h => by
    obtain ⟨en, es', rfl, h1, h2, hr⟩ := h
    exact ⟨en, es' ++ [{ key := x, val := y, born := b }], by simp, h1, h2, RepKv.push hk hv hr⟩

theorem same_bits {F : Nat → Nat} {w : World} {k k' : D} {x y : Value} (hx : RepD F w k x) (hy : RepD F w k' y) (h : sameD k k' = some true) : Instr.sameBits 10000 y x = true := by
  cases k <;> cases k' <;> simp only [sameD] at h <;> try (cases h; done)
  · cases hx; cases hy
    rename_i a b
    have h := Option.some.inj h
    show (b == a) = true
    cases a <;> cases b <;> simp_all
  · cases hx; cases hy
    rename_i k1 a k2 b
    split at h
    · rename_i he
      have he := of_decide_eq_true he
      have h := of_decide_eq_true (Option.some.inj h)
      subst he; subst h
      simp [Instr.sameBits]
    · cases h
  · cases hx; cases hy
    have h := of_decide_eq_true (Option.some.inj h)
    subst h
    show (_ == _) = true
    rw [beq_ba]; simp

theorem out_mapUpdate (hT : TysOk P T) {t : TypeId} {x i y : Operand} (hk : opK T e h dst (.mapUpdate t x i y) K) : ∃ ws, K ws ∧ Out P e h ⟨dst, .mapUpdate t x i y, ty, pos, after, guard⟩ ws := by
  simp only [opK] at hk
  split at hk
  case h_2 => exact hk.elim
  rename_i ki ei id k v hm hx hi hy
  split at hk
  case h_2 => exact hk.elim
  rename_i kvs ho
  obtain ⟨hkb, ⟨q0, hf, hk⟩⟩ := chk_t hk
  obtain ⟨kt, el, dk, h1, h2, h3, h4, h5⟩ := mapOf_t hT hm
  rw [h3] at hkb
  have main : ∀ (kvs' : List (D × D)), (∀ {F : Nat → Nat} {w : World} {a : Act} {en : Array MapEntry} {cl : Nat}, RepD F w k (a.eval i) → RepD F w v (a.eval y) → RepKv F w kvs en.toList →
      ∃ en' cl', (∀ b, a.eval x = .map (some b) → w.heap[b]? = some (.map en cl) → (Instr.mapUpdate t (a.eval x) (a.eval i) (a.eval y)).run P w = .ok () { w with heap := w.heap.setIfInBounds b (.map en' cl') }) ∧ RepKv F w kvs' en'.toList) →
      Out P e h ⟨none, .mapUpdate t x i y, ty, pos, after, guard⟩ [.obj id (.map kvs')] := by
    intro kvs' hrun σ cx r m L F st a w he hh hg hd
    have hev : a.eval x = .map (some (L.ρ id)) := hg.opnd (opnd_sub he hx)
    have hkr : RepD F w k (a.eval i) := hg.opnd (opnd_sub he hi)
    have hvr : RepD F w v (a.eval y) := hg.opnd (opnd_sub he hy)
    have h0 := hh _ _ ho
    obtain ⟨en, cl, hb, hr⟩ := hg.heap.obj id _ h0
    obtain ⟨en', cl', hgo, hr'⟩ := hrun (a := a) (cl := cl) hkr hvr hr
    have hlt := (Array.getElem?_eq_some_iff.1 hb).1
    have hF := (hg.heap.own id _ h0 trivial).1
    have hkeep : ∀ z, z ≠ L.ρ id → ({ w with heap := w.heap.setIfInBounds (L.ρ id) (.map en' cl') } : World).heap[z]? = w.heap[z]? := fun z hz => by simp [Array.getElem?_setIfInBounds_ne (Ne.symm hz)]
    have tr : Tr F w F { w with heap := w.heap.setIfInBounds (L.ρ id) (.map en' cl') } :=
      .of_keep rfl rfl rfl (by simp) (fun _ => Nat.le_refl _) hg.heap.fresh fun b _ hF' => hkeep b (by rintro rfl; omega)
    obtain ⟨g1, g2⟩ := hg.obj (o := .map kvs') h0 trivial (w' := { w with heap := w.heap.setIfInBounds (L.ρ id) (.map en' cl') }) rfl rfl rfl (by simp) hkeep
      (by rw [hb]; intro ds e; cases e) (by rw [hb]; intro lp e; cases e) ⟨en', cl', by simp [Array.getElem?_setIfInBounds, hlt], RepKv.mono tr _ _ hr'⟩
    exact ⟨undef, _, .skip, by simp [execOp, hgo _ hev hb], .inr ⟨rfl, rfl⟩, L, F, g1, g2⟩
  cases q0 with
  | some nv =>
    obtain ⟨n, u⟩ := nv
    refine ⟨_, hk, main _ fun {F w a en cl} hkr hvr hr => ?_⟩
    obtain ⟨q, hq, hm⟩ := findNow_t hkr (same_of h4 hkr hkb) hf hr
    cases q with
    | none => exact hm.elim
    | some ju =>
      obtain ⟨j, u'⟩ := ju
      obtain ⟨rfl, _, _, hlt, en1, hen, kk, hkk, hsm⟩ := hm
      refine ⟨en.modify n fun e => { e with key := a.eval i, val := a.eval y }, cl, fun b hxb hb => ?_, by rw [Array.toList_modify]; exact RepKv.set hkr hvr n hr⟩
      have hb2 := same_bits hkr hkk hsm
      have hen' : en[n]? = some en1 := by simpa using hen
      simp [Instr.mapUpdate, run_underlying h1, hxb, getObj, setObj, Sem.run, hb, run_checkKey h2 h4, run_findKey h2 hq, Instr.keyThatStays, hen', hb2]
  | none =>
    refine ⟨_, hk, main _ fun {F w a en cl} hkr hvr hr => ?_⟩
    obtain ⟨q, hq, hm⟩ := findNow_t hkr (same_of h4 hkr hkb) hf hr
    cases q with
    | some ju => exact hm.elim
    | none =>
      refine ⟨en.push { key := a.eval i, val := a.eval y, born := cl }, cl + 1, fun b hxb hb => ?_, by simpa using RepKv.push hkr hvr hr⟩
      simp [Instr.mapUpdate, run_underlying h1, hxb, getObj, setObj, Sem.run, hb, run_checkKey h2 h4, run_findKey h2 hq]
end
end Go.PX
