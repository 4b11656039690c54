import Derived.Test.YtifbnniijibfgaaPxI
import Derived.RangeFuncNested
set_option linter.all false
/- PX: the statement 'for x := range f' over a function. -/
namespace Go.PX
open Go.RowKit

/-- Other numbers for all objects. -/
def renH (R : Nat → Nat) : Heap → Heap
  | [] => []
  | (k, o) :: r => (R k, renO R o) :: renH R r

def renE (R : Nat → Nat) (e : Env) : Env := mapT (mapId (renF R)) e

theorem get_renH {R : Nat → Nat} : ∀ {h : Heap} {k : Nat} {o : Obj}, get (renH R h) k = some o → ∃ j o1, get h j = some o1 ∧ k = R j ∧ o = renO R o1
  | [], k, o, h => by cases h
  | (j, p) :: r, k, o, h => by
    simp only [renH, get] at h
    split at h
    · rename_i he
      have := Nat.eq_of_beq_eq_true he; subst this
      cases h
      exact ⟨j, p, by simp [get], rfl, rfl⟩
    · rename_i he
      obtain ⟨j', o1, h1, rfl, rfl⟩ := get_renH h
      refine ⟨j', o1, ?_, rfl, rfl⟩
      have : Nat.beq j j' = false := by
        rw [Bool.eq_false_iff]; intro e
        have := Nat.eq_of_beq_eq_true e; subst this
        simp at he
      simp [get, this, h1]

section
variable {σ : Type} {cx : Cx σ} {L L' : Loc} {F : Nat → Nat} {s : σ} {w : World} {R : Nat → Nat}

theorem HeapOk.ren {h : Heap} (hh : HeapOk cx L F h s w) (hn : ∀ i ∈ heapNames h, L'.ρ (R i) = L.ρ i ∧ L'.κ (R i) = L.κ i) : HeapOk cx L' F (renH R h) s w := by
  refine ⟨hh.hg, hh.csz, hh.fresh, fun k o hk => ?_, fun k o hk hb => ?_, fun k l o p hk hl hbk hbl e => ?_⟩
  · obtain ⟨j, o1, h1, rfl, rfl⟩ := get_renH hk
    obtain ⟨n1, n2⟩ := heapNames_key h1
    exact (RepO.ren (R := R) (L := L) (L' := L') j o1 (fun i hi => hn i (n2 i (namesOfO_mem i o1 hi))) (hn j n1)).2 (hh.obj j o1 h1)
  · obtain ⟨j, o1, h1, rfl, rfl⟩ := get_renH hk
    obtain ⟨n1, n2⟩ := heapNames_key h1
    rw [(hn j n1).1]
    exact hh.own j o1 h1 ((Backed_ren (R := R) (L := L) (L' := L') j o1 (hn j n1).2).1 hb)
  · obtain ⟨j, o1, h1, rfl, rfl⟩ := get_renH hk
    obtain ⟨i, o2, h2, rfl, rfl⟩ := get_renH hl
    obtain ⟨n1, _⟩ := heapNames_key h1
    obtain ⟨n2, _⟩ := heapNames_key h2
    rw [(hn j n1).1, (hn i n2).1] at e
    rw [hh.inj j i o1 o2 h1 h2 ((Backed_ren (R := R) (L := L) (L' := L') j o1 (hn j n1).2).1 hbk) ((Backed_ren (R := R) (L := L) (L' := L') i o2 (hn i n2).2).1 hbl) e]

/-- The names in a frame's slots. -/
def envNames : Env → List Nat
  | [] => []
  | (_, v) :: r => namesOf v ++ envNames r

theorem envNames_mem : ∀ {e : Env} {t : Nat} {v : V} {i : Nat}, get e t = some v → namesV v i → i ∈ envNames e
  | [], t, v, i, h, _ => by cases h
  | (k, u) :: r, t, v, i, h, hi => by
    simp only [get] at h
    split at h
    · cases h
      exact List.mem_append.2 (.inl (namesOf_mem i _ hi))
    · exact List.mem_append.2 (.inr (envNames_mem h hi))

end

/-- Objects that are not to change their place get a number among the pinned ones. -/
def idx : List Nat → Nat → Nat → Option Nat
  | [], _, _ => none
  | k :: r, n, i => match Nat.beq k i with
    | true => some n
    | false => idx r (n + 1) i

def upR (c : Nat) (tb : List Nat) (i : Nat) : Nat :=
  match idx tb c i with
  | some k => k
  | none => i

def dnR (c : Nat) (tb : List Nat) (j : Nat) : Nat :=
  match Nat.ble c j with
  | true => match tb[j - c]? with
    | some i => i
    | none => j
  | false => j

theorem idx_some : ∀ {tb : List Nat} {n i k : Nat}, idx tb n i = some k → n ≤ k ∧ tb[k - n]? = some i
  | [], n, i, k, h => by cases h
  | t :: r, n, i, k, h => by
    simp only [idx] at h
    split at h
    · rename_i he
      have := Nat.eq_of_beq_eq_true he; subst this
      cases h
      exact ⟨Nat.le_refl _, by simp⟩
    · obtain ⟨h1, h2⟩ := idx_some h
      refine ⟨by omega, ?_⟩
      have : k - n = (k - (n + 1)) + 1 := by omega
      rw [this, List.getElem?_cons_succ]; exact h2

theorem idx_none : ∀ {tb : List Nat} {n i : Nat}, idx tb n i = none → i ∉ tb
  | [], n, i, h => by simp
  | t :: r, n, i, h => by
    simp only [idx] at h
    split at h
    · cases h
    · rename_i he
      intro hm
      rcases List.mem_cons.1 hm with rfl | hm
      · simp at he
      · exact idx_none h hm

/-- A block that is neither cells nor a map is written. -/
theorem Tr.ctl {F : Nat → Nat} {w : World} {b : Nat} {o o' : Go.Obj} (h : w.heap[b]? = some o) (hc : ∀ c T x, o ≠ .cells c T x) (hm : ∀ e c, o ≠ .map e c) (hc' : ∀ c T x, o' ≠ .cells c T x) : Tr F w F (w.putObj b o') := by
  have hk : ∀ x, x ≠ b → (w.putObj b o').heap[x]? = w.heap[x]? := fun x hx => World.putObj_heap_other hx
  refine ⟨rfl, rfl, rfl, by simp, fun _ => Nat.le_refl _, fun x i hx => ?_, fun x en c hx hm' => ?_⟩
  · by_cases he : x = b
    · subst he
      have h1 := World.putObj_heap_same (w := w) (o := o') (block_lt h)
      have k1 : w.cell? ⟨x, i, none⟩ = none := by
        simp only [World.cell?, h]
        cases o <;> first | rfl | exact absurd rfl (hc _ _ _)
      have k2 : (w.putObj x o').cell? ⟨x, i, none⟩ = none := by
        simp only [World.cell?, h1]
        cases o' <;> first | rfl | exact absurd rfl (hc' _ _ _)
      rw [k1, k2]
    · exact cell_heap (hk x he)
  · by_cases he : x = b
    · subst he; rw [h] at hm'; cases hm'; exact absurd rfl (hm _ _)
    · rw [hk x he]; exact hm'

/-- The block of an object is not one of those. -/
theorem RepO.not_ctl {yv : Option Nat} {L : Loc} {F : Nat → Nat} {w : World} {id : Nat} {o : Obj} (h : RepO yv L F w id o) (hb : Backed L id o) {x : Go.Obj} (hx : w.heap[L.ρ id]? = some x) : (∀ lp, x ≠ .loop lp) ∧ (∀ d, x ≠ .deferred d) := by
  cases o with
  | box c => obtain ⟨c', T, hc, _⟩ := h; rw [hc] at hx; cases hx; exact ⟨fun _ h => (by cases h), fun _ h => (by cases h)⟩
  | arr sz es =>
    obtain ⟨_, _, h⟩ := h
    rcases h with ⟨_, hk⟩ | ⟨c, T, hc, _⟩
    · exact absurd hk hb
    · rw [hc] at hx; cases hx; exact ⟨fun _ h => (by cases h), fun _ h => (by cases h)⟩
  | map kvs => obtain ⟨en, c, hc, _⟩ := h; rw [hc] at hx; cases hx; exact ⟨fun _ h => (by cases h), fun _ h => (by cases h)⟩
  | iter s n =>
    have hc : w.heap[L.ρ id]? = _ := h
    rw [hc] at hx; cases hx; exact ⟨fun _ h => (by cases h), fun _ h => (by cases h)⟩

/-- Memory as the objects say, when memory goes on and the objects' blocks and what stands around is kept. -/
theorem HeapOk.keep {σ : Type} {cx : Cx σ} {L : Loc} {F F' : Nat → Nat} {h : Heap} {s : σ} {w w' : World} (hh : HeapOk cx L F h s w) (tr : Tr F w F' w') (hf : ∀ b, w'.heap.size ≤ b → F' b = 0)
    (hC : ∀ b, cx.C s b → w'.heap[b]? = w.heap[b]? ∧ F' b = F b) (ho : ∀ id o, get h id = some o → Backed L id o → w'.heap[L.ρ id]? = w.heap[L.ρ id]? ∧ F' (L.ρ id) = F (L.ρ id)) : HeapOk cx L F' h s w' := by
  refine ⟨cx.stable hh.hg tr hf hC, fun b hb => Nat.lt_of_lt_of_le (hh.csz b hb) tr.size, hf, fun id o hi => ?_, fun id o hi hb => ?_, hh.inj⟩
  · exact RepO.mono tr id o (fun _ _ => ⟨rfl, rfl⟩) ⟨rfl, rfl⟩ (fun hb => (ho id o hi hb).1) (hh.obj id o hi)
  · rw [(ho id o hi hb).2]; exact hh.own id o hi hb

end Go.PX

/- PX: the statement 'for x := range f': what stands around the function that is ranged over. -/
namespace Go.PX
open Go.RowKit

mutual
/-- Values without yield. -/
def yfree : V → Bool
  | .agg cs => yfreeL cs
  | .tup cs => yfreeL cs
  | .clo _ cs => yfreeL cs
  | .yld => false
  | _ => true
def yfreeL : List V → Bool
  | [] => true
  | v :: r => yfree v && yfreeL r
end

mutual
theorem RepV.yfree {yv yv' : Option Nat} {L : Loc} {F : Nat → Nat} {w : World} : ∀ (v : V) (x : Value), PX.yfree v = true → RepV yv L F w v x → RepV yv' L F w v x
  | .d _, _, _, h => h
  | .agg cs, x, hy, h => by
    obtain ⟨l, rfl, hl⟩ := h
    exact ⟨l, rfl, RepVL.yfree cs _ hy hl⟩
  | .tup cs, x, hy, h => by
    obtain ⟨l, rfl, hl⟩ := h
    exact ⟨l, rfl, RepVL.yfree cs _ hy hl⟩
  | .clo f cs, x, hy, h => by
    obtain ⟨l, rfl, hl⟩ := h
    exact ⟨l, rfl, RepVL.yfree cs _ hy hl⟩
  | .ptr _ _, _, _, h => h
  | .ep _ _ _ _, _, _, h => h
  | .sl _ _ _ _, _, _, h => h
  | .mp _, _, _, h => h
  | .it _, _, _, h => h
  | .yld, _, hy, _ => by cases hy
  | .unk, _, _, h => h
theorem RepVL.yfree {yv yv' : Option Nat} {L : Loc} {F : Nat → Nat} {w : World} : ∀ (vs : List V) (l : List Value), yfreeL vs = true → RepVL yv L F w vs l → RepVL yv' L F w vs l
  | [], _, _, h => h
  | v :: r, l, hy, h => by
    simp only [yfreeL, Bool.and_eq_true] at hy
    obtain ⟨x, l', rfl, hx, hl⟩ := h
    exact ⟨x, l', rfl, RepV.yfree v x hy.1 hx, RepVL.yfree r l' hy.2 hl⟩
end

def yfreeO : Obj → Bool
  | .box c => yfreeL c.toV
  | .arr _ es => yfreeL es.toV.flatten
  | _ => true

def yfreeH : Heap → Bool
  | [] => true
  | (_, o) :: r => yfreeO o && yfreeH r

theorem yfreeH_spec : ∀ {h : Heap} {i : Nat} {o : Obj}, yfreeH h = true → get h i = some o → yfreeO o = true
  | [], i, o, _, h => by cases h
  | (k, p) :: r, i, o, hy, h => by
    simp only [yfreeH, Bool.and_eq_true] at hy
    simp only [get] at h
    split at h
    · cases h; exact hy.1
    · exact yfreeH_spec hy.2 h

theorem RepO.yfree {yv yv' : Option Nat} {L : Loc} {F : Nat → Nat} {w : World} {id : Nat} (o : Obj) (hy : yfreeO o = true) (h : RepO yv L F w id o) : RepO yv' L F w id o := by
  cases o with
  | box cs =>
    obtain ⟨c, T, hc, hr⟩ := h
    exact ⟨c, T, hc, RepVL.yfree _ _ hy hr⟩
  | arr sz es =>
    obtain ⟨h1, h2, h3⟩ := h
    refine ⟨h1, h2, h3.imp (fun h => h) ?_⟩
    rintro ⟨c, T, hc, k1, k2, hr⟩
    refine ⟨c, T, hc, k1, k2, RepVL.yfree _ _ hy hr⟩
  | map kvs => exact h
  | iter s n => exact h

/-- The state of a loop over a function: it goes on, or it has been left. -/
inductive RS (α σ : Type) where
  | go (x : α)
  | done (e : AExit) (h : Heap) (s : σ)

section
variable {α σ : Type}

def RS.heap (I : α → Heap × σ) : RS α σ → Heap
  | .go x => (I x).1
  | .done _ h _ => h
def RS.st (I : α → Heap × σ) : RS α σ → σ
  | .go x => (I x).2
  | .done _ _ s => s

def jumpOf : AExit → Code
  | .ret => .ret
  | .exit i => .exit i
  | .normal => .skip

def recOf (base : Go.Loop) : RS α σ → Go.Loop
  | .go _ => { base with state := .ready, pending := none }
  | .done e _ _ => { base with state := .done, pending := some (jumpOf e) }

def OwnB (L : Loc) (h : Heap) (b : Nat) : Prop := ∃ id o, get h id = some o ∧ Backed L id o ∧ L.ρ id = b

def inRange (c n i : Nat) : Bool := Nat.ble c i && Nat.blt i (c + n)

def allB (p : Nat → Bool) : List Nat → Bool
  | [] => true
  | i :: r => p i && allB p r

theorem allB_spec {p : Nat → Bool} : ∀ {l : List Nat}, allB p l = true → ∀ i ∈ l, p i = true
  | [], _, i, hi => by cases hi
  | k :: r, h, i, hi => by
    simp only [allB, Bool.and_eq_true] at h
    rcases List.mem_cons.1 hi with rfl | hi
    · exact h.1
    · exact allB_spec h.2 i hi

/-- The names of a round's objects. -/
def okH (c : Nat) (tb : List Nat) (h : Heap) : Bool := allB (fun i => !inRange c 64 i && !inL tb i) (heapNames h)
/-- The names of what is lent. -/
def okL (args : List V) (h : Heap) : Bool := allB (inRange 1000000 64) (namesOfL args) && allB (inRange 1000000 64) (heapNames h) && (yfreeL args && yfreeH h)

/-- What is kept while a loop over a function goes on. -/
structure RInv (cx : Cx σ) (I : α → Heap × σ) (l : Nat) (m : List Nat) (r : Option Nat) (base : Go.Loop) (e1 : Env) (tmps : Array Value) (c : Nat) (tb : List Nat) (pρ pκ : Nat → Nat) (F0 : Nat → Nat) (w0 : World) (g : RS α σ × Loc) (w : World) (F : Nat → Nat) : Prop where
  heap : HeapOk cx g.2 F (g.1.heap I) (g.1.st I) w
  rcd : w.heap[l]? = some (.loop (recOf base g.1)) ∧ ¬ cx.C (g.1.st I) l
  mks : ∀ b ∈ m, w.heap[b]? = some (.deferred (some [])) ∧ ¬ cx.C (g.1.st I) b
  out : ∀ l0, r = some l0 → ∃ lp, (w.heap[l0]? = some (.loop lp) ∧ cx.rcd = some lp) ∧ ¬ cx.C (g.1.st I) l0
  env : ∀ t v, get e1 t = some v → ∃ x, tmps[t]? = some x ∧ RepV cx.yv g.2 F w v x
  pin : ∀ i, pinned i → g.2.ρ i = pρ i ∧ g.2.κ i = pκ i
  tr : Tr F0 w0 F w
  ok : okH c tb (g.1.heap I) = true

def rangeCx (cx : Cx σ) (I : α → Heap × σ) (l : Nat) (m : List Nat) (r : Option Nat) (base : Go.Loop) (e1 : Env) (tmps : Array Value) (c : Nat) (tb : List Nat) (pρ pκ : Nat → Nat) (F0 : Nat → Nat) (w0 : World) : Cx (RS α σ × Loc) where
  C := fun g b => cx.C (g.1.st I) b ∨ OwnB g.2 (g.1.heap I) b ∨ b = l ∨ b ∈ m ∨ r = some b
  HG := fun g w F => RInv cx I l m r base e1 tmps c tb pρ pκ F0 w0 g w F
  yv := some l
  rcd := none
  pρ := cx.pρ
  pκ := cx.pκ
  stable := by
    intro s w F w' F' h tr hf hk
    refine ⟨h.heap.keep tr hf (fun b hb => hk b (.inl hb)) (fun id o hi hb => hk _ (.inr (.inl ⟨id, o, hi, hb, rfl⟩))), ⟨by rw [(hk l (.inr (.inr (.inl rfl)))).1]; exact h.rcd.1, h.rcd.2⟩,
      fun b hb => ⟨by rw [(hk b (.inr (.inr (.inr (.inl hb))))).1]; exact (h.mks b hb).1, (h.mks b hb).2⟩, fun l0 hl => ?_, fun t v ht => ?_, h.pin, Tr.trans h.tr tr, h.ok⟩
    · obtain ⟨lp, ⟨k1, k2⟩, k3⟩ := h.out l0 hl
      exact ⟨lp, ⟨by rw [(hk l0 (.inr (.inr (.inr (.inr hl))))).1]; exact k1, k2⟩, k3⟩
    · obtain ⟨x, hx, hr⟩ := h.env t v ht
      exact ⟨x, hx, RepV.mono tr v x (fun _ _ => ⟨rfl, rfl⟩) hr⟩

/-- Slots that get values. -/
def setPs : List Tmp → List V → Env → Env
  | t :: ps, v :: vs, e => setPs ps vs (put e t v)
  | _, _, e => e

/-- The numbers of what is lent to a round. -/
def lentR (c : Nat) (i : Nat) : Nat :=
  match Nat.ble 1000000 i, Nat.blt i 1000064 with
  | true, true => c + (i - 1000000)
  | _, _ => i

/-- What a round does, by its body. -/
noncomputable def rangeY (P : Program) (T : Tys) (ft : FT) (Y : Hd σ) (I : α → Heap × σ) (ps : Array Tmp) (a b : Code) (e1 : Env) (c : Nat) (tb : List Nat) : Hd (RS α σ) where
  y := fun args h g Q => match g with
    | .done _ _ _ => False
    | .go x => (args.length = ps.size ∧ okL args h = true) ∧ wpA P T ft Y a ⟨setPs ps.toList (renL (lentR c) args) e1, (I x).1 ++ renH (lentR c) h, (I x).2⟩ fun e st => match e with
      | .normal => wpA P T ft Y b st fun e st' => match e with
        | .normal => ∃ x', Wk st' ⟨[], (I x').1 ++ renH (lentR c) h, (I x').2⟩ ∧ okH c tb (I x').1 = true ∧ Q (.d (.bool true)) h (.go x')
        | e => ∃ hd s', Wk st' ⟨[], hd ++ renH (lentR c) h, s'⟩ ∧ okH c tb hd = true ∧ Q (.d (.bool false)) h (.done e hd s')
      | _ => False

/-- The same, wherever the objects are. -/
def liftY (Y : Hd (RS α σ)) : Hd (RS α σ × Loc) where
  y := fun args h g Q => Y.y args h g.1 fun v h' g' => ∀ L', Q v h' (g', L')

theorem HeapOk.append {cx : Cx σ} {L : Loc} {F : Nat → Nat} {h k : Heap} {s : σ} {w : World} (hh : HeapOk cx L F h s w) (hk : HeapOk cx L F k s w)
    (hx : ∀ i j o p, get h i = some o → get k j = some p → Backed L i o → Backed L j p → L.ρ i ≠ L.ρ j) : HeapOk cx L F (h ++ k) s w := by
  have hg : ∀ {h : Heap} {i : Nat} {o : Obj}, get (h ++ k) i = some o → get h i = some o ∨ get k i = some o := by
    intro h
    induction h with
    | nil => exact fun h => .inr h
    | cons a r ih =>
      intro i o h
      obtain ⟨j, p⟩ := a
      simp only [List.cons_append, get] at h ⊢
      split at h
      · exact .inl h
      · exact ih h
  refine ⟨hh.hg, hh.csz, hh.fresh, fun i o hi => (hg hi).elim (hh.obj i o) (hk.obj i o), fun i o hi => (hg hi).elim (hh.own i o) (hk.own i o), fun i j o p hi hj hb hb' e => ?_⟩
  rcases hg hi with hi | hi <;> rcases hg hj with hj | hj
  · exact hh.inj i j o p hi hj hb hb' e
  · exact absurd e (hx i j o p hi hj hb hb')
  · exact absurd e.symm (hx j i p o hj hi hb' hb)
  · exact hk.inj i j o p hi hj hb hb' e

theorem get_append_left {h k : Heap} {i : Nat} {o : Obj} : get h i = some o → get (h ++ k) i = some o := by
  induction h with
  | nil => intro h; cases h
  | cons a r ih =>
    intro h
    obtain ⟨j, p⟩ := a
    simp only [List.cons_append, get] at h ⊢
    split at h
    · exact h
    · exact ih h

theorem get_append_right {h k : Heap} {i : Nat} {o : Obj} : get h i = none → get k i = some o → get (h ++ k) i = some o := by
  induction h with
  | nil => intro _ h; exact h
  | cons a r ih =>
    intro h1 h2
    obtain ⟨j, p⟩ := a
    simp only [List.cons_append, get] at h1 ⊢
    split at h1
    · cases h1
    · exact ih h1 h2

theorem get_renH_of {R : Nat → Nat} : ∀ {h : Heap} {j : Nat} {o : Obj}, (∀ i ∈ heapNames h, R i = R j → i = j) → get h j = some o → get (renH R h) (R j) = some (renO R o)
  | [], j, o, _, h => by cases h
  | (k, p) :: r, j, o, hi, h => by
    simp only [get] at h
    simp only [renH, get]
    split at h
    · rename_i he
      have := Nat.eq_of_beq_eq_true he; subst this
      cases h
      simp
    · rename_i he
      have : Nat.beq (R k) (R j) = false := by
        rw [Bool.eq_false_iff]; intro e
        have := hi k (by simp [heapNames]) (Nat.eq_of_beq_eq_true e)
        subst this; simp at he
      simp only [this]
      exact get_renH_of (fun i h1 => hi i (by simp [heapNames, h1])) h

/-- What stands around does not hang on these. -/
theorem Handles.upd {P : Program} {Y : Hd σ} {cx : Cx σ} (hY : Handles P Y cx) (rcd : Option Go.Loop) (pρ pκ : Nat → Nat) : Handles P Y { cx with rcd := rcd, pρ := pρ, pκ := pκ } := by
  intro l hl args h s Q hy L' F' vals w hh' hr
  obtain ⟨fn, tmps, asg, body, h1, h2⟩ := hY l hl args h s Q hy L' F' vals w ⟨hh'.hg, hh'.csz, hh'.fresh, hh'.obj, hh'.own, hh'.inj⟩ hr
  refine ⟨fn, tmps, asg, body, h1, h2.mono ?_⟩
  rintro e w' ⟨x, he, v, h', s', L'', F'', hq, hh'', rest⟩
  exact ⟨x, he, v, h', s', L'', F'', hq, ⟨hh''.hg, hh''.csz, hh''.fresh, hh''.obj, hh''.own, hh''.inj⟩, rest⟩

/-- A round's record is written. -/
theorem Good.record {cx : Cx σ} {l : Nat} {m : List Nat} {L : Loc} {F : Nat → Nat} {st : St σ} {a : Act} {w : World} (hg : Good cx (some l) m L F st a w) (lp : Go.Loop) :
    Good { cx with rcd := some lp } (some l) m L F st a (w.putObj l (.loop lp)) ∧ Tr F w F (w.putObj l (.loop lp)) := by
  obtain ⟨lp0, ⟨h1, _⟩, h2⟩ := hg.lk l rfl
  have tr : Tr F w F (w.putObj l (.loop lp)) := Tr.ctl h1 (fun _ _ _ h => by cases h) (fun _ _ h => by cases h) (fun _ _ _ h => by cases h)
  have hk : ∀ x, x ≠ l → (w.putObj l (.loop lp)).heap[x]? = w.heap[x]? := fun x hx => World.putObj_heap_other hx
  have hh := hg.heap.keep tr (fun b hb => hg.heap.fresh b (by simpa using hb)) (fun b hb => ⟨hk b (by rintro rfl; exact h2 hb), rfl⟩) (fun id o hi hb => ⟨hk _ (by
    intro e
    exact (RepO.not_ctl (hg.heap.obj id o hi) hb (by rw [e]; exact h1)).1 lp0 rfl), rfl⟩)
  refine ⟨⟨⟨hh.hg, hh.csz, hh.fresh, hh.obj, hh.own, hh.inj⟩, fun t v ht => ?_, hg.dfr, fun b hb => ?_, hg.mnd, fun l' hl => ?_, hg.pin, hg.tsz⟩, tr⟩
  · obtain ⟨x, hx, hr⟩ := hg.env t v ht
    exact ⟨x, hx, RepV.mono tr v x (fun _ _ => ⟨rfl, rfl⟩) hr⟩
  · obtain ⟨k1, k2⟩ := hg.mks b hb
    exact ⟨by rw [hk b (by rintro rfl; rw [h1] at k1; cases k1)]; exact k1, k2⟩
  · cases hl
    exact ⟨lp, ⟨World.putObj_heap_same (block_lt h1), rfl⟩, h2⟩
end

end Go.PX

/- PX: the statement 'for x := range f': a round. -/
namespace Go.PX
open Go.RowKit

section
variable {P : Program} {T : Tys} {ft : FT} {α σ : Type} {Y : Hd σ} {cx : Cx σ} {I : α → Heap × σ} {l : Nat} {m : List Nat} {r : Option Nat} {base : Go.Loop} {e1 : Env} {tmps : Array Value} {c : Nat} {tb : List Nat} {pρ pκ : Nat → Nat} {F0 : Nat → Nat} {w0 : World}

theorem lentR_in {c i : Nat} (h : inRange 1000000 64 i = true) : lentR c i = c + (i - 1000000) ∧ 1000000 ≤ i ∧ i < 1000064 := by
  simp only [inRange, Bool.and_eq_true] at h
  have h1 := Nat.le_of_ble_eq_true h.1
  have h2 : i < 1000064 := Nat.le_of_ble_eq_true h.2
  exact ⟨by unfold lentR; rw [h.1, show Nat.blt i 1000064 = true from h.2], h1, h2⟩

theorem inRange_iff {c n i : Nat} : inRange c n i = true ↔ c ≤ i ∧ i < c + n := by
  simp only [inRange, Bool.and_eq_true]
  exact ⟨fun h => ⟨Nat.le_of_ble_eq_true h.1, Nat.le_of_ble_eq_true h.2⟩, fun h => ⟨Nat.ble_eq_true_of_le h.1, Nat.ble_eq_true_of_le h.2⟩⟩

/-- Where objects are in a round. -/
def roundLoc (c : Nat) (L L2 : Loc) : Loc := ⟨fun j => if inRange c 64 j then L2.ρ (1000000 + (j - c)) else L.ρ j, fun j => if inRange c 64 j then L2.κ (1000000 + (j - c)) else L.κ j⟩

theorem roundLoc_out {L L2 : Loc} {j : Nat} (h : inRange c 64 j = false) : (roundLoc c L L2).ρ j = L.ρ j ∧ (roundLoc c L L2).κ j = L.κ j := by
  simp [roundLoc, h]
theorem roundLoc_in {L L2 : Loc} {i : Nat} (h : inRange 1000000 64 i = true) : (roundLoc c L L2).ρ (lentR c i) = L2.ρ i ∧ (roundLoc c L L2).κ (lentR c i) = L2.κ i := by
  obtain ⟨h1, h2, h3⟩ := lentR_in (c := c) h
  have : inRange c 64 (lentR c i) = true := by rw [inRange_iff]; omega
  have h4 : 1000000 + (lentR c i - c) = i := by omega
  simp [roundLoc, this, h4]

theorem okH_spec {h : Heap} (hk : okH c tb h = true) : ∀ i ∈ heapNames h, inRange c 64 i = false ∧ i ∉ tb := by
  intro i hi
  have := allB_spec hk i hi
  simp only [Bool.and_eq_true, Bool.not_eq_true'] at this
  exact ⟨this.1, fun hm => by rw [inL_iff.2 hm] at this; cases this.2⟩

theorem setPs_get : ∀ {ps : List Tmp} {vs : List V} {e : Env} {vals : List Value} {t0 : Array Value} {yv : Option Nat} {L : Loc} {F : Nat → Nat} {w : World}, ps.length = vs.length → (∀ p ∈ ps, p < t0.size) → RepVL yv L F w vs vals → (∀ t v, get e t = some v → ∃ x, t0[t]? = some x ∧ RepV yv L F w v x) →
    ∀ t v, get (setPs ps vs e) t = some v → ∃ x, ((ps.zip vals).foldl (fun tm (p : Tmp × Value) => tm.setIfInBounds p.1 p.2) t0)[t]? = some x ∧ RepV yv L F w v x
  | [], vs, e, vals, t0, yv, L, F, w, _, _, _, he, t, v, ht => by
    have : setPs [] vs e = e := by cases vs <;> rfl
    rw [this] at ht
    simpa using he t v ht
  | p :: ps, [], e, vals, t0, yv, L, F, w, hl, _, _, _, _, _, _ => by cases hl
  | p :: ps, v0 :: vs, e, _, t0, yv, L, F, w, hl, hp, ⟨x, l', rfl, hx, hr⟩, he, t, v, ht => by
    simp only [List.zip_cons_cons, List.foldl_cons]
    refine setPs_get (ps := ps) (vs := vs) (e := put e p v0) (t0 := t0.setIfInBounds p x) (by simpa using hl) (fun q hq => by simpa using hp q (List.mem_cons_of_mem _ hq)) hr (fun t' v' ht' => ?_) t v ht
    clear ht
    rw [get_put] at ht'
    split at ht'
    · rename_i e1; cases ht'; rw [e1]
      exact ⟨x, by simp [Array.getElem?_setIfInBounds, hp p (List.mem_cons_self ..)], hx⟩
    · rename_i e1
      obtain ⟨y, hy, hry⟩ := he t' v' ht'
      exact ⟨y, by rw [Array.getElem?_setIfInBounds_ne (Ne.symm e1)]; exact hy, hry⟩

theorem foldl_size : ∀ (l : List (Tmp × Value)) (t0 : Array Value), (l.foldl (fun tm (p : Tmp × Value) => tm.setIfInBounds p.1 p.2) t0).size = t0.size
  | [], t0 => rfl
  | p :: l, t0 => by simp only [List.foldl_cons]; rw [foldl_size l]; simp

/-- What stands around a round. -/
def roundCx (cx : Cx σ) (s0 : σ) (w : World) (F : Nat → Nat) (Own : Nat → Prop) (l : Nat) (rcd : Option Go.Loop) (pρ pκ : Nat → Nat) : Cx σ :=
  { lendCx cx s0 w F (fun b => Own b ∨ b = l) with rcd := rcd, pρ := pρ, pκ := pκ }

/-- A round's state, at its beginning. -/
theorem round_enter {cx : Cx σ} {I : α → Heap × σ} {x : α} {L1 : Loc} {w : World} {F : Nat → Nat} (hg : (rangeCx cx I l m r base e1 tmps c tb pρ pκ F0 w0).HG (.go x, L1) w F) (hbase : base.state = .ready ∧ base.pending = none) {ps : Array Tmp}
    (hps : ∀ p ∈ ps.toList, p < tmps.size) (htm : tmps.size ≤ 1000000) (hc : 1000000 ≤ c ∧ c + 64 ≤ 2000000) (hE : ∀ i ∈ envNames e1, pinned i ∧ inRange c 64 i = false) {args : List V} {h : Heap} {L2 : Loc} {vals : Array Value}
    (hh : HeapOk (rangeCx cx I l m r base e1 tmps c tb pρ pκ F0 w0) L2 F h (.go x, L1) w) (hr : RepVL (some l) L2 F w args vals.toList) (hlen : args.length = ps.size) (hok : okL args h = true) :
    Good (roundCx cx (I x).2 w F (OwnB (roundLoc c L1 L2) ((I x).1 ++ renH (lentR c) h)) l (some base) (roundLoc c L1 L2).ρ (roundLoc c L1 L2).κ) (some l) [] (roundLoc c L1 L2) F
      ⟨setPs ps.toList (renL (lentR c) args) e1, (I x).1 ++ renH (lentR c) h, (I x).2⟩ { tmps := (ps.zip vals).foldl (fun t (p, v) => t.setIfInBounds p v) tmps, defers := [] } w := by
  obtain ⟨i1, i2, i3, i4, i5, i6, i7, i8⟩ := hg
  simp only [RS.heap, RS.st] at i1 i2 i3 i4 i8
  simp only [okL, Bool.and_eq_true] at hok
  obtain ⟨⟨hA, hB⟩, hyf⟩ := hok
  have hA := allB_spec hA
  have hB := allB_spec hB
  have hC := okH_spec i8
  have hh1 : HeapOk cx L2 F h (I x).2 w := ⟨i1.hg, fun b hb => hh.csz b (.inl hb), hh.fresh, fun id o hi => RepO.yfree o (yfreeH_spec hyf.2 hi) (hh.obj id o hi), fun id o hi hb => ⟨(hh.own id o hi hb).1, fun h => (hh.own id o hi hb).2 (.inl h)⟩, hh.inj⟩
  have hr1 : RepVL cx.yv L2 F w args vals.toList := RepVL.yfree _ _ hyf.1 hr
  have hA1 : HeapOk cx (roundLoc c L1 L2) F (I x).1 (I x).2 w := by
    refine ⟨i1.hg, i1.csz, i1.fresh, fun id o hi => ?_, fun id o hi hb => ?_, fun i j o p hi hj hb hb' e => ?_⟩
    · obtain ⟨n1, n2⟩ := heapNames_key hi
      exact RepO.mono (Tr.refl F w) id o (fun j hj => roundLoc_out (hC j (n2 j (namesOfO_mem j o hj))).1) (roundLoc_out (hC id n1).1) (fun _ => rfl) (i1.obj id o hi)
    · obtain ⟨n1, n2⟩ := heapNames_key hi
      obtain ⟨q1, q2⟩ := roundLoc_out (L := L1) (L2 := L2) (hC id n1).1
      rw [q1]; exact i1.own id o hi (Backed_of q2 hb)
    · obtain ⟨n1, _⟩ := heapNames_key hi
      obtain ⟨n2, _⟩ := heapNames_key hj
      obtain ⟨q1, q2⟩ := roundLoc_out (L := L1) (L2 := L2) (hC i n1).1
      obtain ⟨q3, q4⟩ := roundLoc_out (L := L1) (L2 := L2) (hC j n2).1
      rw [q1, q3] at e
      exact i1.inj i j o p hi hj (Backed_of q2 hb) (Backed_of q4 hb') e
  have hB1 : HeapOk cx (roundLoc c L1 L2) F (renH (lentR c) h) (I x).2 w := hh1.ren fun i hi => roundLoc_in (hB i hi)
  have hAB := hA1.append hB1 (by
    intro i j o p hi hj hb hb' e
    obtain ⟨n1, _⟩ := heapNames_key hi
    obtain ⟨q1, q2⟩ := roundLoc_out (L := L1) (L2 := L2) (hC i n1).1
    obtain ⟨j', p', hj', rfl, rfl⟩ := get_renH hj
    obtain ⟨n2, _⟩ := heapNames_key hj'
    obtain ⟨q3, q4⟩ := roundLoc_in (c := c) (L := L1) (L2 := L2) (hB j' n2)
    rw [q1, q3] at e
    refine (hh.own j' p' hj' ((Backed_ren (R := lentR c) (L := L2) (L' := roundLoc c L1 L2) j' p' q4).1 hb')).2 (.inr (.inl ⟨i, o, hi, Backed_of q2 hb, e⟩)))
  refine ⟨⟨⟨i1.hg, Nat.le_refl _, fun b hb hc => hc, fun b hb hl hc => ⟨rfl, rfl⟩⟩, fun b hb => hb.elim (i1.csz b) (fun h => h.1), i1.fresh, hAB.obj, fun id o hi hb => ⟨(hAB.own id o hi hb).1, fun hC => hC.elim (hAB.own id o hi hb).2 fun hC => hC.2 (.inl ⟨id, o, hi, hb, rfl⟩)⟩, hAB.inj⟩, ?_, rfl, (fun b hb => by cases hb), List.nodup_nil, ?_, fun _ _ => ⟨rfl, rfl⟩, ?_⟩
  · intro t v ht
    have hv1 : RepVL cx.yv (roundLoc c L1 L2) F w (renL (lentR c) args) vals.toList := (RepVL.ren (R := lentR c) (L := L2) (L' := roundLoc c L1 L2) args _ fun i hi => roundLoc_in (hA i (namesOfL_mem i args hi))).2 hr1
    have := setPs_get (ps := ps.toList) (t0 := tmps) (by simp [mapIdL_length, hlen]) hps hv1 (fun t v ht => by
      obtain ⟨y, hy, hry⟩ := i5 t v ht
      exact ⟨y, hy, RepV.mono (Tr.refl F w) v y (fun j hj => roundLoc_out (hE j (envNames_mem ht hj)).2) hry⟩) t v ht
    rw [← Array.foldl_toList, Array.toList_zip]
    exact this
  · intro l' hl
    cases hl
    have hb : recOf base (RS.go x : RS α σ) = base := by
      obtain ⟨h1, h2⟩ := hbase
      cases base; simp only at h1 h2; subst h1; subst h2; rfl
    rw [hb] at i2
    exact ⟨base, ⟨i2.1, rfl⟩, fun hC => hC.elim i2.2 fun hC => hC.2 (.inr rfl)⟩
  · show ((ps.zip vals).foldl (fun t (p, v) => t.setIfInBounds p v) tmps).size ≤ 1000000
    rw [← Array.foldl_toList, foldl_size]; exact htm

/-- A round's state, at its end. -/
theorem round_leave {cx : Cx σ} {I : α → Heap × σ} {x : α} {L1 : Loc} {w : World} {F : Nat → Nat} (hg : (rangeCx cx I l m r base e1 tmps c tb pρ pκ F0 w0).HG (.go x, L1) w F) (hrl : r ≠ some l) (hc : 1000000 ≤ c ∧ c + 64 ≤ 2000000) (hE : ∀ i ∈ envNames e1, pinned i ∧ inRange c 64 i = false)
    {args : List V} {h : Heap} {L2 : Loc} (hh : HeapOk (rangeCx cx I l m r base e1 tmps c tb pρ pκ F0 w0) L2 F h (.go x, L1) w) (hok : okL args h = true) {lp : Go.Loop} {m1 : List Nat} {L3 : Loc} {F3 : Nat → Nat} {a : Act} {w3 : World} {g : RS α σ} (hgo : recOf lp g = recOf base g)
    (hd : Good (roundCx cx (I x).2 w F (OwnB (roundLoc c L1 L2) ((I x).1 ++ renH (lentR c) h)) l (some lp) (roundLoc c L1 L2).ρ (roundLoc c L1 L2).κ) (some l) m1 L3 F3 ⟨[], g.heap I ++ renH (lentR c) h, g.st I⟩ a w3) (hok3 : okH c tb (g.heap I) = true) (tr : Tr F w F3 w3) :
    ∃ L4 L5, HeapOk (rangeCx cx I l m r base e1 tmps c tb pρ pκ F0 w0) L5 F3 h (g, L4) (w3.putObj l (.loop (recOf base g))) ∧ Tr F w F3 (w3.putObj l (.loop (recOf base g))) ∧ PinEq L2 L5 ∧
      (∀ b, b < w.heap.size → ¬ (rangeCx cx I l m r base e1 tmps c tb pρ pκ F0 w0).C (.go x, L1) b → ¬ (rangeCx cx I l m r base e1 tmps c tb pρ pκ F0 w0).C (g, L4) b) ∧
      (∀ b, b < w.heap.size → ¬ (rangeCx cx I l m r base e1 tmps c tb pρ pκ F0 w0).C (.go x, L1) b → (∀ id o, get h id = some o → Backed L2 id o → L2.ρ id ≠ b) → (w3.putObj l (.loop (recOf base g))).heap[b]? = w.heap[b]? ∧ F3 b = F b) ∧
      (∀ id o, get h id = some o → Backed L5 id o → L5.ρ id < w.heap.size → ∃ id' o', get h id' = some o' ∧ Backed L2 id' o' ∧ L2.ρ id' = L5.ρ id) := by
  obtain ⟨i1, i2, i3, i4, i5, i6, i7, i8⟩ := hg
  simp only [RS.heap, RS.st] at i1 i2 i3 i4 i8
  simp only [okL, Bool.and_eq_true] at hok
  obtain ⟨⟨hA, hB⟩, hyf⟩ := hok
  have hB := allB_spec hB
  have hC := okH_spec i8
  have hC3 := okH_spec hok3
  obtain ⟨hHG, hsz, hCn, hkeep⟩ := hd.heap.hg
  obtain ⟨lp', ⟨k1, k2⟩, k3⟩ := hd.lk l rfl
  have k2 : some lp = some lp' := k2
  cases k2
  have hlC : ¬ cx.C (g.st I) l := fun h => k3 (.inl h)
  have hin : ∀ i, inRange c 64 i = true → pinned i := fun i hi => by rw [inRange_iff] at hi; unfold pinned; omega
  -- the places of what was lent
  have hpl : ∀ i, inRange 1000000 64 i = true → L3.ρ (lentR c i) = L2.ρ i ∧ L3.κ (lentR c i) = L2.κ i := by
    intro i hi
    obtain ⟨p1, p2⟩ := hd.pin (lentR c i) (by obtain ⟨q1, q2, q3⟩ := lentR_in (c := c) hi; unfold pinned; omega)
    obtain ⟨p3, p4⟩ := roundLoc_in (c := c) (L := L1) (L2 := L2) hi
    exact ⟨p1.trans p3, p2.trans p4⟩
  let L4 : Loc := ⟨fun j => if inRange c 64 j then L1.ρ j else L3.ρ j, fun j => if inRange c 64 j then L1.κ j else L3.κ j⟩
  have hL4 : ∀ j, inRange c 64 j = false → L4.ρ j = L3.ρ j ∧ L4.κ j = L3.κ j := fun j hj => by simp [L4, hj]
  have hL4p : ∀ i, pinned i → L4.ρ i = L1.ρ i ∧ L4.κ i = L1.κ i := by
    intro i hi
    cases hr : inRange c 64 i with
    | true => simp [L4, hr]
    | false =>
      obtain ⟨p1, p2⟩ := hd.pin i hi
      obtain ⟨p3, p4⟩ := roundLoc_out (L := L1) (L2 := L2) hr
      obtain ⟨p5, p6⟩ := hL4 i hr
      exact ⟨p5.trans (p1.trans p3), p6.trans (p2.trans p4)⟩
  -- the record is written
  have tr' : Tr F3 w3 F3 (w3.putObj l (.loop (recOf base g))) := Tr.ctl k1 (fun _ _ _ h => by cases h) (fun _ _ h => by cases h) (fun _ _ _ h => by cases h)
  have hk : ∀ y, y ≠ l → (w3.putObj l (.loop (recOf base g))).heap[y]? = w3.heap[y]? := fun y hy => World.putObj_heap_other hy
  have hnl : ∀ id o, get (g.heap I ++ renH (lentR c) h) id = some o → Backed L3 id o → L3.ρ id ≠ l := fun id o hi hb e => (RepO.not_ctl (hd.heap.obj id o hi) hb (by rw [e]; exact k1)).1 _ rfl
  have hsm := hd.heap.keep (F' := F3) tr' (fun b hb => hd.heap.fresh b (by simpa using hb)) (fun b hb => ⟨hk b (by rintro rfl; exact k3 hb), rfl⟩) (fun id o hi hb => ⟨hk _ (hnl id o hi hb), rfl⟩)
  obtain ⟨hHG', _, _, _⟩ := hsm.hg
  have hleft : ∀ i o, get (g.heap I) i = some o → get (g.heap I ++ renH (lentR c) h) i = some o := fun i o hi => get_append_left hi
  have hright : ∀ i o, get h i = some o → get (g.heap I ++ renH (lentR c) h) (lentR c i) = some (renO (lentR c) o) := by
    intro i o hi
    obtain ⟨n1, _⟩ := heapNames_key hi
    have hni : get (g.heap I) (lentR c i) = none := by
      cases hq : get (g.heap I) (lentR c i) with
      | none => rfl
      | some o' =>
        have := (hC3 _ (heapNames_key hq).1).1
        obtain ⟨q1, q2, q3⟩ := lentR_in (c := c) (hB i n1)
        rw [show inRange c 64 (lentR c i) = true from by rw [inRange_iff]; omega] at this
        cases this
    refine get_append_right hni (get_renH_of (fun j hj e => ?_) hi)
    obtain ⟨q1, q2, q3⟩ := lentR_in (c := c) (hB i n1)
    obtain ⟨q4, q5, q6⟩ := lentR_in (c := c) (hB j hj)
    omega
  have hbl : ∀ i o, get h i = some o → (Backed L3 (lentR c i) (renO (lentR c) o) ↔ Backed L2 i o) := fun i o hi => Backed_ren (R := lentR c) (L := L2) (L' := L3) i o (hpl i (hB i (heapNames_key hi).1)).2
  have hx4 : ∀ i o, get (g.heap I) i = some o → L4.ρ i = L3.ρ i ∧ L4.κ i = L3.κ i := fun i o hi => hL4 i (hC3 i (heapNames_key hi).1).1
  have hOwn0 : ∀ b, OwnB (roundLoc c L1 L2) ((I x).1 ++ renH (lentR c) h) b → OwnB L1 (I x).1 b ∨ ∃ j p, get h j = some p ∧ Backed L2 j p ∧ L2.ρ j = b := by
    rintro b ⟨j, p, hj, hbj, e⟩
    cases hq : get (I x).1 j with
    | some p' =>
      have : p' = p := by
        have := get_append_left (k := renH (lentR c) h) hq
        rw [hj] at this; exact (Option.some.inj this).symm
      subst this
      obtain ⟨q1, q2⟩ := roundLoc_out (L := L1) (L2 := L2) (hC j (heapNames_key hq).1).1
      exact .inl ⟨j, p', hq, Backed_of q2 hbj, by rw [← q1]; exact e⟩
    | none =>
      have hj' : get (renH (lentR c) h) j = some p := by
        have hgen : ∀ (k : Heap), get k j = none → ∀ k', get (k ++ k') j = get k' j := by
          intro k
          induction k with
          | nil => intro _ _; rfl
          | cons kv r ih =>
            obtain ⟨u, v⟩ := kv
            intro h1 k'
            simp only [List.cons_append, get] at h1 ⊢
            split at h1
            · cases h1
            · exact ih h1 k'
        rw [← hgen _ hq]; exact hj
      obtain ⟨j', p', hj'', rfl, rfl⟩ := get_renH hj'
      obtain ⟨q3, q4⟩ := roundLoc_in (c := c) (L := L1) (L2 := L2) (hB j' (heapNames_key hj'').1)
      exact .inr ⟨j', p', hj'', (Backed_ren (R := lentR c) (L := L2) (L' := roundLoc c L1 L2) j' p' q4).1 hbj, by rw [← q3]; exact e⟩
  -- which blocks are the round's own
  have hown : ∀ i o, get (g.heap I) i = some o → Backed L4 i o → ¬ cx.C (g.st I) (L3.ρ i) ∧ F3 (L3.ρ i) = 0 ∧ L3.ρ i ≠ l ∧ (L3.ρ i < w.heap.size → OwnB L1 (I x).1 (L3.ρ i)) ∧ ∀ j p, get h j = some p → Backed L2 j p → L3.ρ i ≠ L2.ρ j := by
    intro i o hi hb
    have hb3 : Backed L3 i o := Backed_of (hx4 i o hi).2 hb
    obtain ⟨p1, p2⟩ := hd.heap.own i o (hleft i o hi) hb3
    have hne : ∀ j p, get h j = some p → Backed L2 j p → L3.ρ i ≠ L2.ρ j := by
      intro j p hj hbj e
      obtain ⟨n1, _⟩ := heapNames_key hj
      have := hd.heap.inj i (lentR c j) o _ (hleft i o hi) (hright j p hj) hb3 ((hbl j p hj).2 hbj) (by rw [(hpl j (hB j n1)).1]; exact e)
      have h1 := (hC3 i (heapNames_key hi).1).1
      rw [this] at h1
      obtain ⟨q1, q2, q3⟩ := lentR_in (c := c) (hB j n1)
      rw [show inRange c 64 (lentR c j) = true from by rw [inRange_iff]; omega] at h1
      cases h1
    refine ⟨fun h => p2 (.inl h), p1, hnl i o (hleft i o hi) hb3, fun hlt => ?_, hne⟩
    have : OwnB (roundLoc c L1 L2) ((I x).1 ++ renH (lentR c) h) (L3.ρ i) ∨ L3.ρ i = l := Classical.byContradiction fun hn => p2 (.inr ⟨hlt, hn⟩)
    rcases this with ho | e
    · rcases hOwn0 _ ho with ho | ⟨j, p, hj, hbj, e⟩
      · exact ho
      · exact absurd e.symm (hne j p hj hbj)
    · exact absurd e (hnl i o (hleft i o hi) hb3)
  have hsame : ∀ b, b < w.heap.size → ¬ OwnB (roundLoc c L1 L2) ((I x).1 ++ renH (lentR c) h) b → b ≠ l → ¬ cx.C (I x).2 b → (w3.putObj l (.loop (recOf base g))).heap[b]? = w.heap[b]? ∧ F3 b = F b := fun b hb ho hl hC => by
    obtain ⟨q1, q2⟩ := hkeep b hb (fun h => h.elim ho hl) hC
    exact ⟨(hk b hl).trans q1, q2⟩
  have hctl : ∀ b o, w.heap[b]? = some o → ((∃ lp, o = .loop lp) ∨ ∃ d, o = .deferred d) → ¬ OwnB (roundLoc c L1 L2) ((I x).1 ++ renH (lentR c) h) b := by
    intro b o hb ho hob
    have : (∀ lp, o ≠ .loop lp) ∧ (∀ d, o ≠ .deferred d) := by
      rcases hOwn0 b hob with ⟨j, p, hj, hbj, e⟩ | ⟨j, p, hj, hbj, e⟩
      · exact RepO.not_ctl (i1.obj j p hj) hbj (by rw [e]; exact hb)
      · exact RepO.not_ctl (hh.obj j p hj) hbj (by rw [e]; exact hb)
    rcases ho with ⟨lp, rfl⟩ | ⟨d, rfl⟩
    · exact this.1 _ rfl
    · exact this.2 _ rfl
  refine ⟨L4, L2, ?_, Tr.trans tr tr', fun _ _ => ⟨rfl, rfl⟩, ?_, ?_, fun id o hi hb _ => ⟨id, o, hi, hb, rfl⟩⟩
  · have hHG4 : RInv cx I l m r base e1 tmps c tb pρ pκ F0 w0 (g, L4) (w3.putObj l (.loop (recOf base g))) F3 := by
      refine ⟨⟨hHG', fun b hb => hsm.csz b (.inl hb), hsm.fresh, fun i o hi => ?_, fun i o hi hb => ?_, fun i j o p hi hj hb hb' e => ?_⟩, ⟨World.putObj_heap_same (block_lt k1), hlC⟩, fun b hb => ?_, fun l0 hl0 => ?_, fun t v ht => ?_, fun i hi => ?_, Tr.trans i7 (Tr.trans tr tr'), hok3⟩
      · refine RepO.mono (Tr.refl _ _) i o (fun j hj => hL4 j (hC3 j ((heapNames_key hi).2 j (namesOfO_mem j o hj))).1) (hx4 i o hi) (fun _ => rfl) (hsm.obj i o (hleft i o hi))
      · obtain ⟨z1, z2, _⟩ := hown i o hi hb
        show F3 (L4.ρ i) = 0 ∧ ¬ cx.C (g.st I) (L4.ρ i)
        rw [(hx4 i o hi).1]
        exact ⟨z2, z1⟩
      · have e : L4.ρ i = L4.ρ j := e
        rw [(hx4 i o hi).1, (hx4 j p hj).1] at e
        exact hd.heap.inj i j o p (hleft i o hi) (hleft j p hj) (Backed_of (hx4 i o hi).2 hb) (Backed_of (hx4 j p hj).2 hb') e
      · obtain ⟨z1, z2⟩ := i3 b hb
        have hlt := block_lt z1
        have hbl : b ≠ l := by rintro rfl; rw [i2.1] at z1; cases z1
        exact ⟨by rw [(hsame b hlt (hctl b _ z1 (.inr ⟨_, rfl⟩)) hbl z2).1]; exact z1, hCn b hlt z2⟩
      · obtain ⟨lp0, ⟨z1, z0⟩, z2⟩ := i4 l0 hl0
        have hlt := block_lt z1
        have hbl : l0 ≠ l := by rintro rfl; exact hrl hl0
        exact ⟨lp0, ⟨by rw [(hsame l0 hlt (hctl l0 _ z1 (.inl ⟨_, rfl⟩)) hbl z2).1]; exact z1, z0⟩, hCn l0 hlt z2⟩
      · obtain ⟨y, hy, hry⟩ := i5 t v ht
        exact ⟨y, hy, RepV.mono (Tr.trans tr tr') v y (fun j hj => hL4p j (hE j (envNames_mem ht hj)).1) hry⟩
      · obtain ⟨p1, p2⟩ := hL4p i hi
        obtain ⟨p3, p4⟩ := i6 i hi
        exact ⟨p1.trans p3, p2.trans p4⟩
    refine ⟨hHG4, fun b hb => ?_, hsm.fresh, fun i o hi => ?_, fun i o hi hb => ?_, fun i j o p hi hj hb hb' e => hh.inj i j o p hi hj hb hb' e⟩
    · rcases hb with hb | ⟨id, o, hi, hb, e⟩ | rfl | hb | hb
      · exact hsm.csz b (.inl hb)
      · have hlt := (hd.heap.obj id o (hleft id o hi)).lt (Backed_of (hx4 id o hi).2 hb)
        have e : L4.ρ id = b := e
        rw [(hx4 id o hi).1] at e
        rw [← e]; simpa using hlt
      · simpa using block_lt k1
      · exact block_lt (hHG4.mks b hb).1
      · obtain ⟨lp0, ⟨z1, _⟩, _⟩ := hHG4.out b hb
        exact block_lt z1
    · have h1 := hsm.obj _ _ (hright i o hi)
      have h2 := (RepO.ren (R := lentR c) (L := L2) (L' := L3) i o (fun j hj => hpl j (hB j ((heapNames_key hi).2 j (namesOfO_mem j o hj)))) (hpl i (hB i (heapNames_key hi).1))).1 h1
      exact RepO.yfree o (yfreeH_spec hyf.2 hi) h2
    · have hb3 := (hbl i o hi).2 hb
      obtain ⟨z1, z2⟩ := hd.heap.own _ _ (hright i o hi) hb3
      have hp := (hpl i (hB i (heapNames_key hi).1)).1
      rw [hp] at z1 z2
      refine ⟨z1, ?_⟩
      rintro (hC' | ⟨id, o', hi', hb', e⟩ | e | hm | hm)
      · exact z2 (.inl hC')
      · obtain ⟨_, _, _, _, z⟩ := hown id o' hi' hb'
        have e : L4.ρ id = L2.ρ i := e
        rw [(hx4 id o' hi').1] at e
        exact z i o hi hb e
      · exact hnl _ _ (hright i o hi) hb3 (by rw [hp]; exact e)
      · exact (hh.own i o hi hb).2 (.inr (.inr (.inr (.inl hm))))
      · exact (hh.own i o hi hb).2 (.inr (.inr (.inr (.inr hm))))
  · intro b hb hC hC'
    rcases hC' with hC' | ⟨id, o', hi', hb', e⟩ | e | hm | hm
    · exact hCn b hb (fun h => hC (.inl h)) hC'
    · obtain ⟨_, _, _, z, _⟩ := hown id o' hi' hb'
      have e : L4.ρ id = b := e
      rw [(hx4 id o' hi').1] at e
      rw [e] at z
      exact hC (.inr (.inl (z hb)))
    · exact hC (.inr (.inr (.inl e)))
    · exact hC (.inr (.inr (.inr (.inl hm))))
    · exact hC (.inr (.inr (.inr (.inr hm))))
  · intro b hb hC hno
    refine hsame b hb ?_ (fun e => hC (.inr (.inr (.inl e)))) (fun h => hC (.inl h))
    intro hob
    rcases hOwn0 b hob with ho | ⟨j, p, hj, hbj, e⟩
    · exact hC (.inr (.inl ho))
    · exact hno j p hj hbj e
end
end Go.PX
