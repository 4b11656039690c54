import Derived.Test.YtifbnniijibfgaaPxH
import Derived.IntWalk
set_option linter.all false
/- PX: rules: states that say less; loops. -/
namespace Go.PX
open Go.RowKit

/-- The least number of which p holds. -/
theorem least_of {p : Nat → Prop} : ∀ (n : Nat), p n → ∃ m, p m ∧ ∀ k, p k → m ≤ k := by
  intro n
  induction n using Nat.strongRecOn with
  | _ n ih =>
    intro hn
    by_cases h : ∃ k, k < n ∧ p k
    · obtain ⟨k, hk, hp⟩ := h; exact ih k hk hp
    · exact ⟨n, hn, fun k hk => Nat.le_of_not_lt fun hlt => h ⟨k, hlt, hk⟩⟩

open Classical in
noncomputable def sInfN (p : Nat → Prop) : Nat := if h : ∃ n, p n then (least_of h.choose h.choose_spec).choose else 0

theorem sInfN_mem {p : Nat → Prop} (h : ∃ n, p n) : p (sInfN p) := by
  unfold sInfN; rw [dif_pos h]
  exact (least_of h.choose h.choose_spec).choose_spec.1

theorem sInfN_le {p : Nat → Prop} {k : Nat} (hk : p k) : sInfN p ≤ k := by
  have h : ∃ n, p n := ⟨k, hk⟩
  unfold sInfN; rw [dif_pos h]
  exact (least_of h.choose h.choose_spec).choose_spec.2 k hk

/-- What one state says, the other says too (it may say less). -/
def Wk {σ : Type} (st st' : St σ) : Prop :=
  ∀ (cx : Cx σ) (r : Option Nat) (m : List Nat) (L : Loc) (F : Nat → Nat) (a : Act) (w : World), Good cx r m L F st a w → ∃ L' F', Good cx r m L' F' st' a w ∧ Tr F w F' w

theorem Wk.refl {σ : Type} (st : St σ) : Wk st st := fun cx r m L F a w h => ⟨L, F, h, Tr.refl F w⟩
theorem Wk.trans {σ : Type} {st st' st'' : St σ} (h : Wk st st') (k : Wk st' st'') : Wk st st'' := fun cx r m L F a w hg => by
  obtain ⟨L', F', h1, h2⟩ := h cx r m L F a w hg
  obtain ⟨L'', F'', h3, h4⟩ := k cx r m L' F' a w h1
  exact ⟨L'', F'', h3, Tr.trans h2 h4⟩

/-- Each of these is there. -/
def subEnv (e : Env) : Env → Prop
  | [] => True
  | (k, v) :: r => get e k = some v ∧ subEnv e r
def subHeap (e : Heap) : Heap → Prop
  | [] => True
  | (k, v) :: r => get e k = some v ∧ subHeap e r

theorem subEnv_t {e : Env} : ∀ {e' : Env}, subEnv e e' → SubT e' e
  | [], _, s, v, h => by cases h
  | (k, u) :: r, hs, s, v, h => by
    simp only [get] at h
    split at h
    · rename_i he
      have := Nat.eq_of_beq_eq_true he; subst this
      cases h; exact hs.1
    · exact subEnv_t hs.2 s v h
theorem subHeap_t {e : Heap} : ∀ {e' : Heap}, subHeap e e' → SubT e' e
  | [], _, s, v, h => by cases h
  | (k, u) :: r, hs, s, v, h => by
    simp only [get] at h
    split at h
    · rename_i he
      have := Nat.eq_of_beq_eq_true he; subst this
      cases h; exact hs.1
    · exact subHeap_t hs.2 s v h

theorem Wk.sub {σ : Type} {e e' : Env} {h h' : Heap} {s : σ} (he : subEnv e e') (hh : subHeap h h') : Wk (⟨e, h, s⟩ : St σ) ⟨e', h', s⟩ :=
  fun cx r m L F a w hg => ⟨L, F, hg.sub (subEnv_t he) (subHeap_t hh), Tr.refl F w⟩

/-- An object gets another number. -/
theorem Wk.move {σ : Type} {e : Env} {h : Heap} {s : σ} (i j : Nat) (hj : Nat.blt j 1000000 = true) (hij : Nat.beq i j = false) :
    Wk (⟨e, h, s⟩ : St σ) ⟨mapT (mapId (moveF i j)) (mapT (mapId (killF j)) e), moveT i j (mapT (Obj.mapId (killF j)) (cut h j)), s⟩ := by
  intro cx r m L F a w hg
  have hj := Nat.le_of_ble_eq_true hj
  have hij : i ≠ j := by rintro rfl; simp at hij
  have h1 : Good cx r m L F ⟨e, cut h j, s⟩ a w := hg.del j
  have h2 := h1.kill j
  have hu := kill_keeps (e := e) (h := h) j (x := j) (.inl rfl)
  exact ⟨_, F, h2.move (by unfold pinned; omega) hij hu, Tr.refl F w⟩

mutual
/-- What can be seen as data is written as data. -/
def repl (g : Nat → Option DO) : V → V
  | .d v => .d v
  | .agg cs => mkAgg (replL g cs)
  | .tup cs => mkTup (replL g cs)
  | .clo f cs => match dsOf (replL g cs) with
    | some l => .d (.clo f l)
    | none => .clo f (replL g cs)
  | .ptr i o => match viewV g (.ptr i o) with
    | some v => .d v
    | none => .ptr i o
  | .ep i n j o => .ep i n j o
  | .sl i n o l => match viewV g (.sl i n o l) with
    | some v => .d v
    | none => .sl i n o l
  | .mp i => match viewV g (.mp i) with
    | some v => .d v
    | none => .mp i
  | .it i => .it i
  | .yld => .yld
  | .unk => .unk
def replL (g : Nat → Option DO) : List V → List V
  | [] => []
  | v :: r => repl g v :: replL g r
end

def replLL (g : Nat → Option DO) : List (List V) → List (List V)
  | [] => []
  | v :: r => replL g v :: replLL g r

def dsOfL : List (List V) → Option (List (List D))
  | [] => some []
  | v :: r => match dsOf v, dsOfL r with
    | some a, some l => some (a :: l)
    | _, _ => none

def replO (g : Nat → Option DO) : Obj → Obj
  | .box (.vv l) => match dsOf (replL g l) with
    | some l => .box (.dd l)
    | none => .box (.vv (replL g l))
  | .arr n (.vv l) => match dsOfL (replLL g l) with
    | some l => .arr n (.dd l)
    | none => .arr n (.vv (replLL g l))
  | o => o

def cutL {α : Type} (t : Tab α) : List Nat → Tab α
  | [] => t
  | i :: r => cutL (cut t i) r

theorem get_cutL {α : Type} : ∀ (l : List Nat) (t : Tab α) (x : Nat), get (cutL t l) x = if x ∈ l then none else get t x
  | [], t, x => by simp [cutL]
  | i :: r, t, x => by
    rw [cutL, get_cutL r, get_cut]
    by_cases h1 : x ∈ r
    · simp [h1]
    · by_cases h2 : x = i
      · simp [h2]
      · simp [h1, h2]

section
variable {yv : Option Nat} {L : Loc} {F F1 : Nat → Nat} {w : World} {g : Nat → Option DO}

theorem RepV.view1 (tr : Tr F w F1 w) (hg : ∀ id o, g id = some o → RepDO yv L F1 w id o) {v : V} {x : Value} (hr : RepV yv L F w v x) : RepV yv L F1 w (match viewV g v with
    | some d => .d d
    | none => v) x := by
  split
  · rename_i d hd
    exact viewV_t tr hg v x d hd hr
  · exact RepV.mono tr v x (fun _ _ => ⟨rfl, rfl⟩) hr

theorem RepV.mkTup {cs : List V} {l : Array Value} (h : RepVL yv L F w cs l.toList) : RepV yv L F w (mkTup cs) (.tuple l) := by
  unfold PX.mkTup
  split
  · rename_i ds hds
    rw [dsOf_eq hds] at h
    exact ⟨l, rfl, RepVL.inj.1 h⟩
  · exact ⟨l, rfl, h⟩

mutual
theorem RepV.repl (tr : Tr F w F1 w) (hg : ∀ id o, g id = some o → RepDO yv L F1 w id o) : ∀ (v : V) (x : Value), RepV yv L F w v x → RepV yv L F1 w (repl g v) x
  | .d v, x, h => by simp only [PX.repl]; exact RepD.mono tr v x h
  | .agg cs, x, h => by
    obtain ⟨l, rfl, hl⟩ := h
    simp only [PX.repl]
    exact RepV.mkAgg (RepVL.repl tr hg cs _ hl)
  | .tup cs, x, h => by
    obtain ⟨l, rfl, hl⟩ := h
    simp only [PX.repl]
    exact RepV.mkTup (RepVL.repl tr hg cs _ hl)
  | .clo f cs, x, h => by
    obtain ⟨l, rfl, hl⟩ := h
    simp only [PX.repl]
    have := RepVL.repl tr hg cs _ hl
    split
    · rename_i ds hds
      rw [dsOf_eq hds] at this
      exact ⟨l, rfl, RepVL.inj.1 this⟩
    · exact ⟨l, rfl, this⟩
  | .ptr i o, x, h => by simp only [PX.repl]; exact RepV.view1 tr hg h
  | .ep i n j o, x, h => by simp only [PX.repl]; exact RepV.mono tr _ x (fun _ _ => ⟨rfl, rfl⟩) h
  | .sl i n o l, x, h => by simp only [PX.repl]; exact RepV.view1 tr hg h
  | .mp i, x, h => by simp only [PX.repl]; exact RepV.view1 tr hg h
  | .it i, x, h => by simp only [PX.repl]; exact RepV.mono tr _ x (fun _ _ => ⟨rfl, rfl⟩) h
  | .yld, x, h => by simp only [PX.repl]; exact h
  | .unk, x, h => by simp only [PX.repl]; exact h
theorem RepVL.repl (tr : Tr F w F1 w) (hg : ∀ id o, g id = some o → RepDO yv L F1 w id o) : ∀ (vs : List V) (l : List Value), RepVL yv L F w vs l → RepVL yv L F1 w (replL g vs) l
  | [], _, h => h
  | v :: r, _, h => by
    obtain ⟨x, l', rfl, hx, hl⟩ := h
    exact ⟨x, l', rfl, RepV.repl tr hg v x hx, RepVL.repl tr hg r l' hl⟩
end

theorem replL_append (a b : List V) : replL g (a ++ b) = replL g a ++ replL g b := by
  induction a with
  | nil => rfl
  | cons x r ih => simp [replL, ih]
theorem replL_length (a : List V) : (replL g a).length = a.length := by
  induction a with
  | nil => rfl
  | cons x r ih => simp [replL, ih]
theorem replLL_spec : ∀ (a : List (List V)), (replLL g a).flatten = replL g a.flatten ∧ (replLL g a).length = a.length ∧ ∀ sz, lensAre sz a → lensAre sz (replLL g a)
  | [] => ⟨rfl, rfl, fun _ _ _ h => by cases h⟩
  | e :: r => by
    obtain ⟨h1, h2, h3⟩ := replLL_spec r
    refine ⟨by simp [replLL, h1, replL_append], by simp [replLL, h2], fun sz hl x hx => ?_⟩
    rcases List.mem_cons.1 hx with rfl | hx
    · rw [replL_length]; exact hl e (List.mem_cons_self ..)
    · exact h3 sz (fun y hy => hl y (List.mem_cons_of_mem _ hy)) x hx

theorem dsOfL_eq : ∀ {l : List (List V)} {ds : List (List D)}, dsOfL l = some ds → l = injL ds
  | [], ds, h => by simp only [dsOfL, Option.some.injEq] at h; subst h; rfl
  | v :: r, ds, h => by
    simp only [dsOfL] at h
    split at h
    · rename_i a l h1 h2
      cases h
      simp only [injL]
      rw [dsOf_eq h1, dsOfL_eq h2]
    · cases h

theorem RepO.repl (tr : Tr F w F1 w) (hg : ∀ id o, g id = some o → RepDO yv L F1 w id o) (id : Nat) (o : Obj) (h : RepO yv L F w id o) : RepO yv L F1 w id (replO g o) := by
  cases o with
  | box c =>
    cases c with
    | dd l => exact RepO.mono tr id _ (fun _ _ => ⟨rfl, rfl⟩) ⟨rfl, rfl⟩ (fun _ => rfl) h
    | vv l =>
      obtain ⟨c, T, hc, hr⟩ := h
      have hr := RepVL.repl tr hg l _ hr
      simp only [replO]
      split
      · rename_i ds hds
        rw [dsOf_eq hds] at hr
        exact ⟨c, T, hc, hr⟩
      · exact ⟨c, T, hc, hr⟩
  | arr sz es =>
    cases es with
    | dd l => exact RepO.mono tr id _ (fun _ _ => ⟨rfl, rfl⟩) ⟨rfl, rfl⟩ (fun _ => rfl) h
    | vv l =>
      obtain ⟨hs, hl, h⟩ := h
      obtain ⟨k1, k2, k3⟩ := replLL_spec (g := g) l
      have hnew : RepO yv L F1 w id (.arr sz (.vv (replLL g l))) := by
        refine ⟨hs, k3 sz hl, ?_⟩
        rcases h with ⟨h, hk⟩ | ⟨c, T, hc, hk, hn, hr⟩
        · left
          have h : l = [] := h
          subst h
          exact ⟨rfl, hk⟩
        · right
          refine ⟨c, T, hc, hk, ?_, ?_⟩
          · show (replLL g l).length * sz ≤ _
            rw [k2]; exact hn
          · show RepVL yv L F1 w (replLL g l).flatten (c.toList.take ((replLL g l).length * sz))
            rw [k2, k1]; exact RepVL.repl tr hg _ _ hr
      simp only [replO]
      split
      · rename_i ds hds
        rw [dsOfL_eq hds] at hnew
        exact hnew
      · exact hnew
  | map kvs => exact RepO.mono tr id _ (fun _ _ => ⟨rfl, rfl⟩) ⟨rfl, rfl⟩ (fun _ => rfl) h
  | iter s n => exact RepO.mono tr id _ (fun _ _ => ⟨rfl, rfl⟩) ⟨rfl, rfl⟩ (fun _ => rfl) h

theorem Backed_repl (id : Nat) (o : Obj) : Backed L id (replO g o) ↔ Backed L id o := by
  cases o with
  | box c => cases c with
    | dd l => exact Iff.rfl
    | vv l => simp only [replO]; split <;> exact Iff.rfl
  | arr sz es => cases es with
    | dd l => exact Iff.rfl
    | vv l => simp only [replO]; split <;> exact Iff.rfl
  | map kvs => exact Iff.rfl
  | iter s n => exact Iff.rfl
end

theorem get_keepT {α : Type} : ∀ (l : List Nat) (t : Tab α) (x : Nat), get (keepT l t) x = if inL l x then get t x else none
  | l, [], x => by simp [keepT, get]
  | l, (k, v) :: r, x => by
    simp only [keepT]
    split
    · rename_i hk
      simp only [get]
      split
      · rename_i he
        have := Nat.eq_of_beq_eq_true he; subst this
        simp [hk]
      · exact get_keepT l r x
    · rename_i hk
      rw [get_keepT l r x]
      simp only [get]
      cases hkx : Nat.beq k x with
      | true =>
        have := Nat.eq_of_beq_eq_true hkx; subst this
        simp [hk]
      | false => rfl

/-- Objects are frozen for good: they are data from now on. -/
theorem Wk.frz {σ : Type} {e : Env} {h : Heap} {s : σ} (n : Nat) (ids : List Nat) :
    Wk (⟨e, h, s⟩ : St σ) ⟨mapT (repl (objD (keepT ids h) n)) e, mapT (replO (objD (keepT ids h) n)) (cutL h ids), s⟩ := by
  intro cx r m L F a w hg
  have hsub : SubT (keepT ids h) h := sub_keepT ids h
  have hok : HeapOk cx L F (keepT ids h) s w := (hg.sub (e := e) (h := keepT ids h) (fun _ _ h => h) hsub).heap
  have tr := frzAll_tr hok
  have hF1C : ∀ b, cx.C s b → frzAll L F (keepT ids h) w b = F b := fun b hb => frzAll_C hok hb
  have hF1o : ∀ id o, get h id = some o → id ∉ ids → Backed L id o → frzAll L F (keepT ids h) w (L.ρ id) = F (L.ρ id) := by
    intro id o hi hn hb
    refine frzAll_other ?_
    rintro ⟨j, p, hj, hbj, hij⟩
    have := hg.heap.inj j id p o (hsub j p hj) hi hbj hb hij
    subst this
    exact hn (key_keep ids h j p hj)
  have hfr := frzAll_fresh hok
  have hobj := objD_t hok n
  generalize frzAll L F (keepT ids h) w = F1 at tr hF1C hF1o hfr hobj
  generalize objD (keepT ids h) n = g at hobj
  have hget : ∀ i o', get (mapT (replO g) (cutL h ids)) i = some o' → i ∉ ids ∧ ∃ o0, get h i = some o0 ∧ o' = replO g o0 := by
    intro i o' hi
    rw [get_mapT, get_cutL] at hi
    split at hi
    · cases hi
    · rename_i hn
      cases h0 : get h i with
      | none => simp [h0] at hi
      | some o0 => simp [h0] at hi; exact ⟨hn, o0, rfl, hi.symm⟩
  refine ⟨L, F1, ⟨⟨cx.stable hg.heap.hg tr hfr fun b hb => ⟨rfl, hF1C b hb⟩, hg.heap.csz, hfr, ?_, ?_, ?_⟩, ?_, hg.dfr, hg.mks, hg.mnd, hg.lk, hg.pin, hg.tsz⟩, tr⟩
  · intro i o' hi
    obtain ⟨_, o0, h0, rfl⟩ := hget i o' hi
    exact RepO.repl tr hobj i o0 (hg.heap.obj i o0 h0)
  · intro i o' hi hb
    obtain ⟨hn, o0, h0, rfl⟩ := hget i o' hi
    have hb := (Backed_repl i o0).1 hb
    rw [hF1o i o0 h0 hn hb]
    exact hg.heap.own i o0 h0 hb
  · intro i j o' p hi hj hbi hbj he
    obtain ⟨_, o0, h0, rfl⟩ := hget i o' hi
    obtain ⟨_, p0, hp0, rfl⟩ := hget j p hj
    exact hg.heap.inj i j o0 p0 h0 hp0 ((Backed_repl i o0).1 hbi) ((Backed_repl j p0).1 hbj) he
  · intro t v ht
    simp only [get_mapT] at ht
    cases h0 : get e t with
    | none => simp [h0] at ht
    | some v0 =>
      simp [h0] at ht
      subst ht
      obtain ⟨x, hx, hr⟩ := hg.env t v0 h0
      exact ⟨x, hx, RepV.repl tr hobj v0 x hr⟩

section
variable {P : Program} {T : Tys} {σ : Type} {Y : Hd σ}

/-- Code, from a state that says more. -/
theorem WPC.wk {c : Code} {st st' : St σ} {K : AExit → St σ → Prop} (hw : Wk st st') (h : WPC P Y c st' K) : WPC P Y c st K := by
  intro cx hY r m L F a w hg hc
  obtain ⟨L', F', hg', tr⟩ := hw cx r m L F a w hg
  refine wpIn_mono (h cx hY r m L' F' a w hg' hc) fun ex a' w' hq => ?_
  obtain ⟨e', st1, m', L1, F1, h1, h2, h3, h4, h5⟩ := hq
  exact ⟨e', st1, m', L1, F1, h1, h2, h3, Tr.trans tr h4, h5⟩

/-- A loop, by an invariant. -/
theorem LoopA_p (hT : TysOk P T) {ft : FT} {c : Code} (hD : drawsOk P T ft c) {α : Type} (I : α → St σ) (Pr : α → Prop) (μ : α → Nat) (x0 : α) {st : St σ} {K : AExit → St σ → Prop} (h0 : Wk st (I x0)) (p0 : Pr x0)
    (round : ∀ x, Pr x → wpA P T ft Y c (I x) fun e st' => match e with
      | .normal => ∃ y, μ y < μ x ∧ Pr y ∧ Wk st' (I y)
      | e => K e st') : LoopA P ft Y c st K := by
  refine ⟨WPC.wk h0 ?_⟩
  intro cx hY r m0 L0 F0 a w hg hc
  have hc : codeOk a.tmps.size c = true := hc
  -- the invariant, at frames
  let J : Act → World → α → Prop := fun a' w' x => Pr x ∧ ∃ m L F, Good cx r m L F (I x) a' w' ∧ Tr F0 w F w' ∧ a'.tmps.size = a.tmps.size
  let M : Act → World → Nat := fun a' w' => sInfN fun n => ∃ x, J a' w' x ∧ μ x = n
  refine wpIn_loop (fun a' w' => ∃ x, J a' w' x) M ⟨x0, p0, m0, L0, F0, hg, Tr.refl F0 w, rfl⟩ fun a' w' hJ => ?_
  obtain ⟨x, ⟨hp, m, L, F, hg', tr, hs⟩, hx⟩ := sInfN_mem (p := fun n => ∃ x, J a' w' x ∧ μ x = n) (by obtain ⟨x, hx⟩ := hJ; exact ⟨μ x, x, hx, rfl⟩)
  refine wpIn_mono (wpA_sound hT c hD (I x) _ (round x hp) cx hY r m L F a' w' hg' (by rw [hs]; exact hc)) fun ex a'' w'' hq => ?_
  obtain ⟨e', st1, m1, L1, F1, rfl, h2, h3, h4, h5⟩ := hq
  cases e' with
  | normal =>
    obtain ⟨y, hy, hpy, hwk⟩ := h2
    obtain ⟨L2, F2, hg2, tr2⟩ := hwk cx r m1 L1 F1 a'' w'' h3
    have hJy : J a'' w'' y := ⟨hpy, m1, L2, F2, hg2, Tr.trans tr (Tr.trans h4 tr2), h5.trans hs⟩
    refine ⟨⟨y, hJy⟩, ?_⟩
    have : M a'' w'' ≤ μ y := sInfN_le ⟨y, hJy, rfl⟩
    have hx : μ x = M a' w' := hx
    omega
  | exit i => exact ⟨.exit i, st1, m1, L1, F1, rfl, h2, h3, Tr.trans tr h4, h5.trans hs⟩
  | ret => exact ⟨.ret, st1, m1, L1, F1, rfl, h2, h3, Tr.trans tr h4, h5.trans hs⟩

end

section
variable {σ : Type}

/-- Another word for what a slot holds. -/
theorem Good.reval {cx : Cx σ} {r : Option Nat} {m : List Nat} {L : Loc} {F : Nat → Nat} {e : Env} {h : Heap} {s : σ} {a : Act} {w : World} (hg : Good cx r m L F ⟨e, h, s⟩ a w) {t : Nat} {v v' : V} (ht : get e t = some v)
    (hv : ∀ x, RepV cx.yv L F w v x → RepV cx.yv L F w v' x) : Good cx r m L F ⟨put e t v', h, s⟩ a w := by
  refine ⟨hg.heap, fun u y hu => ?_, hg.dfr, hg.mks, hg.mnd, hg.lk, hg.pin, hg.tsz⟩
  rw [get_put] at hu
  split at hu
  · rename_i he
    cases hu; subst he
    obtain ⟨x, hx, hr⟩ := hg.env u v ht
    exact ⟨x, hx, hv x hr⟩
  · exact hg.env u y hu

/-- A nil slice is an empty one. -/
theorem Wk.nilvs {e : Env} {h : Heap} {s : σ} (t : Nat) (ht : get e t = some (.d .nils)) : Wk (⟨e, h, s⟩ : St σ) ⟨put e t (.d (.vs [])), h, s⟩ := by
  intro cx r m L F a w hg
  refine ⟨L, F, hg.reval ht fun x hx => ?_, Tr.refl F w⟩
  have hx : x = .slice none 0 0 := hx
  subst hx
  exact ⟨none, 0, 0, rfl, rfl, Nat.le_refl _, fun h => absurd rfl h⟩

/-- A nil slice is an object without elements. -/
theorem Wk.born {e : Env} {h : Heap} {s : σ} (t id sz : Nat) (hid : Nat.blt id 1000000 = true) (hs : Nat.blt 0 sz = true) (ht : get e t = some (.d .nils)) :
    Wk (⟨e, h, s⟩ : St σ) ⟨put (mapT (mapId (killF id)) e) t (.sl id sz 0 0), put (mapT (Obj.mapId (killF id)) (cut h id)) id (.arr sz (.dd [])), s⟩ := by
  intro cx r m L F a w hg
  have hid := Nat.le_of_ble_eq_true hid
  have hs := Nat.le_of_ble_eq_true hs
  have h1 := hg.newEmpty id sz (by unfold pinned; omega) hs (.dd []) rfl
  refine ⟨_, F, Good.reval (t := t) (v := .d .nils) h1 (by rw [get_mapT, ht]; rfl) fun x hx => ?_, Tr.refl F w⟩
  have hx : x = .slice none 0 0 := hx
  subst hx
  exact ⟨none, 0, rfl, Nat.le_refl _, hs, .inl ⟨rfl, rfl⟩⟩
end
end Go.PX

/- PX: a table of types, checked against the program. -/
namespace Go.PX
open Go.RowKit

mutual
def eqD : D → D → Bool
  | .bool a, .bool b => a == b
  | .int k n, .int k' m => decide (k = k') && decide (n = m)
  | .str a, .str b => decide (a = b)
  | .agg a, .agg b => eqDL a b
  | .tup a, .tup b => eqDL a b
  | .nils, .nils => true
  | .nilp, .nilp => true
  | .nilm, .nilm => true
  | .nilf, .nilf => true
  | .nili, .nili => true
  | _, _ => false
def eqDL : List D → List D → Bool
  | [], [] => true
  | a :: r, b :: l => eqD a b && eqDL r l
  | _, _ => false
end

mutual
theorem eqD_spec : ∀ (a b : D), eqD a b = true → a = b
  | .bool a, b, h => by cases b <;> simp [eqD] at h; rw [h]
  | .int k n, b, h => by cases b <;> simp [eqD] at h; rw [h.1, h.2]
  | .str a, b, h => by cases b <;> simp [eqD] at h; rw [h]
  | .agg a, b, h => by cases b <;> simp [eqD] at h; rw [eqDL_spec _ _ h]
  | .tup a, b, h => by cases b <;> simp [eqD] at h; rw [eqDL_spec _ _ h]
  | .nils, b, h => by cases b <;> simp [eqD] at h; rfl
  | .nilp, b, h => by cases b <;> simp [eqD] at h; rfl
  | .nilm, b, h => by cases b <;> simp [eqD] at h; rfl
  | .nilf, b, h => by cases b <;> simp [eqD] at h; rfl
  | .nili, b, h => by cases b <;> simp [eqD] at h; rfl
  | .vs _, b, h => by cases b <;> simp [eqD] at h
  | .ref _, b, h => by cases b <;> simp [eqD] at h
  | .mv _, b, h => by cases b <;> simp [eqD] at h
  | .clo _ _, b, h => by cases b <;> simp [eqD] at h
  | .mth _ _, b, h => by cases b <;> simp [eqD] at h
  | .ifc _ _, b, h => by cases b <;> simp [eqD] at h
theorem eqDL_spec : ∀ (a b : List D), eqDL a b = true → a = b
  | [], b, h => by cases b <;> simp [eqDL] at h; rfl
  | x :: r, b, h => by
    cases b with
    | nil => simp [eqDL] at h
    | cons y l =>
      simp only [eqDL, Bool.and_eq_true] at h
      rw [eqD_spec x y h.1, eqDL_spec r l h.2]
end

def eqFields : List (Nat × TypeId) → List (Nat × TypeId) → Bool
  | [], [] => true
  | (a, b) :: r, (c, d) :: l => Nat.beq a c && Nat.beq b d && eqFields r l
  | _, _ => false

theorem eqFields_spec : ∀ (a b : List (Nat × TypeId)), eqFields a b = true → a = b
  | [], [], _ => rfl
  | [], _ :: _, h => by simp [eqFields] at h
  | _ :: _, [], h => by simp [eqFields] at h
  | (a, b) :: r, (c, d) :: l, h => by
    simp only [eqFields, Bool.and_eq_true] at h
    rw [Nat.eq_of_beq_eq_true h.1.1, Nat.eq_of_beq_eq_true h.1.2, eqFields_spec r l h.2]

def eqKd : Kd → Kd → Bool
  | .bool, .bool => true
  | .int k, .int k' => decide (k = k')
  | .str, .str => true
  | .slice e, .slice e' => Nat.beq e e'
  | .struct fs, .struct gs => eqFields fs gs
  | .array n e, .array n' e' => Nat.beq n n' && Nat.beq e e'
  | .map k e, .map k' e' => Nat.beq k k' && Nat.beq e e'
  | .other, .other => true
  | _, _ => false

theorem eqKd_spec (a b : Kd) (h : eqKd a b = true) : a = b := by
  cases a <;> cases b <;> simp only [eqKd, Bool.and_eq_true, decide_eq_true_eq] at h <;> first | rfl | (cases h; done) | skip
  · rw [h]
  · rw [Nat.eq_of_beq_eq_true h]
  · rw [eqFields_spec _ _ h]
  · rw [Nat.eq_of_beq_eq_true h.1, Nat.eq_of_beq_eq_true h.2]
  · rw [Nat.eq_of_beq_eq_true h.1, Nat.eq_of_beq_eq_true h.2]

def eqB : Bool → Bool → Bool
  | true, true => true
  | false, false => true
  | _, _ => false

def tyB (P : Program) (t : TypeId) (ti : TyI) : Bool :=
  match P.info? t, P.underlying t with
  | some i, some d => Nat.beq ti.size i.size && Nat.beq ti.bytes i.bytes && eqKd ti.kd (kdOf d) && eqB ti.isAgg (aggOf d) && (match ti.held with
      | true => true
      | false => !P.stoodInHeld t) && (match ti.zero with
      | none => true
      | some z => match i.zero with
        | some zv => match zeroCells zv with
          | some z' => eqDL z' z && eqB (aggC zv) ti.isAgg
          | none => false
        | none => false)
  | _, _ => false

theorem tyB_spec {P : Program} {t : TypeId} {ti : TyI} (h : tyB P t ti = true) : ∃ i d, P.info? t = some i ∧ P.underlying t = some d ∧ ti.size = i.size ∧ ti.bytes = i.bytes ∧ ti.kd = kdOf d ∧ ti.isAgg = aggOf d ∧
    (ti.held = false → P.stoodInHeld t = false) ∧ (∀ z, ti.zero = some z → ∃ zv, i.zero = some zv ∧ zeroCells zv = some z ∧ aggC zv = ti.isAgg) := by
  unfold tyB at h
  split at h
  case h_2 => cases h
  rename_i i d hi hd
  simp only [Bool.and_eq_true] at h
  obtain ⟨⟨⟨⟨⟨h1, h2⟩, h3⟩, h4⟩, h5⟩, h6⟩ := h
  refine ⟨i, d, hi, hd, Nat.eq_of_beq_eq_true h1, Nat.eq_of_beq_eq_true h2, eqKd_spec _ _ h3, ?_, fun hh => ?_, fun z hz => ?_⟩
  · revert h4; cases ti.isAgg <;> cases aggOf d <;> simp [eqB]
  · rw [hh] at h5; simpa using h5
  · rw [hz] at h6
    simp only at h6
    split at h6
    case h_2 => cases h6
    rename_i zv hzv
    split at h6
    case h_2 => cases h6
    rename_i z' hz'
    simp only [Bool.and_eq_true] at h6
    exact ⟨zv, hzv, by rw [hz', eqDL_spec _ _ h6.1], by have := h6.2; revert this; cases aggC zv <;> cases ti.isAgg <;> simp [eqB]⟩

def tysB (P : Program) : Tys → Bool
  | .lf => true
  | .nd l k v r => tysB P l && tyB P k v && tysB P r

theorem tysB_spec {P : Program} : ∀ {T : Tys}, tysB P T = true → TysOk P T
  | .lf, _, t, ti, h => by cases h
  | .nd l k v r, hT, t, ti, h => by
    simp only [tysB, Bool.and_eq_true] at hT
    simp only [Tys.get] at h
    split at h
    · rename_i he
      have := Nat.eq_of_beq_eq_true he; subst this
      cases h
      exact tyB_spec hT.1.2
    · split at h
      · exact tysB_spec hT.1.1 t ti h
      · exact tysB_spec hT.2 t ti h

end Go.PX

/- PX: small rules for the stops. -/
namespace Go.PX
theorem arith_in {k : IntKind} {n : Int} {K : V → Prop} (h : k.wrap n = n) (hK : K (.d (.int k n))) : arith k n K := by constructor; rw [h]; exact hK
theorem brk_i {b : Bool} {X Y : Prop} (h : b = true → X) (k : b = false → Y) : brk b X Y := by cases b <;> simp_all [brk]
theorem chk_i {b : Bool} {K : Prop} (h : b = true) (k : K) : chk b K := by subst h; exact k
theorem elemK_i {es : List (List D)} {i : Int} {K : List D → Prop} (l : List D) (h : 0 ≤ i ∧ es[i.toNat]? = some l) (k : K l) : elemK es i K := by simp [elemK, h.1, h.2, k]
theorem cellK_i {α : Type} {cs : List α} {n : Nat} {K : α → Prop} (v : α) (h : cs[n]? = some v) (k : K v) : cellK cs n K := by simp [cellK, h, k]
def bodyOf (f : Func) : Code := match f.body with | some c => c | none => .skip
theorem wrap_i64 {n : Int} (h : -9223372036854775808 ≤ n ∧ n ≤ 9223372036854775807) : IntKind.wrap .i64 n = n := IntWalk.i64_in n h
abbrev i64 (n : Int) : D := .int .i64 n

/-- A contract by value, from the evaluation of the body. -/
theorem fnV_of {P : Program} {T : Tys} (hm : P.follows .mixedOrders = true) (hT : TysOk P T) {f : FuncId} {fn : Func} {c : Code} (hf : P.funcs[f]? = some fn) (hb : fn.body = some c) {ft : FT} {ds : List D} {r : D} (n : Nat) (hok : fnB ft fn n = true) (hn : ds.length = n)
     (hw : ∀ {σ : Type} (Y : Hd σ) (s : σ), wpA P T ft Y c ⟨enterE 0 (inj ds), [], s⟩ (fnK T fn.results.toList fun v h' s' => (v = .d r ∧ h' = []) ∧ s' = s)) : FnV P f ds r := by
  intro σ Y s
  exact fnC_of hm hT hf hb (by rw [inj_length, hn]; exact hok) (hw Y s)

/-- A slice that is returned as a list. -/
theorem RetA_sl {σ : Type} {h : Heap} {s : σ} {Q : V → Heap → σ → Prop} {id sz n : Nat} {es : List (List D)} (hg : get h id = some (.arr sz (.dd es))) (hn : n = es.length) (hq : Q (.d (.vs es)) [] s) : RetA [.sl id sz 0 n] h s Q := by
  refine RetA_view 1 (ds := [.vs es]) ?_ hq
  have h1 : Nat.beq sz sz = true := Nat.beq_refl sz
  have h2 : Nat.ble (0 + es.length) es.length = true := Nat.ble_eq_true_of_le (by omega)
  subst hn
  simp only [viewL, viewV, objD, hg, h1, h2, List.drop_zero, List.take_length]
end Go.PX
