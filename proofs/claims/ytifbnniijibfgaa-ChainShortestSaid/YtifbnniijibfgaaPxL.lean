import Derived.Test.YtifbnniijibfgaaPxK
import Derived.ProofKit
import Derived.ReadAgain
set_option linter.all false
/- PX: more rules for proofs of contracts. -/
namespace Go.PX

/-- An element of a list of input data. -/
theorem elemK_nat {α : Type} {l : List α} {f : α → List D} {i : Nat} {x : α} {K : List D → Prop} (hx : l[i]? = some x) (k : K (f x)) : elemK (l.map f) (i : Int) K :=
  elemK_i (f x) (by simp [hx]) k

theorem viewL_cons {g : Nat → Option DO} {v : V} {r : List V} {d : D} {l : List D} (h1 : viewV g v = some d) (h2 : viewL g r = some l) : viewL g (v :: r) = some (d :: l) := by
  rw [viewL, h1, h2]

theorem viewV_sl {h : Heap} {k id sz n : Nat} {es : List (List D)} (hg : get h id = some (.arr sz (.dd es))) (hn : n = es.length) : viewV (objD h (k + 1)) (.sl id sz 0 n) = some (.vs es) := by
  have h1 : Nat.beq sz sz = true := Nat.beq_refl sz
  have h2 : Nat.ble (0 + es.length) es.length = true := Nat.ble_eq_true_of_le (by omega)
  subst hn
  simp only [viewV, objD, hg, h1, h2, List.drop_zero, List.take_length]

section
variable {P : Program} {T : Tys} {σ : Type} {Y : Hd σ}

/-- A loop, by an invariant; each round as what it means. -/
theorem LoopA_w {ft : FT} {c : Code} {α : Type} (I : α → St σ) (Pr : α → Prop) (μ : α → Nat) (x0 : α) {st : St σ} {K : AExit → St σ → Prop} (h0 : Wk st (I x0)) (p0 : Pr x0)
    (round : ∀ x, Pr x → WPC P Y c (I x) fun e st' => match e with
      | .normal => ∃ y, μ y < μ x ∧ Pr y ∧ Wk st' (I y)
      | e => K e st') : LoopA P ft Y c st K := by
  refine ⟨WPC.wk h0 ?_⟩
  intro cx hY r m0 L0 F0 a w hg hc
  have hc : codeOk a.tmps.size c = true := hc
  let J : Act → World → α → Prop := fun a' w' x => Pr x ∧ ∃ m L F, Good cx r m L F (I x) a' w' ∧ Tr F0 w F w' ∧ a'.tmps.size = a.tmps.size
  let M : Act → World → Nat := fun a' w' => sInfN fun n => ∃ x, J a' w' x ∧ μ x = n
  refine wpIn_loop (fun a' w' => ∃ x, J a' w' x) M ⟨x0, p0, m0, L0, F0, hg, Tr.refl F0 w, rfl⟩ fun a' w' hJ => ?_
  obtain ⟨x, ⟨hp, m, L, F, hg', tr, hs⟩, hx⟩ := sInfN_mem (p := fun n => ∃ x, J a' w' x ∧ μ x = n) (by obtain ⟨x, hx⟩ := hJ; exact ⟨μ x, x, hx, rfl⟩)
  refine wpIn_mono (round x hp cx hY r m L F a' w' hg' (by rw [hs]; exact hc)) fun ex a'' w'' hq => ?_
  obtain ⟨e', st1, m1, L1, F1, rfl, h2, h3, h4, h5⟩ := hq
  cases e' with
  | normal =>
    obtain ⟨y, hy, hpy, hwk⟩ := h2
    obtain ⟨L2, F2, hg2, tr2⟩ := hwk cx r m1 L1 F1 a'' w'' h3
    have hJy : J a'' w'' y := ⟨hpy, m1, L2, F2, hg2, Tr.trans tr (Tr.trans h4 tr2), h5.trans hs⟩
    refine ⟨⟨y, hJy⟩, ?_⟩
    have : M a'' w'' ≤ μ y := sInfN_le ⟨y, hJy, rfl⟩
    have hx : μ x = M a' w' := hx
    omega
  | exit i => exact ⟨.exit i, st1, m1, L1, F1, rfl, h2, h3, Tr.trans tr h4, h5.trans hs⟩
  | ret => exact ⟨.ret, st1, m1, L1, F1, rfl, h2, h3, Tr.trans tr h4, h5.trans hs⟩

theorem WPC.mono {c : Code} {st : St σ} {K1 K2 : AExit → St σ → Prop} (hw : WPC P Y c st K1) (h : ∀ e st, K1 e st → K2 e st) : WPC P Y c st K2 := by
  intro cx hY r m L F a w hg hc
  refine wpIn_mono (hw cx hY r m L F a w hg hc) fun ex a' w' hq => ?_
  obtain ⟨e', st', m', L', F', h1, h2, h3⟩ := hq
  exact ⟨e', st', m', L', F', h1, h _ _ h2, h3⟩

/-- A loop over a list. -/
theorem LoopA_l (hT : TysOk P T) {ft : FT} {c : Code} (hD : drawsOk P T ft c) {α β : Type} (l : List α) (I : Nat → β → St σ) (J : List α → β → Prop) (x0 : β) {st : St σ} {K : AExit → St σ → Prop} (h0 : Wk st (I 0 x0)) (j0 : J l x0)
    (round : ∀ (i : Nat) (x : α) (r : List α) (acc : β), l[i]? = some x → i < l.length → i + 1 + r.length = l.length → J (x :: r) acc → wpA P T ft Y c (I i acc) fun e st' => match e with
      | .normal => ∃ acc', J r acc' ∧ Wk st' (I (i + 1) acc')
      | e => K e st')
    (fin : ∀ acc, J [] acc → wpA P T ft Y c (I l.length acc) fun e st' => match e with
      | .normal => False
      | e => K e st') : LoopA P ft Y c st K := by
  refine LoopA_w (α := Nat × β) (fun p => I p.1 p.2) (fun p => p.1 ≤ l.length ∧ J (l.drop p.1) p.2) (fun p => l.length + 1 - p.1) (0, x0) h0 ⟨Nat.zero_le _, by simpa using j0⟩ ?_
  rintro ⟨i, acc⟩ ⟨hi, hj⟩
  simp only at hi hj ⊢
  by_cases hlt : i < l.length
  · have hd : l.drop i = l[i] :: l.drop (i + 1) := List.drop_eq_getElem_cons hlt
    rw [hd] at hj
    refine WPC.mono (wpA_sound hT c hD _ _ (round i l[i] (l.drop (i + 1)) acc (List.getElem?_eq_getElem hlt) hlt (by simp; omega) hj)) fun e st' hk => ?_
    cases e with
    | normal =>
      obtain ⟨acc', h1, h2⟩ := hk
      exact ⟨(i + 1, acc'), by simp only; omega, ⟨hlt, h1⟩, h2⟩
    | exit i => exact hk
    | ret => exact hk
  · have he : i = l.length := by omega
    subst he
    rw [List.drop_length] at hj
    refine WPC.mono (wpA_sound hT c hD _ _ (fin acc hj)) fun e st' hk => ?_
    cases e with
    | normal => exact hk.elim
    | exit i => exact hk
    | ret => exact hk

/-- A loop over a list, by the index. -/
theorem LoopA_i (hT : TysOk P T) {ft : FT} {c : Code} (hD : drawsOk P T ft c) {α β : Type} (l : List α) (I : Nat → β → St σ) (J : Nat → List α → β → Prop) (x0 : β) {st : St σ} {K : AExit → St σ → Prop} (h0 : Wk st (I 0 x0)) (j0 : J 0 l x0)
    (round : ∀ (i : Nat) (x : α) (r : List α) (acc : β), l[i]? = some x → i < l.length → i + 1 + r.length = l.length → J i (x :: r) acc → wpA P T ft Y c (I i acc) fun e st' => match e with
      | .normal => ∃ acc', J (i + 1) r acc' ∧ Wk st' (I (i + 1) acc')
      | e => K e st')
    (fin : ∀ acc, J l.length [] acc → wpA P T ft Y c (I l.length acc) fun e st' => match e with
      | .normal => False
      | e => K e st') : LoopA P ft Y c st K := by
  refine LoopA_w (α := Nat × β) (fun p => I p.1 p.2) (fun p => p.1 ≤ l.length ∧ J p.1 (l.drop p.1) p.2) (fun p => l.length + 1 - p.1) (0, x0) h0 ⟨Nat.zero_le _, by simpa using j0⟩ ?_
  rintro ⟨i, acc⟩ ⟨hi, hj⟩
  simp only at hi hj ⊢
  by_cases hlt : i < l.length
  · have hd : l.drop i = l[i] :: l.drop (i + 1) := List.drop_eq_getElem_cons hlt
    rw [hd] at hj
    refine WPC.mono (wpA_sound hT c hD _ _ (round i l[i] (l.drop (i + 1)) acc (List.getElem?_eq_getElem hlt) hlt (by simp; omega) hj)) fun e st' hk => ?_
    cases e with
    | normal =>
      obtain ⟨acc', h1, h2⟩ := hk
      exact ⟨(i + 1, acc'), by simp only; omega, ⟨hlt, h1⟩, h2⟩
    | exit i => exact hk
    | ret => exact hk
  · have he : i = l.length := by omega
    subst he
    rw [List.drop_length] at hj
    refine WPC.mono (wpA_sound hT c hD _ _ (fin acc hj)) fun e st' hk => ?_
    cases e with
    | normal => exact hk.elim
    | exit i => exact hk
    | ret => exact hk

end
end Go.PX

/- PX: more weakenings, and calls whose end is not known in full. -/
namespace Go.PX
open Go.RowKit

section
variable {σ : Type}

/-- Another word for an object. -/
theorem Wk.reobj {e : Env} {h : Heap} {s : σ} (id : Nat) {o : Obj} (o' : Obj) (hg : get h id = some o) (hr : ∀ (yv : Option Nat) (L : Loc) (F : Nat → Nat) (w : World), RepO yv L F w id o → RepO yv L F w id o') (hb : ∀ L, Backed L id o' → Backed L id o) :
    Wk (⟨e, h, s⟩ : St σ) ⟨e, put h id o', s⟩ := by
  intro cx r m L F a w hh
  have key : ∀ i q, get (put h id o') i = some q → (i = id ∧ q = o') ∨ get h i = some q := by
    intro i q hi
    rw [get_put] at hi
    split at hi
    · rename_i e1; cases hi; exact .inl ⟨e1, rfl⟩
    · exact .inr hi
  refine ⟨L, F, ⟨⟨hh.heap.hg, hh.heap.csz, hh.heap.fresh, fun i q hi => ?_, fun i q hi hbk => ?_, fun i j q p hi hj hbi hbj e => ?_⟩, hh.env, hh.dfr, hh.mks, hh.mnd, hh.lk, hh.pin, hh.tsz⟩, Tr.refl F w⟩
  · rcases key i q hi with ⟨rfl, rfl⟩ | hi
    · exact hr _ _ _ _ (hh.heap.obj i o hg)
    · exact hh.heap.obj i q hi
  · rcases key i q hi with ⟨rfl, rfl⟩ | hi
    · exact hh.heap.own i o hg (hb L hbk)
    · exact hh.heap.own i q hi hbk
  · rcases key i q hi with ⟨e1, e2⟩ | hi1 <;> rcases key j p hj with ⟨e3, e4⟩ | hj1
    · rw [e1, e3]
    · subst e1; subst e2
      exact hh.heap.inj _ _ _ _ hg hj1 (hb L hbi) hbj e
    · subst e3; subst e4
      exact hh.heap.inj _ _ _ _ hi1 hg hbi (hb L hbj) e
    · exact hh.heap.inj _ _ _ _ hi1 hj1 hbi hbj e

/-- Of an array fewer elements are known. -/
theorem Wk.shrink {e : Env} {h : Heap} {s : σ} (id n : Nat) {sz : Nat} {es : List (List D)} (hg : get h id = some (.arr sz (.dd es))) : Wk (⟨e, h, s⟩ : St σ) ⟨e, put h id (.arr sz (.dd (es.take n))), s⟩ := by
  refine Wk.reobj id _ hg (fun yv L F w h => ?_) fun L hb => hb
  obtain ⟨h1, h2, h3⟩ := h
  have hlen : lensAre sz (injL (es.take n)) := by
    intro x hx
    rw [injL_eq, List.mem_map] at hx
    obtain ⟨y, hy, rfl⟩ := hx
    exact h2 _ (by rw [show (Els.dd es).toV = injL es from rfl, injL_eq]; exact List.mem_map_of_mem (List.mem_of_mem_take hy))
  refine ⟨h1, hlen, ?_⟩
  rcases h3 with ⟨h3, h4⟩ | ⟨c, T, hc, k1, k2, k3⟩
  · left
    have : es = [] := by
      have : injL es = [] := h3
      cases es with
      | nil => rfl
      | cons a l => cases this
    subst this
    exact ⟨by simp [Els.toV, injL], h4⟩
  · right
    have e1 : (Els.dd es).toV = injL es := rfl
    have e2 : (Els.dd (es.take n)).toV = (injL es).take n := by show injL (es.take n) = _; rw [injL_eq, injL_eq, List.map_take]
    have e3 : ((injL es).take n).length ≤ (injL es).length := by simp; omega
    rw [e1] at k2 k3
    refine ⟨c, T, hc, k1, ?_, ?_⟩
    · rw [e2]; exact Nat.le_trans (Nat.mul_le_mul_right _ e3) k2
    · rw [e2]
      have := RepVL.take (((injL es).take n).length * sz) k3
      rw [List.take_take] at this
      have hmin : min (((injL es).take n).length * sz) ((injL es).length * sz) = ((injL es).take n).length * sz := Nat.min_eq_left (Nat.mul_le_mul_right _ e3)
      rw [hmin] at this
      have hl : lensAre sz (injL es) := h2
      have hf : (injL es).flatten.take (((injL es).take n).length * sz) = ((injL es).take n).flatten := by
        have := flatten_take (sz := sz) n hl
        rw [this]
        simp only [List.length_take]
        by_cases hn : n ≤ (injL es).length
        · rw [Nat.min_eq_left hn]
        · rw [Nat.min_eq_right (by omega), List.take_of_length_le (by rw [flatten_len hl]; exact Nat.le_refl _), List.take_of_length_le (by rw [flatten_len hl]; exact Nat.mul_le_mul_right _ (by omega))]
      rw [hf] at this
      exact this

/-- A box that holds a nil slice holds one without elements. -/
theorem Wk.bornBox {e : Env} {h : Heap} {s : σ} (b k sz : Nat) (hk : Nat.blt k 1000000 = true) (hs : Nat.blt 0 sz = true) (hb : get h b = some (.box (.dd [.nils]))) (hbk : Nat.beq b k = false) :
    Wk (⟨e, h, s⟩ : St σ) ⟨mapT (mapId (killF k)) e, put (put (mapT (Obj.mapId (killF k)) (cut h k)) k (.arr sz (.dd []))) b (.box (.vv [.sl k sz 0 0])), s⟩ := by
  have hk := Nat.le_of_ble_eq_true hk
  have hs := Nat.le_of_ble_eq_true hs
  have hne : b ≠ k := by rintro rfl; simp at hbk
  have h1 : Wk (⟨e, h, s⟩ : St σ) ⟨mapT (mapId (killF k)) e, put (mapT (Obj.mapId (killF k)) (cut h k)) k (.arr sz (.dd [])), s⟩ := by
    intro cx r m L F a w hg
    exact ⟨_, F, hg.newEmpty k sz (by unfold pinned; omega) hs (.dd []) rfl, Tr.refl F w⟩
  refine h1.trans (Wk.reobj b (o := .box (.dd [.nils])) _ (by rw [get_put, if_neg hne, get_mapT, get_cut, if_neg hne, hb]; rfl) (fun yv L F w h => ?_) fun L hb => hb)
  obtain ⟨c, T, hc, x, l', hl, hx, hr⟩ := h
  have hx : x = .slice none 0 0 := hx
  subst hx
  exact ⟨c, T, hc, _, l', hl, ⟨none, 0, rfl, Nat.le_refl _, hs, .inl ⟨rfl, rfl⟩⟩, hr⟩
end

theorem arith_to {k : IntKind} {n : Int} {K : V → Prop} (m : Int) (h : n = m) (hw : k.wrap m = m) (hK : K (.d (.int k m))) : arith k n K := by subst h; exact arith_in hw hK

theorem viewL_inj {g : Nat → Option DO} : ∀ (l : List D), viewL g (inj l) = some l
  | [] => rfl
  | d :: r => by
    show viewL g (.d d :: inj r) = _
    rw [viewL, viewL_inj r]; rfl

section
variable {P : Program} {T : Tys} {σ : Type} {Y : Hd σ}

/-- A call, by what its contract leaves. -/
theorem CallA_y {f : FuncId} {args0 : List V} {h0 : Heap} {s : σ} {Q : V → Heap → σ → Prop} (hf : FnC P Y f args0 h0 s Q) (tb : List Nat) {e : Env} {h : Heap} {d : Option Nat} {args : List V} {K : St σ → Prop}
    (hargs : renL (callR tb (d.getD 0)) args0 = args) (hlent : lentOk (callR tb (d.getD 0)) h 1000000 tb h0) (htb : nodupB tb = true) (hln : Nat.ble tb.length 1000 = true)
    (hq : ∀ v h1 s', Q v h1 s' → callB tb d v h1 = true ∧ applyK (callWs tb d v h1) e h fun e h => K ⟨e, h, s'⟩) : CallA P Y ⟨e, h, s⟩ d f args K := by
  refine callY_of hf tb hargs hlent htb hln fun v h1 s' hv => ?_
  obtain ⟨h2, h3⟩ := hq v h1 s' hv
  refine ⟨h2, ?_⟩
  rw [applyK_eq s'] at h3
  have hs : (applyWs (⟨e, h, s'⟩ : St σ) (callWs tb d v h1)).s = s' := applyWs_s _ _
  generalize applyWs (⟨e, h, s'⟩ : St σ) (callWs tb d v h1) = st at h3 hs
  obtain ⟨e1, h1, s1⟩ := st
  simp only at hs; subst hs; exact h3
end

/-! Values that are equal, number by number. -/
mutual
def sameV : V → V → Prop
  | .d a, .d b => a = b
  | .agg a, .agg b => sameVL a b
  | .tup a, .tup b => sameVL a b
  | .clo f a, .clo g b => f = g ∧ sameVL a b
  | .ptr i o, .ptr j p => Nat.beq i j = true ∧ o = p
  | .ep i s k o, .ep j t l p => Nat.beq i j = true ∧ s = t ∧ k = l ∧ o = p
  | .sl i s o n, .sl j t p m => Nat.beq i j = true ∧ s = t ∧ o = p ∧ n = m
  | .mp i, .mp j => Nat.beq i j = true
  | .it i, .it j => Nat.beq i j = true
  | .yld, .yld => True
  | .unk, .unk => True
  | _, _ => False
def sameVL : List V → List V → Prop
  | [], [] => True
  | a :: r, b :: s => sameV a b ∧ sameVL r s
  | _, _ => False
end

mutual
theorem sameV_eq : ∀ (a b : V), sameV a b → a = b
  | .d a, b, h => by cases b <;> simp only [sameV] at h; rw [h]
  | .agg a, b, h => by cases b <;> simp only [sameV] at h; rw [sameVL_eq _ _ h]
  | .tup a, b, h => by cases b <;> simp only [sameV] at h; rw [sameVL_eq _ _ h]
  | .clo f a, b, h => by cases b <;> simp only [sameV] at h; rw [h.1, sameVL_eq _ _ h.2]
  | .ptr i o, b, h => by cases b <;> simp only [sameV] at h; rw [Nat.eq_of_beq_eq_true h.1, h.2]
  | .ep i s k o, b, h => by cases b <;> simp only [sameV] at h; rw [Nat.eq_of_beq_eq_true h.1, h.2.1, h.2.2.1, h.2.2.2]
  | .sl i s o n, b, h => by cases b <;> simp only [sameV] at h; rw [Nat.eq_of_beq_eq_true h.1, h.2.1, h.2.2.1, h.2.2.2]
  | .mp i, b, h => by cases b <;> simp only [sameV] at h; rw [Nat.eq_of_beq_eq_true h]
  | .it i, b, h => by cases b <;> simp only [sameV] at h; rw [Nat.eq_of_beq_eq_true h]
  | .yld, b, h => by cases b <;> simp only [sameV] at h; rfl
  | .unk, b, h => by cases b <;> simp only [sameV] at h; rfl
theorem sameVL_eq : ∀ (a b : List V), sameVL a b → a = b
  | [], [], _ => rfl
  | a :: r, b :: s, h => by rw [sameV_eq a b h.1, sameVL_eq r s h.2]
  | [], _ :: _, h => h.elim
  | _ :: _, [], h => h.elim
end

theorem box_same {h : Heap} {i : Nat} {l l' : List V} (h1 : get h i = some (.box (.vv l))) (h2 : sameVL l l') : get h i = some (.box (.vv l')) := by rw [h1, sameVL_eq l l' h2]

/-- A nil slice that is returned is an empty one. -/
theorem RetA_nil0 {σ : Type} {r : List V} {h : Heap} {s : σ} {Q : V → Heap → σ → Prop} (hr : RetA (.d (.vs []) :: r) h s Q) : RetA (.d .nils :: r) h s Q := by
  obtain ⟨hr⟩ := hr
  refine ⟨fun cx L F vals w hh hv => hr cx L F vals w hh ?_⟩
  obtain ⟨x, l', rfl, hx, hl⟩ := hv
  have hx : x = .slice none 0 0 := hx
  subst hx
  exact ⟨_, l', rfl, ⟨none, 0, 0, rfl, rfl, Nat.le_refl _, fun h => absurd rfl h⟩, hl⟩

theorem lenAllD_map {α : Type} {n : Nat} {f : α → List D} (hf : ∀ x, Nat.beq (f x).length n = true ∧ allScalarD (f x) = true) : ∀ (l : List α), lenAllD n (l.map f) = true
  | [] => rfl
  | x :: r => by
    simp only [List.map_cons, lenAllD, (hf x).1, (hf x).2]
    exact lenAllD_map hf r

section
variable {P : Program} {T : Tys} {σ : Type} {Y : Hd σ}

/-- Behind a call the state may be put in other words. -/
theorem CallA.wkK {st : St σ} {d : Option Nat} {f : FuncId} {args : List V} {K : St σ → Prop} (h : CallA P Y st d f args fun st1 => ∃ st2, Wk st1 st2 ∧ K st2) : CallA P Y st d f args K := by
  obtain ⟨h1, h2⟩ := h
  refine ⟨h1, fun cx hY r m L F a w vals hg hd hr => (h2 cx hY r m L F a w vals hg hd hr).mono ?_⟩
  rintro e w' ⟨x, rfl, st', L', F', ⟨st2, hw, hk⟩, hg', tr⟩
  obtain ⟨L2, F2, hg2, tr2⟩ := hw cx r m L' F' _ w' hg'
  exact ⟨x, rfl, st2, L2, F2, hk, hg2, Tr.trans tr tr2⟩

/-- A call, by what its contract leaves, in other words. -/
theorem CallA_w {f : FuncId} {args0 : List V} {h0 : Heap} {s : σ} {Q : V → Heap → σ → Prop} (hf : FnC P Y f args0 h0 s Q) (tb : List Nat) {e : Env} {h : Heap} {d : Option Nat} {args : List V} {K : St σ → Prop}
    (hargs : renL (callR tb (d.getD 0)) args0 = args) (hlent : lentOk (callR tb (d.getD 0)) h 1000000 tb h0) (htb : nodupB tb = true) (hln : Nat.ble tb.length 1000 = true)
    (hq : ∀ v h1 s', Q v h1 s' → callB tb d v h1 = true ∧ applyK (callWs tb d v h1) e h fun e h => ∃ st2, Wk ⟨e, h, s'⟩ st2 ∧ K st2) : CallA P Y ⟨e, h, s⟩ d f args K :=
  CallA.wkK (CallA_y hf tb hargs hlent htb hln hq)
end

theorem get_frz {X : Option Obj} {g : Nat → Option DO} {id sz n : Nat} {d : D} (h1 : X = some (replO g (.box (.vv [.sl id sz 0 n])))) (hv : viewV g (.sl id sz 0 n) = some d) : X = some (.box (.dd [d])) := by
  rw [h1]
  simp [replO, replL, repl, hv, dsOf]
theorem Good.frz {σ : Type} {e : Env} {h : Heap} {s : σ} (n : Nat) (ids : List Nat) {cx : Cx σ} {r : Option Nat} {m : List Nat} {L : Loc} {F : Nat → Nat} {a : Act} {w : World} (hg : Good cx r m L F ⟨e, h, s⟩ a w) :
    ∃ F1, Good cx r m L F1 ⟨mapT (repl (objD (keepT ids h) n)) e, mapT (replO (objD (keepT ids h) n)) (cutL h ids), s⟩ a w ∧ Tr F w F1 w ∧ ∀ (vs : List V) (l : List Value), RepVL cx.yv L F w vs l → RepVL cx.yv L F1 w (replL (objD (keepT ids h) n) vs) l := by
  have hsub : SubT (keepT ids h) h := sub_keepT ids h
  have hok : HeapOk cx L F (keepT ids h) s w := (hg.sub (e := e) (h := keepT ids h) (fun _ _ h => h) hsub).heap
  have tr := frzAll_tr hok
  have hF1C : ∀ b, cx.C s b → frzAll L F (keepT ids h) w b = F b := fun b hb => frzAll_C hok hb
  have hF1o : ∀ id o, get h id = some o → id ∉ ids → Backed L id o → frzAll L F (keepT ids h) w (L.ρ id) = F (L.ρ id) := by
    intro id o hi hn hb
    refine frzAll_other ?_
    rintro ⟨j, p, hj, hbj, hij⟩
    have := hg.heap.inj j id p o (hsub j p hj) hi hbj hb hij
    subst this
    exact hn (key_keep ids h j p hj)
  have hfr := frzAll_fresh hok
  have hobj := objD_t hok n
  generalize frzAll L F (keepT ids h) w = F1 at tr hF1C hF1o hfr hobj
  generalize objD (keepT ids h) n = g at hobj
  have hget : ∀ i o', get (mapT (replO g) (cutL h ids)) i = some o' → i ∉ ids ∧ ∃ o0, get h i = some o0 ∧ o' = replO g o0 := by
    intro i o' hi
    rw [get_mapT, get_cutL] at hi
    split at hi
    · cases hi
    · rename_i hn
      cases h0 : get h i with
      | none => simp [h0] at hi
      | some o0 => simp [h0] at hi; exact ⟨hn, o0, rfl, hi.symm⟩
  refine ⟨F1, ⟨⟨cx.stable hg.heap.hg tr hfr fun b hb => ⟨rfl, hF1C b hb⟩, hg.heap.csz, hfr, ?_, ?_, ?_⟩, ?_, hg.dfr, hg.mks, hg.mnd, hg.lk, hg.pin, hg.tsz⟩, tr, fun vs l hv => RepVL.repl tr hobj vs l hv⟩
  · intro i o' hi
    obtain ⟨_, o0, h0, rfl⟩ := hget i o' hi
    exact RepO.repl tr hobj i o0 (hg.heap.obj i o0 h0)
  · intro i o' hi hb
    obtain ⟨hn, o0, h0, rfl⟩ := hget i o' hi
    have hb := (Backed_repl i o0).1 hb
    rw [hF1o i o0 h0 hn hb]
    exact hg.heap.own i o0 h0 hb
  · intro i j o' p hi hj hbi hbj he
    obtain ⟨_, o0, h0, rfl⟩ := hget i o' hi
    obtain ⟨_, p0, hp0, rfl⟩ := hget j p hj
    exact hg.heap.inj i j o0 p0 h0 hp0 ((Backed_repl i o0).1 hbi) ((Backed_repl j p0).1 hbj) he
  · intro t v ht
    simp only [get_mapT] at ht
    cases h0 : get e t with
    | none => simp [h0] at ht
    | some v0 =>
      simp [h0] at ht
      subst ht
      obtain ⟨x, hx, hr⟩ := hg.env t v0 h0
      exact ⟨x, hx, RepV.repl tr hobj v0 x hr⟩

section
variable {P : Program} {T : Tys} {σ : Type} {Y : Hd σ}

/-- A call; what it is given is frozen for good. -/
theorem CallA_frz (n : Nat) (ids : List Nat) {e : Env} {h : Heap} {s : σ} {d : Option Nat} {f : FuncId} {args : List V} {K : St σ → Prop}
    (hc : CallA P Y ⟨mapT (repl (objD (keepT ids h) n)) e, mapT (replO (objD (keepT ids h) n)) (cutL h ids), s⟩ d f (replL (objD (keepT ids h) n) args) K) : CallA P Y ⟨e, h, s⟩ d f args K := by
  obtain ⟨h1, h2⟩ := hc
  refine ⟨h1, fun cx hY r m L F a w vals hg hd hr => ?_⟩
  obtain ⟨F1, hg1, tr, hv⟩ := hg.frz n ids
  refine (h2 cx hY r m L F1 a w vals hg1 hd (hv _ _ hr)).mono ?_
  rintro en w' ⟨x, rfl, st', L', F', hk, hg', tr'⟩
  exact ⟨x, rfl, st', L', F', hk, hg', Tr.trans tr tr'⟩

/-- A call, from a state in other words; its arguments do not name objects. -/
theorem CallA_sub {e e' : Env} {h h' : Heap} {s : σ} {d : Option Nat} {f : FuncId} {args args' : List V} {K : St σ → Prop} (he : subEnv e e') (hh : subHeap h h') (ha : args = args') (hc : CallA P Y ⟨e', h', s⟩ d f args' K) : CallA P Y ⟨e, h, s⟩ d f args K := by
  subst ha
  obtain ⟨h1, h2⟩ := hc
  refine ⟨h1, fun cx hY r m L F a w vals hg hd hr => ?_⟩
  exact h2 cx hY r m L F a w vals (hg.sub (subEnv_t he) (subHeap_t hh)) hd hr
end

theorem repl_sl {g : Nat → Option DO} {id sz n : Nat} {d : D} (hv : viewV g (.sl id sz 0 n) = some d) : repl g (.sl id sz 0 n) = .d d := by
  simp [repl, hv]

section
variable {P : Program} {T : Tys} {σ : Type} {Y : Hd σ}

/-- A call, its arguments in other words. -/
theorem CallA_re {st : St σ} {d : Option Nat} {f : FuncId} {args args' : List V} {K : St σ → Prop} (ha : ∀ (yv : Option Nat) (L : Loc) (F : Nat → Nat) (w : World) (l : List Value), RepVL yv L F w args l → RepVL yv L F w args' l) (hc : CallA P Y st d f args' K) : CallA P Y st d f args K := by
  obtain ⟨h1, h2⟩ := hc
  exact ⟨h1, fun cx hY r m L F a w vals hg hd hr => h2 cx hY r m L F a w vals hg hd (ha _ _ _ _ _ hr)⟩

/-- The first argument is nil: an empty list. -/
theorem CallA_nil0 {st : St σ} {d : Option Nat} {f : FuncId} {r : List V} {K : St σ → Prop} (hc : CallA P Y st d f (.d (.vs []) :: r) K) : CallA P Y st d f (.d .nils :: r) K := by
  refine CallA_re (fun yv L F w l hv => ?_) hc
  obtain ⟨x, l', rfl, hx, hl⟩ := hv
  have hx : x = .slice none 0 0 := hx
  subst hx
  exact ⟨_, l', rfl, ⟨none, 0, 0, rfl, rfl, Nat.le_refl _, fun h => absurd rfl h⟩, hl⟩
end

theorem replL_inj {g : Nat → Option DO} : ∀ (ds : List D), replL g (inj ds) = inj ds
  | [] => rfl
  | d :: r => by
    show repl g (.d d) :: replL g (inj r) = .d d :: inj r
    rw [replL_inj r]; rfl

theorem replL_sl0 {g : Nat → Option DO} {id sz n : Nat} {d : D} {ds : List D} (hv : viewV g (.sl id sz 0 n) = some d) : replL g (.sl id sz 0 n :: inj ds) = .d d :: inj ds := by
  show repl g (.sl id sz 0 n) :: replL g (inj ds) = _
  rw [repl_sl hv, replL_inj]

theorem viewV_sl' {h : Heap} {k id sz n : Nat} {es es' : List (List D)} (hg : get h id = some (.arr sz (.dd es))) (he : es = es') (hn : n = es'.length) : viewV (objD h (k + 1)) (.sl id sz 0 n) = some (.vs es') := by
  subst he; exact viewV_sl hg hn
end Go.PX

/- PX: views of structs, and slices born in them. -/
namespace Go.PX

theorem viewL_app {g : Nat → Option DO} : ∀ {a : List D} {r : List V} {r' : List D}, viewL g r = some r' → viewL g (inj a ++ r) = some (a ++ r')
  | [], r, r', h => h
  | d :: a, r, r', h => by
    show viewL g (.d d :: (inj a ++ r)) = _
    rw [viewL, viewL_app h]; rfl

theorem viewV_ptr {h : Heap} {n id : Nat} {l : List V} {l' : List D} (hg : get h id = some (.box (.vv l))) (hl : viewL (objD h n) l = some l') : viewV (objD h (n + 1)) (.ptr id 0) = some (.ref l') := by
  simp only [viewV, objD, hg, hl, List.drop_zero]

theorem viewV_mp {h : Heap} {n id : Nat} {kvs : List (D × D)} (hg : get h id = some (.map kvs)) : viewV (objD h (n + 1)) (.mp id) = some (.mv kvs) := by
  simp only [viewV, objD, hg]

theorem RepVL.nil_at {yv : Option Nat} {L : Loc} {F : Nat → Nat} {w : World} {B : List V} (k sz : Nat) (hs : 0 < sz) : ∀ {A : List V} {l : List Value}, RepVL yv L F w (A ++ .d .nils :: B) l → RepVL yv L F w (A ++ .sl k sz 0 0 :: B) l
  | [], l, h => by
    obtain ⟨x, l', rfl, hx, hr⟩ := h
    have hx : x = .slice none 0 0 := hx
    subst hx
    exact ⟨_, l', rfl, ⟨none, 0, rfl, Nat.le_refl _, hs, .inl ⟨rfl, rfl⟩⟩, hr⟩
  | a :: A, l, h => by
    obtain ⟨x, l', rfl, hx, hr⟩ := h
    exact ⟨x, l', rfl, hx, RepVL.nil_at k sz hs hr⟩

/-- A struct whose cell holds a nil slice holds one without elements. -/
theorem Wk.bornAt {σ : Type} {e : Env} {h : Heap} {s : σ} (b k sz : Nat) (A B : List V) (hk : Nat.blt k 1000000 = true) (hs : Nat.blt 0 sz = true) (hb : get (mapT (Obj.mapId (killF k)) (cut h k)) b = some (.box (.vv (A ++ .d .nils :: B)))) (hbk : Nat.beq b k = false) :
    Wk (⟨e, h, s⟩ : St σ) ⟨mapT (mapId (killF k)) e, put (put (mapT (Obj.mapId (killF k)) (cut h k)) k (.arr sz (.dd []))) b (.box (.vv (A ++ .sl k sz 0 0 :: B))), s⟩ := by
  have hk := Nat.le_of_ble_eq_true hk
  have hs := Nat.le_of_ble_eq_true hs
  have hne : b ≠ k := by rintro rfl; simp at hbk
  have h1 : Wk (⟨e, h, s⟩ : St σ) ⟨mapT (mapId (killF k)) e, put (mapT (Obj.mapId (killF k)) (cut h k)) k (.arr sz (.dd [])), s⟩ := by
    intro cx r m L F a w hg
    exact ⟨_, F, hg.newEmpty k sz (by unfold pinned; omega) hs (.dd []) rfl, Tr.refl F w⟩
  refine h1.trans (Wk.reobj b (o := .box (.vv (A ++ .d .nils :: B))) _ (by rw [get_put, if_neg hne]; exact hb) (fun yv L F w h => ?_) fun L hb => hb)
  obtain ⟨c, T, hc, hr⟩ := h
  exact ⟨c, T, hc, RepVL.nil_at k sz hs hr⟩
end Go.PX

/- PX: from a contract to a row: what the arguments read, and what is left. -/
namespace Go.PX
open Go.RowKit Go.ChangeShapes

/-- All that lies there is frozen. -/
def topF (W : World) (b : Nat) : Nat := match W.heap[b]? with
  | some (.cells c _ _) => c.size + 1
  | some _ => 1
  | none => 0

def topCx (W : World) : Cx Unit where
  C := fun _ b => b < W.heap.size
  HG := fun _ w F => W.heap.size ≤ w.heap.size ∧ ∀ b, b < W.heap.size → w.heap[b]? = W.heap[b]?
  yv := none
  rcd := none
  pρ := id
  pκ := id
  stable := by
    rintro s w F w' F' ⟨h1, h2⟩ tr hf hk
    exact ⟨Nat.le_trans h1 tr.size, fun b hb => (hk b hb).1.trans (h2 b hb)⟩

/-- Of what was there, nothing turns. -/
structure Still (W W' : World) : Prop where
  os : W'.os = W.os
  output : W'.output = W.output
  size : W.heap.size ≤ W'.heap.size
  heap : ∀ b, b < W.heap.size → W'.heap[b]? = W.heap[b]?

theorem Still.frame {W W' : World} (h : Still W W') (may : MemPlace → Prop) : W.keptBut W' may := by
  refine ⟨h.os, h.output, fun i hi => ?_⟩
  rw [h.heap i hi]
  cases W.heap[i]? with
  | none => rfl
  | some o => cases o with
    | cells c t fr => exact ⟨rfl, rfl, rfl, fun _ _ => rfl⟩
    | map es clock => exact .inr ⟨rfl, rfl⟩
    | _ => rfl

theorem Still.sameAt {W W' : World} (h : Still W W') {p : MemPlace} (hp : p.block < W.heap.size) : W.sameAt W' p := by
  cases p with
  | cell b off =>
    have := h.heap b hp
    simp only [World.sameAt, World.cell?, this]
  | map b => exact h.heap b hp

theorem top {P : Program} {f : FuncId} {ds : List D} {d : D} (h : FnV P f ds d) (W : World) (args : Array Value) (hr : RepDL (topF W) W ds args.toList) :
    Calls P f args W fun e W' => ∃ x, e = .returned x ∧ (∃ F', RepD F' W' d x) ∧ Still W W' := by
  have h1 := (h (σ := Unit) ⟨fun _ _ _ _ => False⟩ ()).run (topCx W) (fun l hl => by cases hl) ⟨id, id⟩ (topF W) args W
    ⟨⟨Nat.le_refl _, fun _ _ => rfl⟩, fun b hb => hb, fun b hb => by simp [topF, Array.getElem?_eq_none hb], fun id o ho => by simp [get] at ho, fun id o ho => by simp [get] at ho, fun i j o p ho => by simp [get] at ho⟩ (RepVL.inj.2 hr)
  refine callsIn_wide.1 (h1.mono ?_)
  rintro e W' ⟨x, rfl, v, h', s', L', F', ⟨⟨rfl, rfl⟩, _⟩, hh, hx, tr, _⟩
  exact ⟨x, rfl, ⟨F', hx⟩, tr.os, tr.output, hh.hg.1, hh.hg.2⟩

/-- Arguments that are only read read as before. -/
theorem trodAll_carry {H : Type} {enc : TypeId × Value → H} {P : Program} {W W' : World} {base : Nat} {sp : Nat → Bool} {held : Bool} : ∀ {ts : List TypeId} {vs : List Value} {ds : List (DataW H)} {ps : List MemPlace},
    DataW.TrodAll enc P W base sp held ts vs ds ps → (∀ p ∈ ps, W.sameAt W' p) → DataW.TrodAll enc P W' base sp held ts vs ds ps
  | [], [], [], _, h, _ => h
  | _ :: _, _ :: _, _ :: _, _, ⟨p, q, ⟨n, h1⟩, h2, e⟩, hs => ⟨p, q, ⟨n, DataW.trod_carry n _ _ _ h1 fun x hx => hs x (by rw [e]; exact List.mem_append_left _ hx)⟩, trodAll_carry h2 (fun x hx => hs x (by rw [e]; exact List.mem_append_right _ hx)), e⟩

/-- What is read of a type is data of a make. -/
structure Rd (P : Program) (W : World) (t : TypeId) (S : List D → Prop) : Prop where
  read : ∀ {H : Type} {enc : TypeId × Value → H} {sp : Nat → Bool} {held : Bool} {fuel : Nat} {cs : List Value} {x : DataW H × List MemPlace}, DataW.trod enc P W 0 sp held fuel t cs = some x → ∃ ds, S ds ∧ RepDL (topF W) W ds cs

section
variable {P : Program} {W : World} {t : TypeId}

theorem Rd.int {k : IntKind} (ht : P.underlying t = some (.int k)) : Rd P W t fun ds => ∃ n, ds = [.int k n] := by
  refine ⟨?_⟩
  intro H enc sp held fuel cs x h
  obtain ⟨n, rfl, _, _⟩ := DataW.trod_int ht h
  exact ⟨[.int k n], ⟨n, rfl⟩, _, [], rfl, rfl, rfl⟩

theorem Rd.bool (ht : P.underlying t = some .bool) : Rd P W t fun ds => ∃ b, ds = [.bool b] := by
  refine ⟨?_⟩
  intro H enc sp held fuel cs x h
  obtain ⟨n, rfl, _⟩ := DataW.trod_bool ht h
  exact ⟨[.bool n], ⟨n, rfl⟩, _, [], rfl, rfl, rfl⟩

theorem Rd.str (ht : P.underlying t = some .string) : Rd P W t fun ds => ∃ s, ds = [.str s] := by
  refine ⟨?_⟩
  intro H enc sp held fuel cs x h
  obtain ⟨n, rfl, _, _⟩ := DataW.trod_string ht h
  exact ⟨[.str n], ⟨n, rfl⟩, _, [], rfl, rfl, rfl⟩

theorem Rd.mono {S S' : List D → Prop} (h : Rd P W t S) (hS : ∀ ds, S ds → S' ds) : Rd P W t S' := by
  refine ⟨?_⟩
  intro H enc sp held fuel cs x hx
  obtain ⟨ds, h1, h2⟩ := h.read hx
  exact ⟨ds, hS ds h1, h2⟩

theorem cell_topF {b off : Nat} {v : Value} (h : W.cell? ⟨b, off, none⟩ = some v) : off < topF W b := by
  unfold World.cell? at h
  unfold topF
  simp only at h
  split at h
  · rename_i c t' f hb
    rw [hb]
    simp only [Option.isSome_none, Bool.false_eq_true, if_false] at h
    obtain ⟨hlt, _⟩ := Array.getElem?_eq_some_iff.1 h
    simp only; omega
  · cases h

theorem repAt_of : ∀ {ds : List D} {cs : List Value} {b off : Nat}, RepDL (topF W) W ds cs → (∀ i v, cs[i]? = some v → W.cell? ⟨b, off + i, none⟩ = some v) → RepAt (topF W) W b off ds
  | [], _, _, _, _, _ => trivial
  | d :: r, _, b, off, h, hc => by
    obtain ⟨x, l', rfl, hd, hl⟩ := h
    have h0 := hc 0 x rfl
    refine ⟨cell_topF h0, ⟨x, h0, hd⟩, repAt_of hl fun i v hv => ?_⟩
    have := hc (i + 1) v hv
    rwa [show off + (i + 1) = off + 1 + i by omega] at this

theorem cells_get {a : Addr} {k : Nat} {cs : List Value} (h : W.cells? 0 a k = some cs) : cs.length = k ∧ ∀ i v, cs[i]? = some v → W.cell? (a.add i) = some v := by
  unfold World.cells? at h
  rw [if_pos (Nat.zero_le _)] at h
  have hl : cs.length = k := by simpa using mapM_some_length h
  refine ⟨hl, fun i v hv => ?_⟩
  have hi : i < k := by
    have := (List.getElem?_eq_some_iff.1 hv).1
    omega
  rw [mapM_some_get h i i (by simp [hi]), hv]

theorem repEs_of {e : TypeId} {S : List D → Prop} {b : Nat} {k : Nat} : ∀ {n : Nat} {off : Nat}, (∀ i, i < n → ∃ cs ds, cs.length = k ∧ (∀ j v, cs[j]? = some v → W.cell? ⟨b, off + i * k + j, none⟩ = some v) ∧ S ds ∧ RepDL (topF W) W ds cs) →
    ∃ es : List (List D), es.length = n ∧ (∀ e ∈ es, S e) ∧ RepEs (topF W) W b off k es
  | 0, off, _ => ⟨[], rfl, fun e h => by (cases h), trivial⟩
  | n + 1, off, h => by
    obtain ⟨cs, ds, h1, h2, h3, h4⟩ := h 0 (by omega)
    obtain ⟨es, g1, g2, g3⟩ := repEs_of (e := e) (S := S) (n := n) (off := off + k) fun i hi => by
      obtain ⟨cs, ds, h1, h2, h3, h4⟩ := h (i + 1) (by omega)
      refine ⟨cs, ds, h1, fun j v hv => ?_, h3, h4⟩
      have := h2 j v hv
      rwa [show off + (i + 1) * k + j = off + k + i * k + j by rw [Nat.add_mul]; omega] at this
    refine ⟨ds :: es, by simp [g1], fun e he => ?_, ?_, ?_, g3⟩
    · rcases List.mem_cons.1 he with rfl | he
      · exact h3
      · exact g2 e he
    · rw [← h4.length, h1]
    · exact repAt_of h4 fun i v hv => by simpa using h2 i v hv

theorem Rd.slice {e : TypeId} {S : List D → Prop} (ht : P.underlying t = some (.slice e)) {k : Nat} (hk : P.cellsOf e = k) (hpos : 0 < k) (he : Rd P W e S) : Rd P W t fun ds => ∃ es, ds = [.vs es] ∧ ∀ e ∈ es, S e := by
  subst hk
  refine ⟨?_⟩
  intro H enc sp held fuel cs x h
  rcases DataW.trod_slice ht h with ⟨rfl, _⟩ | ⟨a, len, cap, elems, rest, n, rfl, rfl, _, _, hl, _, hlen, hel, _, _⟩
  · exact ⟨[.vs []], ⟨[], rfl, fun e h => by (cases h)⟩, _, [], rfl, ⟨none, 0, 0, rfl, rfl, Nat.le_refl _, fun h => absurd rfl h⟩, rfl⟩
  · by_cases h0 : len = 0
    · subst h0
      exact ⟨[.vs []], ⟨[], rfl, fun e h => by (cases h)⟩, _, [], rfl, ⟨some a, 0, cap, rfl, rfl, hl, fun h => absurd rfl h⟩, rfl⟩
    have one : ∀ i, i < len → ∃ cs ds, W.cells? 0 (a.add (i * P.cellsOf e)) (P.cellsOf e) = some cs ∧ S ds ∧ RepDL (topF W) W ds cs := by
      intro i hi
      have h1 := hel i hi
      rw [List.getElem?_eq_getElem (by omega)] at h1
      obtain ⟨cs, h2, h3⟩ := Option.bind_eq_some_iff.1 h1
      obtain ⟨ds, h4, h5⟩ := he.read h3
      exact ⟨cs, ds, h2, h4, h5⟩
    have hs : a.spot = none := by
      obtain ⟨cs, ds, h1, _, h3⟩ := one 0 (by omega)
      obtain ⟨g1, g2⟩ := cells_get h1
      have hlt : 0 < cs.length := by omega
      have := g2 0 cs[0] (List.getElem?_eq_getElem hlt)
      have := World.cell?_spot this
      simpa [Addr.add] using this
    obtain ⟨b, off, spot⟩ := a
    simp only at hs
    subst hs
    obtain ⟨es, g1, g2, g3⟩ := repEs_of (e := e) (S := S) (W := W) (b := b) (k := P.cellsOf e) (n := len) (off := off) fun i hi => by
      obtain ⟨cs, ds, h1, h2, h3⟩ := one i hi
      obtain ⟨k1, k2⟩ := cells_get h1
      refine ⟨cs, ds, k1, fun j v hv => ?_, h2, h3⟩
      have := k2 j v hv
      have e1 : ∀ n m : Nat, (Addr.add ⟨b, n, none⟩ m) = ⟨b, n + m, none⟩ := by
        intro n m
        unfold Addr.add
        split
        · rename_i h; subst h; rfl
        · rfl
      rw [e1, e1] at this
      exact this
    exact ⟨[.vs es], ⟨es, rfl, g2⟩, _, [], rfl, ⟨some ⟨b, off, none⟩, len, cap, rfl, g1.symm, hl, fun _ => ⟨b, off, _, rfl, hpos, g3⟩⟩, rfl⟩

/-- Parts, one behind the other. -/
def AllS : List (List D → Prop) → List D → Prop
  | [], ds => ds = []
  | S :: r, ds => ∃ a b, ds = a ++ b ∧ S a ∧ AllS r b

theorem RepDL.app {F : Nat → Nat} {w : World} : ∀ {a b : List D} {l m : List Value}, RepDL F w a l → RepDL F w b m → RepDL F w (a ++ b) (l ++ m)
  | [], b, l, m, h1, h2 => by
    have : l = [] := h1
    subst this; exact h2
  | d :: a, b, l, m, h1, h2 => by
    obtain ⟨x, l', rfl, hd, hl⟩ := h1
    exact ⟨x, l' ++ m, rfl, hd, RepDL.app hl h2⟩

/-- The fields of a struct, read one by one. -/
inductive RdF (P : Program) (W : World) : List Field → Nat → Nat → List (List D → Prop) → Prop where
  | nil (n : Nat) : RdF P W [] n n []
  | cons {f : Field} {fs : List Field} {off n k : Nat} {S : List D → Prop} {Ss : List (List D → Prop)} (ho : f.offset = off) (hk : P.cellsOf f.type = k) (hf : Rd P W f.type S) (hr : RdF P W fs (off + k) n Ss) : RdF P W (f :: fs) off n (S :: Ss)

theorem rdF_read {fs : List Field} {off n : Nat} {Ss : List (List D → Prop)} (h : RdF P W fs off n Ss) : ∀ {H : Type} {enc : TypeId × Value → H} {sp : Nat → Bool} {held : Bool} {fuel : Nat} {cs : List Value} {xs : List (DataW H × List MemPlace)}, cs.length = n →
    fs.mapM (fun f => DataW.trod enc P W 0 sp held fuel f.type ((cs.drop f.offset).take (P.cellsOf f.type))) = some xs → ∃ ds, AllS Ss ds ∧ RepDL (topF W) W ds (cs.drop off) := by
  induction h with
  | nil m =>
    intro H enc sp held fuel cs xs hn _
    rw [List.drop_eq_nil_of_le (by omega)]
    exact ⟨[], rfl, rfl⟩
  | @cons f fs off m k S Ss ho hk hf hr ih =>
    intro H enc sp held fuel cs xs hn hm
    rw [List.mapM_cons] at hm
    simp only [Option.bind_eq_bind, Option.bind_eq_some_iff, Option.pure_def, Option.some.injEq] at hm
    obtain ⟨y, hy, ys, hys, _⟩ := hm
    obtain ⟨ds1, h1, h2⟩ := hf.read hy
    obtain ⟨ds2, h3, h4⟩ := ih hn hys
    rw [ho, hk] at h2
    refine ⟨ds1 ++ ds2, ⟨ds1, ds2, rfl, h1, h3⟩, ?_⟩
    have h5 := RepDL.app h2 h4
    rwa [show (cs.drop off).take k ++ cs.drop (off + k) = cs.drop off by rw [← List.drop_drop]; exact List.take_append_drop _ _] at h5

theorem Rd.struct {fs : Array Field} {n : Nat} {Ss : List (List D → Prop)} (ht : P.underlying t = some (.struct fs)) (hn : P.cellsOf t = n) (hf : RdF P W fs.toList 0 n Ss) : Rd P W t (AllS Ss) := by
  refine ⟨?_⟩
  intro H enc sp held fuel cs x h
  cases fuel with
  | zero => simp [DataW.trod] at h
  | succ fuel =>
    unfold DataW.trod at h
    rw [ht] at h
    simp only at h
    split at h
    · rename_i hl
      obtain ⟨xs, hxs, _⟩ := Option.map_eq_some_iff.1 h
      obtain ⟨ds, h1, h2⟩ := rdF_read hf (hl.trans hn) hxs
      exact ⟨ds, h1, by simpa using h2⟩
    · cases h
end

/-- A list of parts is a list of things. -/
theorem list_of {α : Type} {f : α → List D} {S : List D → Prop} (h : ∀ ds, S ds → ∃ a, ds = f a) : ∀ {es : List (List D)}, (∀ e ∈ es, S e) → ∃ l : List α, es = l.map f
  | [], _ => ⟨[], rfl⟩
  | e :: r, he => by
    obtain ⟨a, ha⟩ := h e (he e (by simp))
    obtain ⟨l, hl⟩ := list_of h (es := r) fun x hx => he x (by simp [hx])
    exact ⟨a :: l, by rw [ha, hl]; rfl⟩
end Go.PX
