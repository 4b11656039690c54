import Derived.Test.YtifbnniijibfgaaPxG
set_option linter.all false
/- PX: calls. -/
namespace Go.PX
open Go.RowKit

/-- Other numbers for what is named. -/
def renF (R : Nat → Nat) (v : V) : V :=
  match v with
  | .ptr i off => .ptr (R i) off
  | .ep i sz k off => .ep (R i) sz k off
  | .sl i sz off n => .sl (R i) sz off n
  | .mp i => .mp (R i)
  | .it i => .it (R i)
  | v => v

abbrev ren (R : Nat → Nat) (v : V) : V := mapId (renF R) v
abbrev renL (R : Nat → Nat) (v : List V) : List V := mapIdL (renF R) v
abbrev renO (R : Nat → Nat) (o : Obj) : Obj := Obj.mapId (renF R) o

section
variable {yv : Option Nat} {L L' : Loc} {F : Nat → Nat} {w : World} {R : Nat → Nat}

mutual
theorem RepV.ren : ∀ (v : V) (x : Value), (∀ i, namesV v i → L'.ρ (R i) = L.ρ i ∧ L'.κ (R i) = L.κ i) → (RepV yv L' F w (mapId (renF R) v) x ↔ RepV yv L F w v x)
  | .d v, _, _ => Iff.rfl
  | .agg cs, x, hn => by
    constructor
    · rintro ⟨l, rfl, hl⟩; exact ⟨l, rfl, (RepVL.ren cs _ hn).1 hl⟩
    · rintro ⟨l, rfl, hl⟩; exact ⟨l, rfl, (RepVL.ren cs _ hn).2 hl⟩
  | .tup cs, x, hn => by
    constructor
    · rintro ⟨l, rfl, hl⟩; exact ⟨l, rfl, (RepVL.ren cs _ hn).1 hl⟩
    · rintro ⟨l, rfl, hl⟩; exact ⟨l, rfl, (RepVL.ren cs _ hn).2 hl⟩
  | .ptr id off, x, hn => by
    show x = .pointer (some ⟨L'.ρ (R id), off, none⟩) ↔ x = .pointer (some ⟨L.ρ id, off, none⟩)
    rw [(hn id rfl).1]
  | .ep id sz k off, x, hn => by
    show x = .pointer (some ⟨L'.ρ (R id), k * sz + off, none⟩) ↔ x = .pointer (some ⟨L.ρ id, k * sz + off, none⟩)
    rw [(hn id rfl).1]
  | .sl id sz off len, x, hn => by
    show (∃ a cap, x = .slice a len cap ∧ len ≤ cap ∧ 0 < sz ∧ ((len = 0 ∧ cap = 0) ∨ (a = some ⟨L'.ρ (R id), off * sz, none⟩ ∧ (off + cap) * sz ≤ L'.κ (R id)))) ↔
      (∃ a cap, x = .slice a len cap ∧ len ≤ cap ∧ 0 < sz ∧ ((len = 0 ∧ cap = 0) ∨ (a = some ⟨L.ρ id, off * sz, none⟩ ∧ (off + cap) * sz ≤ L.κ id)))
    rw [(hn id rfl).1, (hn id rfl).2]
  | .mp id, x, hn => by
    show x = .map (some (L'.ρ (R id))) ↔ x = .map (some (L.ρ id))
    rw [(hn id rfl).1]
  | .it id, x, hn => by
    show x = .pointer (some ⟨L'.ρ (R id), 0, none⟩) ↔ x = .pointer (some ⟨L.ρ id, 0, none⟩)
    rw [(hn id rfl).1]
  | .clo f cs, x, hn => by
    constructor
    · rintro ⟨l, rfl, hl⟩; exact ⟨l, rfl, (RepVL.ren cs _ hn).1 hl⟩
    · rintro ⟨l, rfl, hl⟩; exact ⟨l, rfl, (RepVL.ren cs _ hn).2 hl⟩
  | .yld, _, _ => Iff.rfl
  | .unk, _, _ => Iff.rfl
theorem RepVL.ren : ∀ (vs : List V) (l : List Value), (∀ i, namesVL vs i → L'.ρ (R i) = L.ρ i ∧ L'.κ (R i) = L.κ i) → (RepVL yv L' F w (mapIdL (renF R) vs) l ↔ RepVL yv L F w vs l)
  | [], _, _ => Iff.rfl
  | v :: r, l, hn => by
    simp only [mapIdL, RepVL]
    constructor
    · rintro ⟨x, l', rfl, hv, hl⟩; exact ⟨x, l', rfl, (RepV.ren v x fun i hi => hn i (.inl hi)).1 hv, (RepVL.ren r l' fun i hi => hn i (.inr hi)).1 hl⟩
    · rintro ⟨x, l', rfl, hv, hl⟩; exact ⟨x, l', rfl, (RepV.ren v x fun i hi => hn i (.inl hi)).2 hv, (RepVL.ren r l' fun i hi => hn i (.inr hi)).2 hl⟩
end

theorem lensAre_mapIdLL {f : V → V} {sz : Nat} {l : List (List V)} : lensAre sz (mapIdLL f l) ↔ lensAre sz l := by
  induction l with
  | nil => exact Iff.rfl
  | cons e r ih =>
    simp only [mapIdLL, lensAre, List.forall_mem_cons, mapIdL_length]
    exact and_congr Iff.rfl ih

theorem mapIdLL_nil {f : V → V} {l : List (List V)} : mapIdLL f l = [] ↔ l = [] := by cases l <;> simp [mapIdLL]

theorem RepO.ren (id : Nat) (o : Obj) (hn : ∀ i, namesO o i → L'.ρ (R i) = L.ρ i ∧ L'.κ (R i) = L.κ i) {id' : Nat} (hid : L'.ρ id' = L.ρ id ∧ L'.κ id' = L.κ id) :
    RepO yv L' F w id' (renO R o) ↔ RepO yv L F w id o := by
  cases o with
  | box c =>
    cases c with
    | dd l =>
      simp only [RepO, Obj.mapId, hid.1, Cells.toV, RepVL.inj]
    | vv l =>
      simp only [RepO, Obj.mapId, hid.1, Cells.toV]
      refine exists_congr fun c => exists_congr fun T => and_congr Iff.rfl (RepVL.ren l _ hn)
  | arr sz es =>
    cases es with
    | dd l =>
      simp only [RepO, Obj.mapId, hid.1, hid.2, Els.toV, injL_flatten, RepVL.inj]
    | vv l =>
      simp only [RepO, Obj.mapId, hid.1, hid.2, Els.toV]
      rw [lensAre_mapIdLL, mapIdLL_nil, mapIdLL_length, mapIdLL_flatten]
      refine and_congr Iff.rfl (and_congr Iff.rfl (or_congr Iff.rfl ?_))
      refine exists_congr fun c => exists_congr fun T => and_congr Iff.rfl (and_congr Iff.rfl (and_congr Iff.rfl (RepVL.ren l.flatten _ hn)))
  | map kvs => simp only [RepO, Obj.mapId, hid.1]
  | iter s n => simp only [RepO, Obj.mapId, hid.1]

theorem Backed_ren (id : Nat) (o : Obj) {id' : Nat} (hk : L'.κ id' = L.κ id) : Backed L' id' (renO R o) ↔ Backed L id o := Backed_map hk o
end

/-- Where the numbers of a callee lead to: what is lent, what is handed back. -/
def callR (tb : List Nat) (d : Nat) (i : Nat) : Nat :=
  match Nat.blt i 1000000 with
  | true => i
  | false => match Nat.blt i 2000000 with
    | true => match tb[i - 1000000]? with
      | some k => k
      | none => 0
    | false => 100000 + 64 * d + (i - 2000000)

/-- The numbers of the new objects. -/
def newKeys : Heap → List Nat
  | [] => []
  | (i, _) :: r => match Nat.blt i 2000000 with
    | true => newKeys r
    | false => i :: newKeys r

def lentWs (R : Nat → Nat) (h' : Heap) : Nat → List Nat → List Wr
  | _, [] => []
  | i, k :: r => (match get h' i with
    | some o => .obj k (renO R o)
    | none => .del k) :: lentWs R h' (i + 1) r

def newWs (R : Nat → Nat) (h' : Heap) : List Nat → List Wr
  | [] => []
  | i :: r => (match get h' i with
    | some o => .new (R i) (renO R o)
    | none => .new (R i) (.box (.dd []))) :: newWs R h' r

/-- What a call does to the caller's state. -/
def callWs (tb : List Nat) (d : Option Nat) (v : V) (h' : Heap) : List Wr :=
  let R := callR tb (d.getD 0)
  newWs R h' (newKeys h') ++ (lentWs R h' 1000000 tb ++ wset d (ren R v))

def nodupB : List Nat → Bool
  | [] => true
  | k :: r => !inL r k && nodupB r

/-- All that is named is lent, or handed back. -/
def allIn (n : Nat) (nk : List Nat) : List Nat → Bool
  | [] => true
  | i :: r => (Nat.ble 1000000 i && Nat.blt i (1000000 + n) || inL nk i) && allIn n nk r

def heapNames : Heap → List Nat
  | [] => []
  | (i, o) :: r => i :: (namesOfO o ++ heapNames r)

/-- The objects that are lent are there. -/
def lentOk (R : Nat → Nat) (h : Heap) : Nat → List Nat → Heap → Prop
  | _, [], h0 => h0 = []
  | i, k :: r, h0 => ∃ o h1, h0 = (i, o) :: h1 ∧ get h k = some (renO R o) ∧ lentOk R h (i + 1) r h1

def callB (tb : List Nat) (d : Option Nat) (v : V) (h' : Heap) : Bool :=
  nodupB tb && Nat.ble (newKeys h').length 64 && nodupB (newKeys h') && disj tb ((newKeys h').map (callR tb (d.getD 0))) && allIn tb.length (newKeys h') (heapNames h') && allIn tb.length (newKeys h') (namesOf v) &&
    (newKeys h').all (fun i => Nat.blt i 2000064) && Nat.ble (d.getD 0) 10000 && Nat.ble tb.length 1000 && newsOk (callWs tb d v h')

/-- A contract that does not hang on what stands around. -/
def FnU (P : Program) (f : FuncId) (args : List V) (h : Heap) (Q : V → Heap → Prop) : Prop :=
  ∀ {σ : Type} (Y : Hd σ) (s : σ), FnC P Y f args h s fun v h' s' => Q v h' ∧ s' = s

theorem nodupB_spec : ∀ {l : List Nat}, nodupB l = true → l.Nodup
  | [], _ => List.nodup_nil
  | k :: r, h => by
    simp only [nodupB, Bool.and_eq_true, Bool.not_eq_true'] at h
    refine List.nodup_cons.2 ⟨fun hm => ?_, nodupB_spec h.2⟩
    rw [inL_iff.2 hm] at h; cases h.1

theorem allIn_spec {n : Nat} {nk : List Nat} : ∀ {l : List Nat}, allIn n nk l = true → ∀ i ∈ l, (1000000 ≤ i ∧ i < 1000000 + n) ∨ i ∈ nk
  | [], _, i, hi => by cases hi
  | k :: r, h, i, hi => by
    simp only [allIn, Bool.and_eq_true, Bool.or_eq_true] at h
    rcases List.mem_cons.1 hi with rfl | hi
    · exact h.1.imp (fun h => ⟨Nat.le_of_ble_eq_true h.1, Nat.le_of_ble_eq_true h.2⟩) inL_iff.1
    · exact allIn_spec h.2 i hi

theorem heapNames_key : ∀ {h : Heap} {i : Nat} {o : Obj}, get h i = some o → i ∈ heapNames h ∧ ∀ x ∈ namesOfO o, x ∈ heapNames h
  | [], i, o, h => by cases h
  | (k, p) :: r, i, o, h => by
    simp only [get] at h
    split at h
    · rename_i he
      have := Nat.eq_of_beq_eq_true he; subst this
      cases h
      exact ⟨by simp [heapNames], fun x hx => by simp [heapNames, hx]⟩
    · obtain ⟨h1, h2⟩ := heapNames_key h
      exact ⟨by simp [heapNames, h1], fun x hx => by simp [heapNames, h2 x hx]⟩

theorem newKeys_ge : ∀ {h : Heap} {i : Nat}, i ∈ newKeys h → 2000000 ≤ i
  | [], i, h => by cases h
  | (k, p) :: r, i, h => by
    simp only [newKeys] at h
    split at h
    · exact newKeys_ge h
    · rename_i hk
      rcases List.mem_cons.1 h with rfl | h
      · rcases Nat.lt_or_ge i 2000000 with hlt | hge
        · rw [show Nat.blt i 2000000 = true from Nat.ble_eq_true_of_le hlt] at hk; cases hk
        · exact hge
      · exact newKeys_ge h

theorem callR_lent {tb : List Nat} {d k id : Nat} (hk : tb[k]? = some id) (hl : tb.length ≤ 1000) : callR tb d (1000000 + k) = id := by
  have hlt : k < tb.length := (List.getElem?_eq_some_iff.1 hk).1
  unfold callR
  have h1 : Nat.blt (1000000 + k) 1000000 = false := by
    rw [Bool.eq_false_iff]; intro h; have := Nat.le_of_ble_eq_true h; omega
  have h2 : Nat.blt (1000000 + k) 2000000 = true := Nat.ble_eq_true_of_le (by omega)
  rw [h1, h2]
  simp only [show 1000000 + k - 1000000 = k by omega, hk]

theorem callR_new {tb : List Nat} {d i : Nat} (hi : 2000000 ≤ i) : callR tb d i = 100000 + 64 * d + (i - 2000000) := by
  unfold callR
  have h1 : Nat.blt i 1000000 = false := by
    rw [Bool.eq_false_iff]; intro h; have := Nat.le_of_ble_eq_true h; omega
  have h2 : Nat.blt i 2000000 = false := by
    rw [Bool.eq_false_iff]; intro h; have := Nat.le_of_ble_eq_true h; omega
  rw [h1, h2]

theorem lentOk_spec {R : Nat → Nat} {h : Heap} : ∀ {tb : List Nat} {b : Nat} {h0 : Heap}, lentOk R h b tb h0 → ∀ i o, get h0 i = some o → ∃ k id, i = b + k ∧ tb[k]? = some id ∧ get h id = some (renO R o)
  | [], b, h0, hl, i, o, hi => by
    have : h0 = [] := hl
    subst this; cases hi
  | id :: r, b, h0, hl, i, o, hi => by
    obtain ⟨o', h1, rfl, hg, hl⟩ := hl
    simp only [get] at hi
    split at hi
    · rename_i he
      have := Nat.eq_of_beq_eq_true he; subst this
      cases hi
      exact ⟨0, id, rfl, by simp, hg⟩
    · obtain ⟨k, id', rfl, hk, hg'⟩ := lentOk_spec hl i o hi
      exact ⟨k + 1, id', by omega, by simpa using hk, hg'⟩

/-- Objects are given up, and what names them is forgotten. -/
def clr {σ : Type} (st : St σ) : List Nat → St σ
  | [] => st
  | i :: r => clr ⟨mapT (mapId (killF i)) st.env, mapT (Obj.mapId (killF i)) (cut st.heap i), st.s⟩ r

def kills : List Nat → V → V
  | [], v => v
  | i :: r, v => kills r (mapId (killF i) v)

def killsO : List Nat → Obj → Obj
  | [], v => v
  | i :: r, v => killsO r (Obj.mapId (killF i) v)

theorem clr_s {σ : Type} : ∀ (l : List Nat) (st : St σ), (clr st l).s = st.s
  | [], _ => rfl
  | _ :: r, st => by rw [clr, clr_s r]

theorem clr_env {σ : Type} : ∀ (l : List Nat) (st : St σ) (x : Nat), get (clr st l).env x = (get st.env x).map (kills l)
  | [], st, x => by cases h : get st.env x <;> simp [clr, kills, h]
  | i :: r, st, x => by
    rw [clr, clr_env r, get_mapT]
    cases h : get st.env x <;> simp [kills]

theorem clr_heap {σ : Type} : ∀ (l : List Nat) (st : St σ) (x : Nat), get (clr st l).heap x = if x ∈ l then none else (get st.heap x).map (killsO l)
  | [], st, x => by cases h : get st.heap x <;> simp [clr, killsO, h]
  | i :: r, st, x => by
    rw [clr, clr_heap r, get_mapT, get_cut]
    by_cases h1 : x ∈ r
    · simp [h1]
    · by_cases h2 : x = i
      · simp [h2]
      · cases h : get st.heap x <;> simp [h1, h2, killsO]

theorem kills_id : ∀ (l : List Nat) (v : V), (∀ i ∈ l, ¬ namesV v i) → kills l v = v
  | [], _, _ => rfl
  | i :: r, v, h => by
    rw [kills, kill_id i v (h i (List.mem_cons_self ..))]
    exact kills_id r v fun j hj => h j (List.mem_cons_of_mem _ hj)

theorem killsO_id : ∀ (l : List Nat) (v : Obj), (∀ i ∈ l, ¬ namesO v i) → killsO l v = v
  | [], _, _ => rfl
  | i :: r, v, h => by
    rw [killsO, killO_id i v (h i (List.mem_cons_self ..))]
    exact killsO_id r v fun j hj => h j (List.mem_cons_of_mem _ hj)

section
variable {σ : Type} {cx : Cx σ} {r : Option Nat} {m : List Nat} {L : Loc} {F : Nat → Nat} {a : Act} {w : World}

theorem Good.clr : ∀ (l : List Nat) {st : St σ}, Good cx r m L F st a w → Good cx r m L F (clr st l) a w
  | [], st, h => h
  | i :: l, st, h => by
    have h1 : Good cx r m L F ⟨st.env, cut st.heap i, st.s⟩ a w := h.del i
    exact Good.clr l (h1.kill i)
end

theorem kill_keeps {e : Env} {h : Heap} (k : Nat) {x : Nat} (hx : x = k ∨ Unn ⟨get e, get h⟩ x) : Unn ⟨get (mapT (mapId (killF k)) e), get (mapT (Obj.mapId (killF k)) (cut h k))⟩ x := by
  refine ⟨?_, fun t v ht hnm => ?_, fun t o ht hnm => ?_⟩
  · show get _ x = none
    rw [get_mapT, get_cut]
    split
    · rfl
    · rename_i hxk
      have : get h x = none := (hx.resolve_left hxk).none
      rw [this]; rfl
  · simp only [get_mapT] at ht
    cases h1 : get e t with
    | none => simp [h1] at ht
    | some v0 =>
      simp [h1] at ht
      subst ht
      obtain ⟨y, h2, rfl, h3⟩ := names_map (kill_on k) v0 x hnm
      exact (hx.resolve_left h3).env t v0 h1 h2
  · simp only [get_mapT, get_cut] at ht
    split at ht
    · cases ht
    · cases h1 : get h t with
      | none => simp [h1] at ht
      | some v0 =>
        simp [h1] at ht
        subst ht
        obtain ⟨y, h2, rfl, h3⟩ := namesO_map (kill_on k) v0 x hnm
        exact (hx.resolve_left h3).heap t v0 h1 h2

theorem clr_unn {σ : Type} : ∀ (l : List Nat) (st : St σ) (B : Nat → Prop), (∀ x, B x → Unn (fsOf st) x) → ∀ x, x ∈ l ∨ B x → Unn (fsOf (clr st l)) x
  | [], st, B, hB, x, hx => hB x (hx.resolve_left (by simp))
  | i :: l, st, B, hB, x, hx => by
    rw [clr]
    refine clr_unn l ⟨mapT (mapId (killF i)) st.env, mapT (Obj.mapId (killF i)) (cut st.heap i), st.s⟩ (fun y => y = i ∨ B y) (fun y hy => kill_keeps i (hy.imp id (hB y))) x ?_
    rcases hx with hx | hx
    · rcases List.mem_cons.1 hx with rfl | hx
      · exact .inr (.inl rfl)
      · exact .inl hx
    · exact .inr (.inr hx)

/-- What is done in truth: first what is to be made is forgotten, then all is written. -/
theorem fs_clear {σ : Type} : ∀ (ws : List Wr) (st : St σ), newsOk ws = true → fsOf (applyWs st ws) = appFs (fsOf (clr st (wNews ws))) ws
  | [], st, _ => rfl
  | w :: r, st, hok => by
    obtain ⟨h1, h2, h3, h4⟩ := newsOk_cons hok
    rw [applyWs, fs_clear r _ h1, appFs]
    congr 1
    have put : ∀ (i : Nat) (o : Obj), (∀ x ∈ wNews r, x ∉ namesOfO o) → (∀ x ∈ wNews r, x ≠ i) → ∀ (e : Env) (h : Heap) (s : σ),
        fsOf (clr (⟨e, put h i o, s⟩ : St σ) (wNews r)) = ⟨(fsOf (clr (⟨e, h, s⟩ : St σ) (wNews r))).env, fun x => if x = i then some o else (fsOf (clr (⟨e, h, s⟩ : St σ) (wNews r))).heap x⟩ := by
      intro i o ho hi e h s
      ext1
      · funext x; simp only [fsOf, clr_env]
      · funext x
        simp only [fsOf, clr_heap, get_put]
        by_cases hx : x = i
        · subst hx
          rw [if_neg (fun hm => hi x hm rfl), if_pos rfl, if_pos rfl]
          simp only [Option.map_some]
          rw [killsO_id _ _ fun j hj hn => ho j hj (namesOfO_mem j o hn)]
        · simp only [hx, if_false]
    cases w with
    | set s v =>
      simp only [applyW, wNews, appF]
      ext1
      · funext x
        simp only [fsOf, clr_env, get_put]
        split
        · simp only [Option.map_some]
          rw [kills_id _ _ fun j hj hn => h2 j hj (by simp [wNames, namesOf_mem j v hn])]
        · rfl
      · funext x; simp only [fsOf, clr_heap]
    | obj i o =>
      simp only [applyW, wNews, appF]
      exact put i o (fun x hx => by simpa [wNames] using h2 x hx) (fun x hx he => by obtain ⟨_, hd⟩ := h3 x hx (by simp [wObjs, he]); cases hd) _ _ _
    | new i o =>
      simp only [applyW, wNews, appF]
      rw [clr]
      exact put i o (fun x hx => by simpa [wNames] using h2 x hx) (fun x hx he => by obtain ⟨_, hd⟩ := h3 x hx (by simp [wObjs, he]); cases hd) _ _ _
    | newq i o => exact absurd rfl (h4 i o)
    | del i =>
      simp only [applyW, wNews, appF]
      ext1
      · funext x; simp only [fsOf, clr_env]
      · funext x
        simp only [fsOf, clr_heap, get_cut]
        by_cases h1 : x = i
        · simp [h1]
        · simp [h1]

theorem wNews_append (a b : List Wr) : wNews (a ++ b) = wNews a ++ wNews b := by
  induction a with
  | nil => rfl
  | cons w r ih => cases w <;> simp [wNews, ih]
theorem appFs_append (f : Fs) (a b : List Wr) : appFs f (a ++ b) = appFs (appFs f a) b := by
  induction a generalizing f with
  | nil => rfl
  | cons w r ih => simp [appFs, ih]
theorem wNews_wset (d : Option Nat) (v : V) : wNews (wset d v) = [] := by cases d <;> rfl
theorem wNews_lent (R : Nat → Nat) (h' : Heap) : ∀ (l : List Nat) (i : Nat), wNews (lentWs R h' i l) = []
  | [], _ => rfl
  | k :: r, i => by
    simp only [lentWs]
    split <;> simp [wNews, wNews_lent R h' r]
theorem wNews_new (R : Nat → Nat) (h' : Heap) : ∀ (l : List Nat), wNews (newWs R h' l) = l.map R
  | [] => rfl
  | k :: r => by
    simp only [newWs]
    split <;> simp [wNews, wNews_new R h' r]

theorem wNews_call (tb : List Nat) (d : Option Nat) (v : V) (h' : Heap) : wNews (callWs tb d v h') = (newKeys h').map (callR tb (d.getD 0)) := by
  simp only [callWs, wNews_append, wNews_new, wNews_lent, wNews_wset, List.append_nil]

/-- The objects that a call writes. -/
theorem lent_heap (R : Nat → Nat) (h' : Heap) : ∀ (l : List Nat) (b : Nat) (f : Fs) (x : Nat) (o : Obj), (appFs f (lentWs R h' b l)).heap x = some o →
    (∃ k o0, l[k]? = some x ∧ get h' (b + k) = some o0 ∧ o = renO R o0) ∨ (x ∉ l ∧ f.heap x = some o)
  | [], b, f, x, o, h => .inr ⟨by simp, h⟩
  | k :: r, b, f, x, o, h => by
    simp only [lentWs, appFs] at h
    rcases lent_heap R h' r (b + 1) _ x o h with ⟨j, o0, h1, h2, h3⟩ | ⟨h1, h2⟩
    · exact .inl ⟨j + 1, o0, by simpa using h1, by rw [show b + (j + 1) = b + 1 + j by omega]; exact h2, h3⟩
    · by_cases hx : x = k
      · subst hx
        left
        split at h2
        · rename_i o0 ho
          simp only [appF, if_true, Option.some.injEq] at h2
          exact ⟨0, o0, by simp, ho, h2.symm⟩
        · simp [appF] at h2
      · right
        refine ⟨by simp [hx, h1], ?_⟩
        split at h2
        · simpa [appF, hx] using h2
        · simpa [appF, hx] using h2

theorem lent_env (R : Nat → Nat) (h' : Heap) : ∀ (l : List Nat) (b : Nat) (f : Fs), (appFs f (lentWs R h' b l)).env = f.env
  | [], b, f => rfl
  | k :: r, b, f => by
    simp only [lentWs, appFs]
    rw [lent_env R h' r]
    split <;> rfl

theorem new_heap (R : Nat → Nat) (h' : Heap) : ∀ (l : List Nat) (f : Fs) (x : Nat) (o : Obj), (∀ i ∈ l, (get h' i).isSome) → (appFs f (newWs R h' l)).heap x = some o →
    (∃ i o0, i ∈ l ∧ x = R i ∧ get h' i = some o0 ∧ o = renO R o0) ∨ (x ∉ l.map R ∧ f.heap x = some o)
  | [], f, x, o, _, h => .inr ⟨by simp, h⟩
  | k :: r, f, x, o, hl, h => by
    simp only [newWs, appFs] at h
    rcases new_heap R h' r _ x o (fun i hi => hl i (List.mem_cons_of_mem _ hi)) h with ⟨i, o0, h1, h2, h3⟩ | ⟨h1, h2⟩
    · exact .inl ⟨i, o0, List.mem_cons_of_mem _ h1, h2, h3⟩
    · obtain ⟨o0, ho⟩ := Option.isSome_iff_exists.1 (hl k (List.mem_cons_self ..))
      simp only [ho, appF] at h2
      by_cases hx : x = R k
      · subst hx
        simp only [if_true, Option.some.injEq] at h2
        exact .inl ⟨k, o0, List.mem_cons_self .., rfl, ho, h2.symm⟩
      · exact .inr ⟨by simpa [hx] using h1, by simpa [hx] using h2⟩

theorem new_env (R : Nat → Nat) (h' : Heap) : ∀ (l : List Nat) (f : Fs), (appFs f (newWs R h' l)).env = f.env
  | [], f => rfl
  | k :: r, f => by
    simp only [newWs, appFs]
    rw [new_env R h' r]
    split <;> rfl

theorem newKeys_mem : ∀ {h : Heap} {i : Nat}, i ∈ newKeys h → (get h i).isSome
  | [], i, h => by cases h
  | (k, p) :: r, i, h => by
    simp only [get]
    split
    · rfl
    · rename_i hk
      refine newKeys_mem ?_
      simp only [newKeys] at h
      split at h
      · exact h
      · rcases List.mem_cons.1 h with rfl | h
        · simp at hk
        · exact h

end Go.PX

/- PX: a call does what its contract says. -/
namespace Go.PX
open Go.RowKit

theorem newsOk_call {tb : List Nat} {d : Option Nat} {v : V} {h' : Heap} (h : callB tb d v h' = true) : newsOk (callWs tb d v h') = true := by
  simp only [callB, Bool.and_eq_true] at h; exact h.2

theorem nodup_get {l : List Nat} (h : l.Nodup) {i j a : Nat} (hi : l[i]? = some a) (hj : l[j]? = some a) : i = j := by
  obtain ⟨hi1, hi2⟩ := List.getElem?_eq_some_iff.1 hi
  obtain ⟨hj1, hj2⟩ := List.getElem?_eq_some_iff.1 hj
  have hp := List.pairwise_iff_getElem.1 h
  rcases Nat.lt_trichotomy i j with hlt | heq | hgt
  · exact absurd (hi2.trans hj2.symm) (hp i j hi1 hj1 hlt)
  · exact heq
  · exact absurd (hj2.trans hi2.symm) (hp j i hj1 hi1 hgt)

/-- The new objects' places. -/
def newLoc (L L' : Loc) (NL : List Nat) (c : Nat) : Loc := ⟨fun x => if x ∈ NL then L'.ρ (x - c + 2000000) else L.ρ x, fun x => if x ∈ NL then L'.κ (x - c + 2000000) else L.κ x⟩

theorem newLoc_old {L L' : Loc} {NL : List Nat} {c x : Nat} (hx : x ∉ NL) : (newLoc L L' NL c).ρ x = L.ρ x ∧ (newLoc L L' NL c).κ x = L.κ x := ⟨if_neg hx, if_neg hx⟩
theorem newLoc_new {L L' : Loc} {NL : List Nat} {c x : Nat} (hx : x ∈ NL) : (newLoc L L' NL c).ρ x = L'.ρ (x - c + 2000000) ∧ (newLoc L L' NL c).κ x = L'.κ (x - c + 2000000) := ⟨if_pos hx, if_pos hx⟩

theorem lent_at {h st h0 : Heap} {R : Nat → Nat} {tb : List Nat} (hh : SubT h st) (hlent : lentOk R h 1000000 tb h0) (Rlent : ∀ k id, tb[k]? = some id → R (1000000 + k) = id) :
    ∀ i o, get h0 i = some o → ∃ k id, i = 1000000 + k ∧ tb[k]? = some id ∧ R i = id ∧ get st id = some (renO R o) := by
  intro i o hi
  obtain ⟨k, id, h1, h2, h3⟩ := lentOk_spec hlent i o hi
  exact ⟨k, id, h1, h2, by rw [h1]; exact Rlent k id h2, hh _ _ h3⟩

theorem fs_s {σ : Type} : ∀ (ws : List Wr) (st st' : St σ), st.env = st'.env → st.heap = st'.heap → fsOf (applyWs st ws) = fsOf (applyWs st' ws)
  | [], ⟨e, h, s⟩, ⟨e', h', s'⟩, h1, h2 => by
    simp only at h1 h2; subst h1; subst h2; rfl
  | w :: r, ⟨e, h, s⟩, ⟨e', h', s'⟩, h1, h2 => by
    simp only at h1 h2; subst h1; subst h2
    rw [applyWs, applyWs]
    exact fs_s r _ _ (by cases w <;> rfl) (by cases w <;> rfl)

theorem Backed_of {L L2 : Loc} {y : Nat} {o : Obj} (h : L2.κ y = L.κ y) (hb : Backed L2 y o) : Backed L y o := by
  cases o with
  | arr sz es => intro e; exact hb (h.trans e)
  | box c => exact trivial
  | map kvs => exact trivial
  | iter s n => exact trivial

/-- The blocks that are lent. -/
def LentB (R : Nat → Nat) (L : Loc) (h0 : Heap) (b : Nat) : Prop := ∃ i o, get h0 i = some o ∧ Backed ⟨fun i => L.ρ (R i), fun i => L.κ (R i)⟩ i o ∧ L.ρ (R i) = b

/-- What a callee leaves, at the caller's frame. -/
theorem good_after {σ : Type} {cx : Cx σ} {r : Option Nat} {m : List Nat} {L : Loc} {F : Nat → Nat} {st : St σ} {a : Act} {w : World} {tb : List Nat} {d : Option Nat} {v : V} {h' : Heap} (hB : callB tb d v h' = true) {R : Nat → Nat} (hR : callR tb (d.getD 0) = R)
    {h h0 : Heap} (hh : SubT h st.heap) (hlent : lentOk R h 1000000 tb h0) (hg : Good cx r m L F st a w) (hd : ∀ k, d = some k → k < a.tmps.size) {s' : σ} {x : Value} {w' : World} {L' : Loc} {F' : Nat → Nat}
    (hHG : cx.HG s' w' F') (hcsz : ∀ b, cx.C s' b → b < w'.heap.size) (hCn : ∀ b, b < w.heap.size → ¬ LentB R L h0 b → ¬ cx.C st.s b → ¬ cx.C s' b)
    (hkeep : ∀ b, b < w.heap.size → ¬ LentB R L h0 b → ¬ cx.C st.s b → w'.heap[b]? = w.heap[b]? ∧ F' b = F b) (hfresh : ∀ b, w'.heap.size ≤ b → F' b = 0)
    (hobj : ∀ i o, get h' i = some o → RepO cx.yv L' F' w' i o)
    (hown : ∀ i o, get h' i = some o → Backed L' i o → F' (L'.ρ i) = 0 ∧ ¬ cx.C s' (L'.ρ i) ∧ (L'.ρ i < w.heap.size → LentB R L h0 (L'.ρ i)))
    (hinj : ∀ i j o p, get h' i = some o → get h' j = some p → Backed L' i o → Backed L' j p → L'.ρ i = L'.ρ j → i = j)
    (hv : RepV cx.yv L' F' w' v x) (tr : Tr F w F' w') (pin : PinEq ⟨fun i => L.ρ (R i), fun i => L.κ (R i)⟩ L') :
    ∃ L2, Good cx r m L2 F' (applyWs ⟨st.env, st.heap, s'⟩ (callWs tb d v h')) (a.put d x) w' := by
  have hnews := newsOk_call hB
  simp only [callB, Bool.and_eq_true] at hB
  obtain ⟨⟨⟨⟨⟨⟨⟨⟨⟨b1, b2⟩, b3⟩, b4⟩, b5⟩, b6⟩, b7⟩, b8⟩, b9⟩, _⟩ := hB
  have htb := nodupB_spec b1
  have b4 := disj_spec b4
  have b5 := allIn_spec b5
  have b6 := allIn_spec b6
  have b7 : ∀ i ∈ newKeys h', i < 2000064 := fun i hi => Nat.le_of_ble_eq_true (List.all_eq_true.1 b7 i hi)
  have b8 := Nat.le_of_ble_eq_true b8
  have b9 := Nat.le_of_ble_eq_true b9
  rw [hR] at b4
  have Rlent : ∀ k id, tb[k]? = some id → R (1000000 + k) = id := fun k id hk => by rw [← hR]; exact callR_lent hk b9
  have Rnew : ∀ i, 2000000 ≤ i → R i = 100000 + 64 * d.getD 0 + (i - 2000000) := fun i hi => by rw [← hR]; exact callR_new hi
  obtain ⟨Lent, hLent⟩ : ∃ Lent, Lent = LentB R L h0 := ⟨_, rfl⟩
  rw [← hLent] at hCn hkeep hown
  have hL0 : ∀ b, Lent b ↔ ∃ i o, get h0 i = some o ∧ Backed ⟨fun i => L.ρ (R i), fun i => L.κ (R i)⟩ i o ∧ L.ρ (R i) = b := fun b => by rw [hLent]; exact Iff.rfl
  have hh0 := lent_at hh hlent Rlent
  have hH0obj : ∀ i o, get h0 i = some o → RepO cx.yv ⟨fun i => L.ρ (R i), fun i => L.κ (R i)⟩ F w i o := fun i o hi => by
    obtain ⟨k, id, rfl, h2, h3, h4⟩ := hh0 i o hi
    have := hg.heap.obj id _ h4
    rw [← h3] at this
    exact (RepO.ren (R := R) (L := ⟨fun i => L.ρ (R i), fun i => L.κ (R i)⟩) (L' := L) (1000000 + k) o (fun _ _ => ⟨rfl, rfl⟩) ⟨rfl, rfl⟩).1 this
  -- where the objects are now
  let NL := (newKeys h').map R
  obtain ⟨L2, hL2⟩ : ∃ L2, L2 = newLoc L L' NL (100000 + 64 * d.getD 0) := ⟨_, rfl⟩
  have L2old : ∀ x, x ∉ NL → L2.ρ x = L.ρ x ∧ L2.κ x = L.κ x := fun x hx => by rw [hL2]; exact newLoc_old hx
  have L2new : ∀ i, i ∈ newKeys h' → L2.ρ (R i) = L'.ρ i ∧ L2.κ (R i) = L'.κ i := by
    intro i hi
    have hge := newKeys_ge hi
    have hm : R i ∈ NL := List.mem_map.2 ⟨i, hi, rfl⟩
    have : R i - (100000 + 64 * d.getD 0) + 2000000 = i := by rw [Rnew i hge]; omega
    have h2 := newLoc_new (L := L) (L' := L') (c := 100000 + 64 * d.getD 0) hm
    rw [this] at h2
    rw [hL2]; exact h2
  have L2lent : ∀ i, 1000000 ≤ i → i < 1000000 + tb.length → L2.ρ (R i) = L'.ρ i ∧ L2.κ (R i) = L'.κ i := by
    intro i h1 h2
    obtain ⟨k, hk'⟩ : ∃ k, i = 1000000 + k := ⟨i - 1000000, by omega⟩
    have hlt : k < tb.length := by omega
    obtain ⟨y, hk⟩ : ∃ y, tb[k]? = some y := ⟨_, List.getElem?_eq_getElem hlt⟩
    have hRi : R i = y := by rw [hk']; exact Rlent _ _ hk
    have hn : R i ∉ NL := by rw [hRi]; exact b4 _ (List.mem_of_getElem? hk)
    obtain ⟨p1, p2⟩ := pin i ⟨h1, by omega⟩
    exact ⟨(L2old _ hn).1.trans p1.symm, (L2old _ hn).2.trans p2.symm⟩
  have L2in : ∀ i, ((1000000 ≤ i ∧ i < 1000000 + tb.length) ∨ i ∈ newKeys h') → L2.ρ (R i) = L'.ρ i ∧ L2.κ (R i) = L'.κ i := fun i hi => hi.elim (fun h => L2lent i h.1 h.2) (L2new i)
  -- what the caller keeps
  have hg1 := hg.clr NL
  have hunn := clr_unn NL st (fun _ => False) (fun _ h => h.elim)
  have hs1 : (clr st NL).s = st.s := clr_s _ _
  have hfs0 : ∀ (ws : List Wr), fsOf (applyWs (⟨st.env, st.heap, s'⟩ : St σ) ws) = fsOf (applyWs st ws) := fun ws => fs_s ws _ _ rfl rfl
  have hfs : fsOf (applyWs st (callWs tb d v h')) = appFs (fsOf (clr st NL)) (callWs tb d v h') := by
    rw [fs_clear _ _ hnews, wNews_call, hR]
  have hNL100 : ∀ x ∈ NL, 100000 ≤ x ∧ x < 1000000 := by
    intro x hx
    obtain ⟨i, hi, rfl⟩ := List.mem_map.1 hx
    have h1 := newKeys_ge hi
    have h2 := b7 i hi
    rw [Rnew i h1]; omega
  -- the state behind the call
  have hws : callWs tb d v h' = newWs R h' (newKeys h') ++ (lentWs R h' 1000000 tb ++ wset d (ren R v)) := by rw [← hR]; rfl
  have henv : ∀ t u, get (applyWs (⟨st.env, st.heap, s'⟩ : St σ) (callWs tb d v h')).env t = some u → (d = some t ∧ u = ren R v) ∨ (d ≠ some t ∧ get (clr st NL).env t = some u) := by
    intro t u ht0
    have ht : (fsOf (applyWs (⟨st.env, st.heap, s'⟩ : St σ) (callWs tb d v h'))).env t = some u := ht0
    clear ht0
    rw [hfs0, hfs, hws, appFs_append, appFs_append] at ht
    cases d with
    | none =>
      simp only [wset, appFs, lent_env, new_env] at ht
      exact .inr ⟨by simp, ht⟩
    | some d =>
      simp only [wset, appFs, appF, lent_env, new_env] at ht
      split at ht
      · rename_i e1; cases ht; exact .inl ⟨by rw [e1], rfl⟩
      · rename_i e1; exact .inr ⟨by simpa using Ne.symm e1, ht⟩
  have hheap : ∀ y o, get (applyWs (⟨st.env, st.heap, s'⟩ : St σ) (callWs tb d v h')).heap y = some o → (∃ i o0, ((1000000 ≤ i ∧ i < 1000000 + tb.length) ∨ i ∈ newKeys h') ∧ y = R i ∧ get h' i = some o0 ∧ o = renO R o0) ∨ (y ∉ tb ∧ y ∉ NL ∧ get (clr st NL).heap y = some o) := by
    intro y o hy
    have hy : (fsOf (applyWs (⟨st.env, st.heap, s'⟩ : St σ) (callWs tb d v h'))).heap y = some o := hy
    rw [hfs0, hfs, hws, appFs_append, appFs_append] at hy
    have hy : (appFs (appFs (fsOf (clr st NL)) (newWs R h' (newKeys h'))) (lentWs R h' 1000000 tb)).heap y = some o := by
      cases d with
      | none => exact hy
      | some d => exact hy
    rcases lent_heap R h' tb 1000000 _ y o hy with ⟨k, o0, k1, k2, k3⟩ | ⟨k1, k2⟩
    · have hk : k < tb.length := (List.getElem?_eq_some_iff.1 k1).1
      exact .inl ⟨1000000 + k, o0, .inl ⟨by omega, by omega⟩, (Rlent k y k1).symm, k2, k3⟩
    · rcases new_heap R h' (newKeys h') _ y o (fun i hi => newKeys_mem hi) k2 with ⟨i, o0, j1, j2, j3, j4⟩ | ⟨j1, j2⟩
      · exact .inl ⟨i, o0, .inr j1, j2, j3, j4⟩
      · exact .inr ⟨k1, j1, j2⟩
  have rest : ∀ y o, y ∉ tb → y ∉ NL → get (clr st NL).heap y = some o → Backed L y o → ¬ Lent (L.ρ y) := by
    intro y o h1 h2 hy hb hlb
    obtain ⟨i, o', hi, hbi, hij⟩ := (hL0 _).1 hlb
    obtain ⟨k, id, g1, g2, g3, g4⟩ := hh0 i o' hi
    have hidNL : id ∉ NL := b4 _ (List.mem_of_getElem? g2)
    have hclr : get (clr st NL).heap id = some (killsO NL (renO R o')) := by
      rw [clr_heap, if_neg hidNL, g4]; rfl
    have hb1 : Backed L id (renO R o') := by rw [← g3]; exact (Backed_ren (R := R) (L := ⟨fun i => L.ρ (R i), fun i => L.κ (R i)⟩) (L' := L) i o' rfl).2 hbi
    have hkb : ∀ (l : List Nat) (p : Obj), Backed L id p → Backed L id (killsO l p) := by
      intro l
      induction l with
      | nil => exact fun p hp => hp
      | cons i r ih => exact fun p hp => ih _ ((Backed_kill L i id p).2 hp)
    have := hg1.heap.inj id y _ o hclr hy (hkb NL _ hb1) hb (by rw [← g3]; exact hij)
    subst this
    exact h1 (List.mem_of_getElem? g2)
  have hs2 : (applyWs (⟨st.env, st.heap, s'⟩ : St σ) (callWs tb d v h')).s = s' := applyWs_s _ _
  have trk : Tr F w F' w' := tr
  refine ⟨L2, ⟨by rw [hs2]; exact hHG, fun b hb => hcsz b (by rw [← hs2]; exact hb), hfresh, ?_, ?_, ?_⟩, ?_, ?_, ?_, hg.mnd, ?_, ?_, ?_⟩
  · intro y o hy
    rcases hheap y o hy with ⟨i, o0, hi, rfl, h2, rfl⟩ | ⟨h1, h2, h3⟩
    · have := hobj i o0 h2
      refine (RepO.ren (R := R) (L := L') (L' := L2) i o0 (fun j hj => L2in j (b5 j ((heapNames_key h2).2 j (namesOfO_mem j o0 hj)))) (L2in i hi)).2 this
    · refine RepO.mono tr y o (fun j hj => L2old j fun hm => (hunn j (.inl hm)).heap y o h3 hj) (L2old y h2) (fun hb => ?_) (hg1.heap.obj y o h3)
      exact (hkeep _ ((hg1.heap.obj y o h3).lt hb) (rest y o h1 h2 h3 hb) (by rw [← hs1]; exact (hg1.heap.own y o h3 hb).2)).1
  · intro y o hy hb
    rcases hheap y o hy with ⟨i, o0, hi, rfl, h2, rfl⟩ | ⟨h1, h2, h3⟩
    · have hb' : Backed L' i o0 := (Backed_ren (R := R) (L := L') (L' := L2) i o0 (L2in i hi).2).1 hb
      obtain ⟨k1, k2, _⟩ := hown i o0 h2 hb'
      rw [(L2in i hi).1]
      exact ⟨k1, by rw [hs2]; exact k2⟩
    · have hb' : Backed L y o := Backed_of (L2old y h2).2 hb
      obtain ⟨k1, k2⟩ := hg1.heap.own y o h3 hb'
      rw [(L2old y h2).1]
      rw [hs1] at k2
      have hlt := (hg1.heap.obj y o h3).lt hb'
      have hr := rest y o h1 h2 h3 hb'
      exact ⟨(hkeep _ hlt hr k2).2.trans k1, by rw [hs2]; exact hCn _ hlt hr k2⟩
  · intro y z o p hy hz hby hbz hyz
    have out : ∀ y o, y ∉ tb → y ∉ NL → get (clr st NL).heap y = some o → Backed L2 y o → Backed L y o ∧ (L.ρ y < w.heap.size ∧ ¬ Lent (L.ρ y)) ∧ L2.ρ y = L.ρ y := by
      intro y o h1 h2 h3 hb
      have hb' : Backed L y o := Backed_of (L2old y h2).2 hb
      exact ⟨hb', ⟨(hg1.heap.obj y o h3).lt hb', rest y o h1 h2 h3 hb'⟩, (L2old y h2).1⟩
    rcases hheap y o hy with ⟨i, o0, hi, rfl, h2, rfl⟩ | ⟨h1, h2, h3⟩ <;> rcases hheap z p hz with ⟨j, p0, hj, rfl, g2, rfl⟩ | ⟨g1, g2, g3⟩
    · have hb1 : Backed L' i o0 := (Backed_ren (R := R) (L := L') (L' := L2) i o0 (L2in i hi).2).1 hby
      have hb2 : Backed L' j p0 := (Backed_ren (R := R) (L := L') (L' := L2) j p0 (L2in j hj).2).1 hbz
      rw [(L2in i hi).1, (L2in j hj).1] at hyz
      rw [hinj i j o0 p0 h2 g2 hb1 hb2 hyz]
    · exfalso
      have hb1 : Backed L' i o0 := (Backed_ren (R := R) (L := L') (L' := L2) i o0 (L2in i hi).2).1 hby
      obtain ⟨q1, q2, q3⟩ := out z p g1 g2 g3 hbz
      rw [(L2in i hi).1, q3] at hyz
      exact q2.2 (by rw [← hyz]; exact (hown i o0 h2 hb1).2.2 (by rw [hyz]; exact q2.1))
    · exfalso
      have hb2 : Backed L' j p0 := (Backed_ren (R := R) (L := L') (L' := L2) j p0 (L2in j hj).2).1 hbz
      obtain ⟨q1, q2, q3⟩ := out y o h1 h2 h3 hby
      rw [(L2in j hj).1, q3] at hyz
      exact q2.2 (by rw [hyz]; exact (hown j p0 g2 hb2).2.2 (by rw [← hyz]; exact q2.1))
    · obtain ⟨q1, q2, q3⟩ := out y o h1 h2 h3 hby
      obtain ⟨q4, q5, q6⟩ := out z p g1 g2 g3 hbz
      rw [q3, q6] at hyz
      exact hg1.heap.inj y z o p h3 g3 q1 q4 hyz
  · intro t u ht
    rcases henv t u ht with ⟨rfl, rfl⟩ | ⟨h1, h2⟩
    · refine ⟨x, ?_, ?_⟩
      · simp [Act.put, Array.getElem?_setIfInBounds, hd t rfl]
      · exact (RepV.ren (R := R) (L := L') (L' := L2) v x fun j hj => L2in j (b6 j (namesOf_mem j v hj))).2 hv
    · obtain ⟨y, hy, hry⟩ := hg1.env t u h2
      refine ⟨y, ?_, RepV.mono tr u y (fun j hj => L2old j fun hm => (hunn j (.inl hm)).env t u h2 hj) hry⟩
      cases d with
      | none => exact hy
      | some d =>
        simp only [Act.put]
        rw [Array.getElem?_setIfInBounds_ne (by rintro rfl; exact h1 rfl)]; exact hy
  · cases d with
    | none => exact hg.dfr
    | some d => exact hg.dfr
  · intro b hb
    obtain ⟨k1, k2⟩ := hg.mks b hb
    have hnl : ¬ Lent b := ?_
    · refine ⟨?_, by rw [hs2]; exact hCn b (block_lt k1) hnl k2⟩
      rw [(hkeep b (block_lt k1) hnl k2).1]; exact k1
    intro hlb
    obtain ⟨i, o, hi, hbk, rfl⟩ := (hL0 _).1 hlb
    have := hH0obj i o hi
    cases o with
    | box c => obtain ⟨c', T, hc, _⟩ := this; rw [k1] at hc; cases hc
    | arr sz es =>
      obtain ⟨_, _, h⟩ := this
      rcases h with ⟨_, hk⟩ | ⟨c, T, hc, _⟩
      · exact hbk hk
      · rw [k1] at hc; cases hc
    | map kvs => obtain ⟨en, c, hc, _⟩ := this; rw [k1] at hc; cases hc
    | iter s n => have hc : w.heap[L.ρ (R i)]? = _ := this; rw [k1] at hc; cases hc
  · intro l hl
    obtain ⟨lp, ⟨k1, k0⟩, k2⟩ := hg.lk l hl
    have hnl : ¬ Lent l := ?_
    · refine ⟨lp, ⟨?_, k0⟩, by rw [hs2]; exact hCn l (block_lt k1) hnl k2⟩
      rw [(hkeep l (block_lt k1) hnl k2).1]; exact k1
    intro hlb
    obtain ⟨i, o, hi, hbk, rfl⟩ := (hL0 _).1 hlb
    have := hH0obj i o hi
    cases o with
    | box c => obtain ⟨c', T, hc, _⟩ := this; rw [k1] at hc; cases hc
    | arr sz es =>
      obtain ⟨_, _, h⟩ := this
      rcases h with ⟨_, hk⟩ | ⟨c, T, hc, _⟩
      · exact hbk hk
      · rw [k1] at hc; cases hc
    | map kvs => obtain ⟨en, c, hc, _⟩ := this; rw [k1] at hc; cases hc
    | iter s n => have hc : w.heap[L.ρ (R i)]? = _ := this; rw [k1] at hc; cases hc
  · intro i hi
    have hn : i ∉ NL := fun hm => by have := hNL100 i hm; unfold pinned at hi; omega
    rw [(L2old i hn).1, (L2old i hn).2]
    exact hg.pin i hi
  · rw [put_size]; exact hg.tsz

/-- What is lent, as the callee gets it. -/
theorem heap_lent {σ : Type} {cx : Cx σ} {r : Option Nat} {m : List Nat} {L : Loc} {F : Nat → Nat} {st : St σ} {a : Act} {w : World} {tb : List Nat} {R : Nat → Nat} {h h0 : Heap} (hh : SubT h st.heap) (hlent : lentOk R h 1000000 tb h0)
    (Rlent : ∀ k id, tb[k]? = some id → R (1000000 + k) = id) (htb : tb.Nodup) (hg : Good cx r m L F st a w) :
    HeapOk cx ⟨fun i => L.ρ (R i), fun i => L.κ (R i)⟩ F h0 st.s w := by
  have hh0 := lent_at hh hlent Rlent
  refine ⟨hg.heap.hg, hg.heap.csz, hg.heap.fresh, fun i o hi => ?_, fun i o hi hbk => ?_, fun i j o p hi hj hbi hbj hij => ?_⟩
  · obtain ⟨k, id, rfl, h2, h3, h4⟩ := hh0 i o hi
    have := hg.heap.obj id _ h4
    rw [← h3] at this
    exact (RepO.ren (R := R) (L := ⟨fun i => L.ρ (R i), fun i => L.κ (R i)⟩) (L' := L) (1000000 + k) o (fun _ _ => ⟨rfl, rfl⟩) ⟨rfl, rfl⟩).1 this
  · obtain ⟨k, id, h1, h2, h3, h4⟩ := hh0 i o hi
    have hb' : Backed L id (renO R o) := by rw [← h3]; exact (Backed_ren (R := R) (L := ⟨fun i => L.ρ (R i), fun i => L.κ (R i)⟩) (L' := L) i o rfl).2 hbk
    obtain ⟨k1, k2⟩ := hg.heap.own id _ h4 hb'
    rw [← h3] at k1 k2
    exact ⟨k1, k2⟩
  · obtain ⟨k, id, h1, h2, h3, h4⟩ := hh0 i o hi
    obtain ⟨k', id', h1', h2', h3', h4'⟩ := hh0 j p hj
    have hb1 : Backed L id (renO R o) := by rw [← h3]; exact (Backed_ren (R := R) (L := ⟨fun i => L.ρ (R i), fun i => L.κ (R i)⟩) (L' := L) i o rfl).2 hbi
    have hb2 : Backed L id' (renO R p) := by rw [← h3']; exact (Backed_ren (R := R) (L := ⟨fun i => L.ρ (R i), fun i => L.κ (R i)⟩) (L' := L) j p rfl).2 hbj
    have hij : L.ρ (R i) = L.ρ (R j) := hij
    have := hg.heap.inj id id' _ _ h4 h4' hb1 hb2 (by rw [← h3, ← h3']; exact hij)
    subst this
    rw [h1, h1', nodup_get htb h2 h2']

/-- What stands around a callee: what stands around the caller, and what is the caller's own and not lent. -/
def lendCx {σ : Type} (cx : Cx σ) (s0 : σ) (w : World) (F : Nat → Nat) (Lent : Nat → Prop) : Cx σ where
  C := fun s b => cx.C s b ∨ (b < w.heap.size ∧ ¬ Lent b)
  HG := fun s w' F' => cx.HG s w' F' ∧ w.heap.size ≤ w'.heap.size ∧ (∀ b, b < w.heap.size → ¬ cx.C s0 b → ¬ cx.C s b) ∧ ∀ b, b < w.heap.size → ¬ Lent b → ¬ cx.C s0 b → w'.heap[b]? = w.heap[b]? ∧ F' b = F b
  yv := cx.yv
  rcd := cx.rcd
  pρ := cx.pρ
  pκ := cx.pκ
  stable := by
    rintro s w1 F1 w2 F2 ⟨h1, h0, h2, h3⟩ tr hf hk
    refine ⟨cx.stable h1 tr hf fun b hb => hk b (.inl hb), Nat.le_trans h0 tr.size, h2, fun b hb hl hc => ?_⟩
    obtain ⟨k1, k2⟩ := hk b (.inr ⟨hb, hl⟩)
    obtain ⟨k3, k4⟩ := h3 b hb hl hc
    exact ⟨k1.trans k3, k2.trans k4⟩

theorem block_some {w : World} {b : Nat} (h : b < w.heap.size) : ∃ o, w.heap[b]? = some o := ⟨_, Array.getElem?_eq_getElem h⟩

theorem lendCx_handles {σ : Type} {P : Program} {Y : Hd σ} {cx : Cx σ} {s0 : σ} {w : World} {F : Nat → Nat} {Lent : Nat → Prop} (hY : Handles P Y cx) : Handles P Y (lendCx cx s0 w F Lent) := by
  intro l hl args h s Q hy L1 F1 vals w1 hh hr
  obtain ⟨hHG, hsz, hCn, hkeep⟩ := hh.hg
  obtain ⟨fn, tmps, asg, body, h1, h2⟩ := hY l hl args h s Q hy L1 F1 vals w1 ⟨hHG, fun b hb => hh.csz b (.inl hb), hh.fresh, hh.obj, fun id o ho hb => ⟨(hh.own id o ho hb).1, fun hC => (hh.own id o ho hb).2 (.inl hC)⟩, hh.inj⟩ hr
  refine ⟨fn, tmps, asg, body, h1, h2.mono ?_⟩
  rintro e w' ⟨x, he, v, h', s', L', F', hq, hh', hv, tr, pin, k1, k2, k3⟩
  have hin : ∀ b, b < w.heap.size → ¬ Lent b → b < w1.heap.size ∧ ∀ id o, get h id = some o → Backed L1 id o → L1.ρ id ≠ b := fun b hb hl =>
    ⟨hh.csz b (.inr ⟨hb, hl⟩), fun id o ho hbk e => (hh.own id o ho hbk).2 (.inr ⟨by rw [e]; exact hb, by rw [e]; exact hl⟩)⟩
  refine ⟨x, he, v, h', s', L', F', hq, ⟨⟨hh'.hg, Nat.le_trans hsz tr.size, fun b hb hc => k1 b (Nat.lt_of_lt_of_le hb hsz) (hCn b hb hc), fun b hb hl hc => ?_⟩, fun b hb => ?_, hh'.fresh, hh'.obj, fun id o ho hb => ⟨(hh'.own id o ho hb).1, fun hC => ?_⟩, hh'.inj⟩, hv, tr, pin, fun b hb hC hC' => ?_, fun b hb hC => k2 b hb (fun h => hC (.inl h)), k3⟩
  · obtain ⟨p1, p2⟩ := hin b hb hl
    obtain ⟨q1, q2⟩ := hkeep b hb hl hc
    obtain ⟨r1, r2⟩ := k2 b p1 (hCn b hb hc) p2
    exact ⟨r1.trans q1, r2.trans q2⟩
  · rcases hb with hb | ⟨hb, hl⟩
    · exact hh'.csz b hb
    · exact Nat.lt_of_lt_of_le (hin b hb hl).1 tr.size
  · rcases hC with hC | ⟨c1, c2⟩
    · exact (hh'.own id o ho hb).2 hC
    · obtain ⟨p1, p2⟩ := hin _ c1 c2
      obtain ⟨id', o', ho', hb', e⟩ := k3 id o ho hb p1
      exact p2 id' o' ho' hb' e
  · rcases hC' with hC' | hC'
    · exact k1 b hb (fun h => hC (.inl h)) hC'
    · exact hC (.inr hC')

/-- A call, at a caller's frame. -/
theorem call_run {σ : Type} {P : Program} {Y : Hd σ} {f : FuncId} {args0 : List V} {h0 : Heap} {Q : V → Heap → σ → Prop} {cx : Cx σ} {r : Option Nat} {m : List Nat} {L : Loc} {F : Nat → Nat} {st : St σ} {a : Act} {w : World} (hf : FnC P Y f args0 h0 st.s Q)
    (tb : List Nat) {h : Heap} {d : Option Nat} {args : List V} (hargs : renL (callR tb (d.getD 0)) args0 = args) (hlent : lentOk (callR tb (d.getD 0)) h 1000000 tb h0) (htb : nodupB tb = true) (hln : Nat.ble tb.length 1000 = true)
    (hY : Handles P Y cx) (hh : SubT h st.heap) (hg : Good cx r m L F st a w) (hd : ∀ k, d = some k → k < a.tmps.size) {vals : Array Value} (hr : RepVL cx.yv L F w args vals.toList) :
    CallsIn Fence.wide 0 P f vals w fun e w' => ∃ x, e = .returned x ∧ ∃ v h' s', Q v h' s' ∧ (callB tb d v h' = true → ∃ L2 F', Good cx r m L2 F' (applyWs ⟨st.env, st.heap, s'⟩ (callWs tb d v h')) (a.put d x) w' ∧ Tr F w F' w') := by
  have htb := nodupB_spec htb
  have hln := Nat.le_of_ble_eq_true hln
  obtain ⟨R, hR⟩ : ∃ R, R = callR tb (d.getD 0) := ⟨_, rfl⟩
  have Rlent : ∀ k id, tb[k]? = some id → R (1000000 + k) = id := fun k id hk => by rw [hR]; exact callR_lent hk hln
  rw [← hR] at hargs hlent
  subst hargs
  have hH := heap_lent hh hlent Rlent htb hg
  have hH0 : HeapOk (lendCx cx st.s w F (LentB R L h0)) ⟨fun i => L.ρ (R i), fun i => L.κ (R i)⟩ F h0 st.s w :=
    ⟨⟨hg.heap.hg, Nat.le_refl _, fun b hb hc => hc, fun b hb hl hc => ⟨rfl, rfl⟩⟩, fun b hb => hb.elim (hg.heap.csz b) (fun h => h.1), hH.fresh, hH.obj, fun i o hi hbk => ⟨(hH.own i o hi hbk).1, fun hC => hC.elim (hH.own i o hi hbk).2 fun hC => hC.2 ⟨i, o, hi, hbk, rfl⟩⟩, hH.inj⟩
  have hargs' : RepVL cx.yv ⟨fun i => L.ρ (R i), fun i => L.κ (R i)⟩ F w args0 vals.toList := (RepVL.ren (R := R) args0 _ fun _ _ => ⟨rfl, rfl⟩).1 hr
  have hcall := hf.run _ (lendCx_handles hY) _ F vals w hH0 hargs'
  refine hcall.mono ?_
  rintro en w' ⟨x, rfl, v, h', s', L', F', hq, hH', hv, tr, pin⟩
  refine ⟨x, rfl, v, h', s', hq, fun hB => ?_⟩
  obtain ⟨hHG, _, hCn, hkeep⟩ := hH'.hg
  obtain ⟨L2, hg2⟩ := good_after hB hR.symm hh hlent hg hd hHG (fun b hb => hH'.csz b (.inl hb)) (fun b hb hl hc => hCn b hb hc) hkeep hH'.fresh hH'.obj
    (fun i o hi hb => ⟨(hH'.own i o hi hb).1, fun hC => (hH'.own i o hi hb).2 (.inl hC), fun hlt => Classical.byContradiction fun hl => (hH'.own i o hi hb).2 (.inr ⟨hlt, hl⟩)⟩)
    hH'.inj hv tr pin
  exact ⟨L2, F', hg2, tr⟩

/-- A contract, at a caller's frame. -/
theorem outCall_of {P : Program} {f : FuncId} {args0 : List V} {h0 : Heap} {v0 : V} {h1 : Heap} (hf : FnU P f args0 h0 fun v h' => v = v0 ∧ h' = h1) (tb : List Nat) {e : Env} {h : Heap} {d : Option Nat} {args : List V}
    (hargs : renL (callR tb (d.getD 0)) args0 = args) (hlent : lentOk (callR tb (d.getD 0)) h 1000000 tb h0) (hB : callB tb d v0 h1 = true) : OutCall P e h d f args (callWs tb d v0 h1) := by
  refine ⟨(hf (σ := Unit) ⟨fun _ _ _ _ => False⟩ ()).enter, ?_⟩
  intro σ cx r m L F st a w vals he hh hg hd hr
  have hB0 := hB
  simp only [callB, Bool.and_eq_true] at hB0
  obtain ⟨⟨⟨⟨⟨⟨⟨⟨⟨b1, b2⟩, b3⟩, b4⟩, b5⟩, b6⟩, b7⟩, b8⟩, b9⟩, _⟩ := hB0
  refine (call_run (hf (⟨fun _ _ _ _ => False⟩ : Hd σ) st.s) tb hargs hlent b1 b9 (fun _ _ _ _ _ _ hy => hy.elim) hh hg hd hr).mono ?_
  rintro en w' ⟨x, rfl, v, h', s', ⟨⟨rfl, rfl⟩, rfl⟩, hk⟩
  obtain ⟨L2, F', hg2, tr⟩ := hk hB
  exact ⟨x, rfl, L2, F', hg2, tr⟩

/-- A call that may call yield. -/
theorem callY_of {σ : Type} {P : Program} {Y : Hd σ} {f : FuncId} {args0 : List V} {h0 : Heap} {s : σ} {Q : V → Heap → σ → Prop} (hf : FnC P Y f args0 h0 s Q) (tb : List Nat) {e : Env} {h : Heap} {d : Option Nat} {args : List V} {K : St σ → Prop}
    (hargs : renL (callR tb (d.getD 0)) args0 = args) (hlent : lentOk (callR tb (d.getD 0)) h 1000000 tb h0) (htb : nodupB tb = true) (hln : Nat.ble tb.length 1000 = true)
    (hq : ∀ v h1 s', Q v h1 s' → callB tb d v h1 = true ∧ K (applyWs ⟨e, h, s'⟩ (callWs tb d v h1))) : CallA P Y ⟨e, h, s⟩ d f args K := by
  refine ⟨hf.enter, fun cx hY r m L F a w vals hg hd hr => ?_⟩
  refine (call_run (st := ⟨e, h, s⟩) hf tb hargs hlent htb hln hY (fun _ _ h => h) hg hd hr).mono ?_
  rintro en w' ⟨x, rfl, v, h', s', hv, hk⟩
  obtain ⟨hB, hK⟩ := hq _ _ _ hv
  obtain ⟨L2, F', hg2, tr⟩ := hk hB
  exact ⟨x, rfl, _, L2, F', hK, hg2, tr⟩

/-- A call of yield. -/
theorem yldY_of {σ : Type} {P : Program} {Y : Hd σ} {args0 : List V} {h0 : Heap} {s : σ} {Q : V → Heap → σ → Prop} (tb : List Nat) {e : Env} {h : Heap} {d : Option Nat} {args : List V} {K : St σ → Prop} (hy : Y.y args0 h0 s Q)
    (hargs : renL (callR tb (d.getD 0)) args0 = args) (hlent : lentOk (callR tb (d.getD 0)) h 1000000 tb h0) (htb : nodupB tb = true) (hln : Nat.ble tb.length 1000 = true)
    (hq : ∀ v h1 s', Q v h1 s' → callB tb d v h1 = true ∧ K (applyWs ⟨e, h, s'⟩ (callWs tb d v h1))) : YldA P Y ⟨e, h, s⟩ d args K := by
  refine ⟨fun cx hY l hl r m L F a w vals hg hd hr => ?_⟩
  have htb := nodupB_spec htb
  have hln := Nat.le_of_ble_eq_true hln
  obtain ⟨R, hR⟩ : ∃ R, R = callR tb (d.getD 0) := ⟨_, rfl⟩
  have Rlent : ∀ k id, tb[k]? = some id → R (1000000 + k) = id := fun k id hk => by rw [hR]; exact callR_lent hk hln
  rw [← hR] at hargs hlent
  subst hargs
  have hH := heap_lent (st := ⟨e, h, s⟩) (fun _ _ h => h) hlent Rlent htb hg
  obtain ⟨fn, tmps, asg, body, h1, h2⟩ := hY l hl args0 h0 s Q hy ⟨fun i => L.ρ (R i), fun i => L.κ (R i)⟩ F vals w hH ((RepVL.ren (R := R) args0 _ fun _ _ => ⟨rfl, rfl⟩).1 hr)
  refine ⟨fn, tmps, asg, body, h1, h2.mono ?_⟩
  rintro en w' ⟨x, rfl, v, h', s', L', F', hv, hH', hrv, tr, pin, k1, k2, k3⟩
  obtain ⟨hB, hK⟩ := hq _ _ _ hv
  have hnl : ∀ b, ¬ LentB R L h0 b → ∀ id o, get h0 id = some o → Backed ⟨fun i => L.ρ (R i), fun i => L.κ (R i)⟩ id o → L.ρ (R id) ≠ b := fun b hb id o ho hbk e => hb ⟨id, o, ho, hbk, e⟩
  obtain ⟨L2, hg2⟩ := good_after (st := ⟨e, h, s⟩) hB hR.symm (fun _ _ h => h) hlent hg hd hH'.hg hH'.csz (fun b hb hl hc => k1 b hb hc) (fun b hb hl hc => k2 b hb hc (hnl b hl)) hH'.fresh hH'.obj
    (fun i o hi hb => ⟨(hH'.own i o hi hb).1, (hH'.own i o hi hb).2, fun hlt => by
      obtain ⟨id', o', ho', hb', e'⟩ := k3 i o hi hb hlt
      exact ⟨id', o', ho', hb', e'⟩⟩)
    hH'.inj hrv tr pin
  exact ⟨x, rfl, _, L2, F', hK, hg2, tr⟩

end Go.PX

/- PX: rules for what the evaluation stops at. -/
namespace Go.PX
open Go.RowKit

section
variable {P : Program} {T : Tys} {σ : Type} {Y : Hd σ} {e : Env} {h : Heap} {s : σ} {d : Option Nat} {f : FuncId} {args : List V}

theorem CallA_out {ws : List Wr} (ho : OutCall P e h d f args ws) {K : St σ → Prop} (hk : applyK ws e h fun e h => K ⟨e, h, s⟩) : CallA P Y ⟨e, h, s⟩ d f args K := by
  refine ⟨ho.1, fun cx hY r m L F a w vals hg hd hr => (ho.2 cx r m L F ⟨e, h, s⟩ a w vals (fun _ _ h => h) (fun _ _ h => h) hg hd hr).mono ?_⟩
  rintro en w' ⟨x, rfl, L', F', hg', tr⟩
  rw [applyK_eq s] at hk
  have hs : (applyWs (⟨e, h, s⟩ : St σ) ws).s = s := applyWs_s _ _
  refine ⟨x, rfl, _, L', F', ?_, hg', tr⟩
  generalize applyWs (⟨e, h, s⟩ : St σ) ws = st at hk hs
  obtain ⟨e1, h1, s1⟩ := st
  simp only at hs
  subst hs
  exact hk

/-- A call of a function whose contract is known. -/
theorem CallA_fn {args0 : List V} {h0 : Heap} {v0 : V} {h1 : Heap} (hf : FnU P f args0 h0 fun v h' => v = v0 ∧ h' = h1) (tb : List Nat) (hargs : renL (callR tb (d.getD 0)) args0 = args)
    (hlent : lentOk (callR tb (d.getD 0)) h 1000000 tb h0) (hB : callB tb d v0 h1 = true) {K : St σ → Prop} (hk : applyK (callWs tb d v0 h1) e h fun e h => K ⟨e, h, s⟩) : CallA P Y ⟨e, h, s⟩ d f args K :=
  CallA_out (outCall_of hf tb hargs hlent hB) hk

theorem DrawCall_fn {args0 : List V} {h0 : Heap} {v0 : V} {h1 : Heap} (hf : FnU P f args0 h0 fun v h' => v = v0 ∧ h' = h1) (tb : List Nat) (hargs : renL (callR tb (d.getD 0)) args0 = args)
    (hlent : lentOk (callR tb (d.getD 0)) h 1000000 tb h0) (hB : callB tb d v0 h1 = true) {K : List Wr → Prop} (hk : K (callWs tb d v0 h1)) : DrawCall P e h d f args K :=
  ⟨_, hk, outCall_of hf tb hargs hlent hB⟩

end

/-! Objects, seen as data. -/

inductive DO where
  | box (l : List D)
  | arr (sz : Nat) (l : List (List D))
  | map (l : List (D × D))

mutual
def viewV (g : Nat → Option DO) : V → Option D
  | .d v => some v
  | .agg cs => match viewL g cs with
    | some l => some (.agg l)
    | none => none
  | .tup cs => match viewL g cs with
    | some l => some (.tup l)
    | none => none
  | .clo f cs => match viewL g cs with
    | some l => some (.clo f l)
    | none => none
  | .ptr id off => match g id with
    | some (.box l) => some (.ref (l.drop off))
    | _ => none
  | .sl id sz off len => match g id with
    | some (.arr m l) => match Nat.beq m sz, Nat.ble (off + len) l.length with
      | true, true => some (.vs ((l.drop off).take len))
      | _, _ => none
    | _ => none
  | .mp id => match g id with
    | some (.map kvs) => some (.mv kvs)
    | _ => none
  | .ep _ _ _ _ => none
  | .it _ => none
  | .yld => none
  | .unk => none
def viewL (g : Nat → Option DO) : List V → Option (List D)
  | [] => some []
  | v :: r => match viewV g v, viewL g r with
    | some a, some l => some (a :: l)
    | _, _ => none
end

def viewLL (g : Nat → Option DO) : List (List V) → Option (List (List D))
  | [] => some []
  | v :: r => match viewL g v, viewLL g r with
    | some a, some l => some (a :: l)
    | _, _ => none

def objD (h : Heap) : Nat → Nat → Option DO
  | 0, _ => none
  | n + 1, id => match get h id with
    | some (.box (.dd l)) => some (.box l)
    | some (.box (.vv l)) => match viewL (objD h n) l with
      | some l => some (.box l)
      | none => none
    | some (.arr sz (.dd l)) => some (.arr sz l)
    | some (.arr sz (.vv l)) => match viewLL (objD h n) l with
      | some l => some (.arr sz l)
      | none => none
    | some (.map kvs) => some (.map kvs)
    | _ => none

/-- How many cells a block has. -/
def cellsAt (w : World) (b : Nat) : Nat :=
  match w.heap[b]? with
  | some (.cells c _ _) => c.size
  | some (.map _ _) => 1
  | _ => 0

open Classical in
/-- All objects, frozen. -/
noncomputable def frzAll (L : Loc) (F : Nat → Nat) (h : Heap) (w : World) : Nat → Nat := fun b => if ∃ id o, get h id = some o ∧ Backed L id o ∧ L.ρ id = b then cellsAt w b else F b

section
variable {σ : Type} {cx : Cx σ} {L : Loc} {F : Nat → Nat} {h : Heap} {s : σ} {w : World}

theorem frzAll_at {id : Nat} {o : Obj} (hi : get h id = some o) (hb : Backed L id o) : frzAll L F h w (L.ρ id) = cellsAt w (L.ρ id) := if_pos ⟨id, o, hi, hb, rfl⟩

theorem frzAll_other {b : Nat} (hb : ¬ ∃ id o, get h id = some o ∧ Backed L id o ∧ L.ρ id = b) : frzAll L F h w b = F b := if_neg hb

theorem frzAll_le (hh : HeapOk cx L F h s w) (b : Nat) : F b ≤ frzAll L F h w b := by
  by_cases hb : ∃ id o, get h id = some o ∧ Backed L id o ∧ L.ρ id = b
  · obtain ⟨id, o, hi, hbk, rfl⟩ := hb
    rw [(hh.own id o hi hbk).1]; exact Nat.zero_le _
  · rw [frzAll_other hb]; exact Nat.le_refl _

theorem frzAll_C (hh : HeapOk cx L F h s w) {b : Nat} (hC : cx.C s b) : frzAll L F h w b = F b :=
  frzAll_other fun ⟨id, o, hi, hb, e⟩ => (hh.own id o hi hb).2 (by rw [e]; exact hC)

theorem frzAll_tr (hh : HeapOk cx L F h s w) : Tr F w (frzAll L F h w) w :=
  ⟨rfl, rfl, rfl, Nat.le_refl _, frzAll_le hh, fun _ _ _ => rfl, fun _ _ _ _ h => h⟩

theorem frzAll_fresh (hh : HeapOk cx L F h s w) (b : Nat) (hb : w.heap.size ≤ b) : frzAll L F h w b = 0 := by
  by_cases h1 : ∃ id o, get h id = some o ∧ Backed L id o ∧ L.ρ id = b
  · obtain ⟨id, o, hi, hbk, rfl⟩ := h1
    have := (hh.obj id o hi).lt hbk
    omega
  · rw [frzAll_other h1]; exact hh.fresh b hb

theorem frzAll_ok (hh : HeapOk cx L F h s w) : HeapOk cx L (frzAll L F h w) [] s w :=
  ⟨cx.stable hh.hg (frzAll_tr hh) (frzAll_fresh hh) fun b hb => ⟨rfl, frzAll_C hh hb⟩, hh.csz, frzAll_fresh hh, (fun id o hi => by cases hi), (fun id o hi => by cases hi), (fun i j o p hi => by cases hi)⟩

/-- What is said of an object as data. -/
def RepDO (yv : Option Nat) (L : Loc) (F : Nat → Nat) (w : World) (id : Nat) : DO → Prop
  | .box l => RepAt F w (L.ρ id) 0 l
  | .arr sz l => lensAre sz l ∧ ((l = [] ∧ L.κ id = 0) ∨ (RepAt F w (L.ρ id) 0 l.flatten))
  | .map kvs => ∃ en c, 0 < F (L.ρ id) ∧ w.heap[L.ρ id]? = some (.map en c) ∧ RepKv F w kvs en.toList

theorem RepEs.of_flat {F : Nat → Nat} {w : World} {b sz : Nat} : ∀ {es : List (List D)} {off : Nat}, lensAre sz es → RepAt F w b off es.flatten → RepEs F w b off sz es
  | [], _, _, _ => trivial
  | e :: r, off, hl, h => by
    have he := hl e (List.mem_cons_self ..)
    have hsplit : ∀ {a c : List D} {off : Nat}, RepAt F w b off (a ++ c) → RepAt F w b off a ∧ RepAt F w b (off + a.length) c := by
      intro a
      induction a with
      | nil => exact fun h => ⟨trivial, h⟩
      | cons x r ih =>
        intro c off h
        obtain ⟨h1, h2, h3⟩ := h
        obtain ⟨h4, h5⟩ := ih h3
        refine ⟨⟨h1, h2, h4⟩, ?_⟩
        rwa [show off + (x :: r).length = off + 1 + r.length by simp; omega]
    rw [List.flatten_cons] at h
    obtain ⟨h1, h2⟩ := hsplit h
    rw [he] at h2
    exact ⟨he, h1, RepEs.of_flat (fun x hx => hl x (List.mem_cons_of_mem _ hx)) h2⟩

theorem RepAt.of_cells {F : Nat → Nat} {w : World} {b : Nat} : ∀ {cs : List D} {off : Nat} {l : List Value}, RepDL F w cs l → (∀ i x, l[i]? = some x → off + i < F b ∧ w.cell? ⟨b, off + i, none⟩ = some x) → RepAt F w b off cs
  | [], _, _, _, _ => trivial
  | c :: r, off, _, h, hc => by
    obtain ⟨x, l', rfl, h1, h2⟩ := h
    obtain ⟨k1, k2⟩ := hc 0 x (by simp)
    refine ⟨by simpa using k1, ⟨x, by simpa using k2, h1⟩, RepAt.of_cells h2 fun i y hy => ?_⟩
    have := hc (i + 1) y (by simpa using hy)
    rwa [show off + (i + 1) = off + 1 + i by omega] at this

mutual
theorem viewV_t {g : Nat → Option DO} {F1 : Nat → Nat} {yv : Option Nat} {L : Loc} {F : Nat → Nat} {w : World} (tr : Tr F w F1 w) (hg : ∀ id o, g id = some o → RepDO yv L F1 w id o) : ∀ (v : V) (x : Value) (d : D), viewV g v = some d → RepV yv L F w v x → RepD F1 w d x
  | .d v, x, d, hv, hr => by
    simp only [viewV, Option.some.injEq] at hv
    subst hv
    exact RepD.mono tr _ _ hr
  | .agg cs, x, d, hv, hr => by
    simp only [viewV] at hv
    split at hv
    · rename_i l hl
      cases hv
      obtain ⟨a, rfl, ha⟩ := hr
      exact ⟨a, rfl, viewL_t tr hg cs _ l hl ha⟩
    · cases hv
  | .tup cs, x, d, hv, hr => by
    simp only [viewV] at hv
    split at hv
    · rename_i l hl
      cases hv
      obtain ⟨a, rfl, ha⟩ := hr
      exact ⟨a, rfl, viewL_t tr hg cs _ l hl ha⟩
    · cases hv
  | .clo f cs, x, d, hv, hr => by
    simp only [viewV] at hv
    split at hv
    · rename_i l hl
      cases hv
      obtain ⟨a, rfl, ha⟩ := hr
      exact ⟨a, rfl, viewL_t tr hg cs _ l hl ha⟩
    · cases hv
  | .ptr id off, x, d, hv, hr => by
    simp only [viewV] at hv
    split at hv
    · rename_i l hl
      cases hv
      have hat : RepAt F1 w (L.ρ id) 0 l := hg id _ hl
      have hat := RepAt.drop off hat
      rw [Nat.zero_add] at hat
      exact ⟨L.ρ id, off, hr, hat⟩
    · cases hv
  | .sl id sz off len, x, d, hv, hr => by
    simp only [viewV] at hv
    split at hv
    case h_2 => cases hv
    rename_i m l hl
    split at hv
    case h_2 => cases hv
    rename_i hm hlen
    cases hv
    have hm := Nat.eq_of_beq_eq_true hm
    subst hm
    have hlen := Nat.le_of_ble_eq_true hlen
    obtain ⟨a, cap, rfl, h1, h2, h3⟩ := hr
    obtain ⟨hls, hor⟩ := hg id _ hl
    refine ⟨a, len, cap, rfl, by rw [List.length_take, List.length_drop]; omega, h1, fun hne => ?_⟩
    have hlen0 : len ≠ 0 := by
      rintro rfl; simp at hne
    rcases h3 with ⟨h3, _⟩ | ⟨h3, h4⟩
    · exact absurd h3 hlen0
    rcases hor with ⟨rfl, _⟩ | hat
    · simp at hne
    · refine ⟨L.ρ id, off * m, m, h3, h2, ?_⟩
      have hes := RepEs.of_flat hls hat
      have hes := RepEs.drop off hes
      rw [Nat.zero_add] at hes
      exact RepEs.take len hes
  | .mp id, x, d, hv, hr => by
    simp only [viewV] at hv
    split at hv
    · rename_i l hl
      cases hv
      obtain ⟨en, c, h1, h2, h3⟩ := hg id _ hl
      exact ⟨L.ρ id, en, c, hr, h1, h2, h3⟩
    · cases hv
  | .ep _ _ _ _, _, _, hv, _ => by simp [viewV] at hv
  | .it _, _, _, hv, _ => by simp [viewV] at hv
  | .yld, _, _, hv, _ => by simp [viewV] at hv
  | .unk, _, _, hv, _ => by simp [viewV] at hv
theorem viewL_t {g : Nat → Option DO} {F1 : Nat → Nat} {yv : Option Nat} {L : Loc} {F : Nat → Nat} {w : World} (tr : Tr F w F1 w) (hg : ∀ id o, g id = some o → RepDO yv L F1 w id o) : ∀ (vs : List V) (l : List Value) (ds : List D), viewL g vs = some ds → RepVL yv L F w vs l → RepDL F1 w ds l
  | [], l, ds, hv, hr => by
    simp only [viewL, Option.some.injEq] at hv
    subst hv
    exact hr
  | v :: r, l, ds, hv, hr => by
    simp only [viewL] at hv
    split at hv
    · rename_i a m h1 h2
      cases hv
      obtain ⟨x, l', rfl, h3, h4⟩ := hr
      exact ⟨x, l', rfl, viewV_t tr hg v x a h1 h3, viewL_t tr hg r l' m h2 h4⟩
    · cases hv
end

theorem viewLL_flat {g : Nat → Option DO} : ∀ {es : List (List V)} {l : List (List D)}, viewLL g es = some l → viewL g es.flatten = some l.flatten ∧ l.length = es.length ∧ ∀ sz, lensAre sz es → lensAre sz l
  | [], l, h => by
    simp only [viewLL, Option.some.injEq] at h
    subst h
    exact ⟨rfl, rfl, fun _ _ _ he => by cases he⟩
  | e :: r, l, h => by
    simp only [viewLL] at h
    split at h
    · rename_i a m h1 h2
      cases h
      obtain ⟨k1, k2, k3⟩ := viewLL_flat h2
      have app : ∀ {a b : List V} {x y : List D}, viewL g a = some x → viewL g b = some y → viewL g (a ++ b) = some (x ++ y) ∧ x.length = a.length := by
        intro a
        induction a with
        | nil => intro b x y h1 h2; simp only [viewL, Option.some.injEq] at h1; subst h1; exact ⟨h2, rfl⟩
        | cons v r ih =>
          intro b x y h1 h2
          simp only [viewL] at h1
          split at h1
          · rename_i p q h3 h4
            cases h1
            obtain ⟨k1, k2⟩ := ih h4 h2
            refine ⟨?_, by simp [k2]⟩
            simp only [List.cons_append, viewL, h3, k1]
          · cases h1
      obtain ⟨j1, j2⟩ := app h1 k1
      refine ⟨by simpa using j1, by simp [k2], fun sz hl x hx => ?_⟩
      rcases List.mem_cons.1 hx with rfl | hx
      · rw [j2]; exact hl e (List.mem_cons_self ..)
      · exact k3 sz (fun y hy => hl y (List.mem_cons_of_mem _ hy)) x hx
    · cases h

theorem cell_block {w : World} {b : Nat} {c : Array Value} {T : TypeId} (h : w.heap[b]? = some (.cells c T (0, 0))) {i : Nat} {x : Value} (hx : c.toList[i]? = some x) : i < cellsAt w b ∧ w.cell? ⟨b, i, none⟩ = some x := by
  have hx : c[i]? = some x := by simpa using hx
  have hi := (Array.getElem?_eq_some_iff.1 hx).1
  refine ⟨by simp only [cellsAt, h]; exact hi, ?_⟩
  rw [cell_of_row _ _ _ _ _ _ h]; simpa using hx

/-- Objects are what they are said to be as data. -/
theorem objD_t (hh : HeapOk cx L F h s w) : ∀ (n : Nat) (id : Nat) (o : DO), objD h n id = some o → RepDO cx.yv L (frzAll L F h w) w id o
  | 0, _, _, ho => by cases ho
  | n + 1, id, o, ho => by
    have tr := frzAll_tr hh
    simp only [objD] at ho
    split at ho
    · rename_i l hi
      cases ho
      obtain ⟨c, T, hc, hr⟩ := hh.obj id _ hi
      have hr : RepDL F w l c.toList := RepVL.inj.1 hr
      refine RepAt.of_cells (RepDL.mono tr _ _ hr) fun i x hx => ?_
      rw [Nat.zero_add, frzAll_at hi trivial]
      exact cell_block hc hx
    · rename_i l hi
      split at ho
      · rename_i l' hl
        cases ho
        obtain ⟨c, T, hc, hr⟩ := hh.obj id _ hi
        have hr := viewL_t tr (objD_t hh n) l _ l' hl hr
        refine RepAt.of_cells hr fun i x hx => ?_
        rw [Nat.zero_add, frzAll_at hi trivial]
        exact cell_block hc hx
      · cases ho
    · rename_i sz l hi
      cases ho
      obtain ⟨h1, h2, h3⟩ := hh.obj id _ hi
      have hls : lensAre sz l := fun e he => by
        have := h2 (inj e) (by rw [Els.toV, injL_eq]; exact List.mem_map_of_mem he)
        rwa [inj_length] at this
      refine ⟨hls, ?_⟩
      rcases h3 with ⟨h3, h4⟩ | ⟨c, T, hc, hk, hn, hr⟩
      · left
        rw [Els.toV, injL_eq, List.map_eq_nil_iff] at h3
        exact ⟨h3, h4⟩
      · by_cases hk0 : L.κ id = 0
        · left
          refine ⟨?_, hk0⟩
          rw [hk, hk0] at hn
          rw [Els.toV, injL_eq, List.length_map] at hn
          have : l.length = 0 := by
            rcases Nat.eq_zero_or_pos l.length with h | h
            · exact h
            · have := Nat.mul_pos h h1; omega
          exact List.length_eq_zero_iff.1 this
        · right
          rw [Els.toV, injL_flatten] at hr
          have hr := RepVL.inj.1 hr
          refine RepAt.of_cells (RepDL.mono tr _ _ hr) fun i x hx => ?_
          rw [Nat.zero_add, frzAll_at hi hk0]
          rw [List.getElem?_take] at hx
          split at hx
          · exact cell_block hc hx
          · cases hx
    · rename_i sz l hi
      split at ho
      case h_2 => cases ho
      rename_i l' hl
      cases ho
      obtain ⟨h1, h2, h3⟩ := hh.obj id _ hi
      obtain ⟨j1, j2, j3⟩ := viewLL_flat hl
      refine ⟨j3 sz h2, ?_⟩
      rcases h3 with ⟨h3, h4⟩ | ⟨c, T, hc, hk, hn, hr⟩
      · left
        have h3 : l = [] := h3
        subst h3
        exact ⟨List.length_eq_zero_iff.1 j2, h4⟩
      · by_cases hk0 : L.κ id = 0
        · left
          refine ⟨?_, hk0⟩
          rw [hk, hk0] at hn
          have : l.length = 0 := by
            rcases Nat.eq_zero_or_pos l.length with h | h
            · exact h
            · have := Nat.mul_pos h h1
              have hn : l.length * sz ≤ 0 := hn
              omega
          exact List.length_eq_zero_iff.1 (by rw [j2]; exact this)
        · right
          have hr := viewL_t tr (objD_t hh n) l.flatten _ l'.flatten j1 hr
          refine RepAt.of_cells hr fun i x hx => ?_
          rw [Nat.zero_add, frzAll_at hi hk0]
          rw [List.getElem?_take] at hx
          split at hx
          · exact cell_block hc hx
          · cases hx
    · rename_i kvs hi
      cases ho
      obtain ⟨en, c, hc, hr⟩ := hh.obj id _ hi
      refine ⟨en, c, ?_, hc, RepKv.mono tr _ _ hr⟩
      rw [frzAll_at hi trivial]
      simp [cellsAt, hc]
    · cases ho

end
end Go.PX

/- PX: rules: what is returned; calls by value; loops. -/
namespace Go.PX
open Go.RowKit

def packD (ds : List D) : D :=
  match ds with
  | [x] => x
  | l => .tup l

theorem packD_t {F : Nat → Nat} {w : World} {ds : List D} {vals : List Value} (h : RepDL F w ds vals) : RepD F w (packD ds) (packV vals) := by
  cases ds with
  | nil =>
    have : vals = [] := h
    subst this
    exact ⟨#[], rfl, rfl⟩
  | cons a r =>
    obtain ⟨x, l, rfl, hx, hl⟩ := h
    cases r with
    | nil =>
      have : l = [] := hl
      subst this
      exact hx
    | cons b r =>
      obtain ⟨y, l', rfl, hy, hl'⟩ := hl
      refine ⟨(x :: y :: l').toArray, rfl, ?_⟩
      exact ⟨x, y :: l', rfl, hx, y, l', rfl, hy, hl'⟩

/-- Results, handed out as data. -/
theorem RetA_view {σ : Type} {l : List V} {h : Heap} {s : σ} {Q : V → Heap → σ → Prop} (n : Nat) {ds : List D} (hv : viewL (objD h n) l = some ds) (hq : Q (.d (packD ds)) [] s) : RetA l h s Q := by
  refine ⟨fun cx L F vals w hh hr => ?_⟩
  have tr := frzAll_tr hh
  exact ⟨_, [], L, frzAll L F h w, hq, frzAll_ok hh, packD_t (viewL_t tr (objD_t hh n) l vals ds hv hr), tr, fun _ _ => ⟨rfl, rfl⟩⟩

def packVv (l : List V) : V :=
  match l with
  | [x] => x
  | l => mkTup l

/-- Results, handed out with objects: the lent ones keep their numbers, new ones get theirs. -/
def handR (nk : List Nat) (i : Nat) : Nat :=
  match Nat.blt i 2000000 with
  | true => i
  | false => match nk[i - 2000000]? with
    | some k => k
    | none => 0

/-- The objects that are handed back are there. -/
def handOk (R : Nat → Nat) (h : Heap) : Heap → Prop
  | [] => True
  | (i, o) :: r => get h (R i) = some (renO R o) ∧ handOk R h r

theorem handOk_spec {R : Nat → Nat} {h : Heap} : ∀ {h1 : Heap}, handOk R h h1 → ∀ i o, get h1 i = some o → get h (R i) = some (renO R o)
  | [], _, i, o, hi => by cases hi
  | (k, p) :: r, hh, i, o, hi => by
    simp only [get] at hi
    split at hi
    · rename_i he
      have := Nat.eq_of_beq_eq_true he; subst this
      cases hi
      exact hh.1
    · exact handOk_spec hh.2 i o hi

def keysOf : Heap → List Nat
  | [] => []
  | (i, _) :: r => i :: keysOf r

theorem keysOf_mem : ∀ {h : Heap} {i : Nat} {o : Obj}, get h i = some o → i ∈ keysOf h
  | [], i, o, h => by cases h
  | (k, p) :: r, i, o, h => by
    simp only [get] at h
    split at h
    · rename_i he
      have := Nat.eq_of_beq_eq_true he; subst this
      simp [keysOf]
    · simp [keysOf, keysOf_mem h]

theorem RetA_hand {σ : Type} {l : List V} {h : Heap} {s : σ} {Q : V → Heap → σ → Prop} (nk : List Nat) (l1 : List V) (h1 : Heap) (hl : renL (handR nk) l1 = l) (hh1 : handOk (handR nk) h h1) (hnd : nodupB ((keysOf h1).map (handR nk)) = true)
    (hq : Q (packVv l1) h1 s) : RetA l h s Q := by
  refine ⟨fun cx L F vals w hh hr => ?_⟩
  have hR : ∀ i, pinned i → handR nk i = i := fun i hi => by
    unfold handR
    rw [show Nat.blt i 2000000 = true from Nat.ble_eq_true_of_le hi.2]
  generalize handR nk = R at hl hh1 hnd hR
  subst hl
  have hinj : ∀ i j, i ∈ keysOf h1 → j ∈ keysOf h1 → R i = R j → i = j := by
    have hn := nodupB_spec hnd
    intro i j hi hj hij
    obtain ⟨a, ha⟩ := List.mem_iff_getElem?.1 hi
    obtain ⟨b, hb⟩ := List.mem_iff_getElem?.1 hj
    have k1 : ((keysOf h1).map R)[a]? = some (R i) := by rw [List.getElem?_map, ha]; rfl
    have k2 : ((keysOf h1).map R)[b]? = some (R i) := by rw [List.getElem?_map, hb, hij]; rfl
    have := nodup_get hn k1 k2
    subst this
    rw [ha] at hb; exact Option.some.inj hb
  have hr1 : RepVL cx.yv ⟨fun i => L.ρ (R i), fun i => L.κ (R i)⟩ F w l1 vals := (RepVL.ren (R := R) l1 _ fun _ _ => ⟨rfl, rfl⟩).1 hr
  refine ⟨_, h1, ⟨fun i => L.ρ (R i), fun i => L.κ (R i)⟩, F, hq, ⟨hh.hg, hh.csz, hh.fresh, fun i o hi => ?_, fun i o hi hb => ?_, fun i j o p hi hj hbi hbj hij => ?_⟩, ?_, Tr.refl F w, fun i hi => by
    show L.ρ (R i) = L.ρ i ∧ L.κ (R i) = L.κ i
    rw [hR i hi]; exact ⟨rfl, rfl⟩⟩
  · exact (RepO.ren (R := R) (L := ⟨fun i => L.ρ (R i), fun i => L.κ (R i)⟩) (L' := L) i o (fun _ _ => ⟨rfl, rfl⟩) ⟨rfl, rfl⟩).1 (hh.obj _ _ (handOk_spec hh1 i o hi))
  · exact hh.own _ _ (handOk_spec hh1 i o hi) ((Backed_ren (R := R) (L := ⟨fun i => L.ρ (R i), fun i => L.κ (R i)⟩) (L' := L) i o rfl).2 hb)
  · refine hinj i j (keysOf_mem hi) (keysOf_mem hj) ?_
    exact hh.inj _ _ _ _ (handOk_spec hh1 i o hi) (handOk_spec hh1 j p hj) ((Backed_ren (R := R) (L := ⟨fun i => L.ρ (R i), fun i => L.κ (R i)⟩) (L' := L) i o rfl).2 hbi)
      ((Backed_ren (R := R) (L := ⟨fun i => L.ρ (R i), fun i => L.κ (R i)⟩) (L' := L) j p rfl).2 hbj) hij
  · cases l1 with
    | nil =>
      have : vals = [] := hr1
      subst this
      exact ⟨#[], rfl, rfl⟩
    | cons v r =>
      cases r with
      | nil =>
        obtain ⟨x, l, rfl, hx, hl⟩ := hr1
        have : l = [] := hl
        subst this
        exact hx
      | cons u r =>
        obtain ⟨x, l, rfl, hx, y, l', rfl, hy, hl'⟩ := hr1
        have hall : RepVL cx.yv ⟨fun i => L.ρ (R i), fun i => L.κ (R i)⟩ F w (v :: u :: r) (x :: y :: l') := ⟨x, _, rfl, hx, y, l', rfl, hy, hl'⟩
        show RepV _ _ _ _ (mkTup (v :: u :: r)) (.tuple (x :: y :: l').toArray)
        unfold mkTup
        split
        · rename_i ds hds
          refine ⟨_, rfl, ?_⟩
          rw [dsOf_eq hds] at hall
          exact RepVL.inj.1 hall
        · exact ⟨_, rfl, hall⟩

/-! Data without references. -/

mutual
def refFree : D → Bool
  | .bool _ => true
  | .int _ _ => true
  | .str _ => true
  | .agg cs => refFreeL cs
  | .tup cs => refFreeL cs
  | .vs _ => false
  | .nils => true
  | .ref _ => false
  | .nilp => true
  | .mv _ => false
  | .nilm => true
  | .clo _ cs => refFreeL cs
  | .mth _ cs => refFreeL cs
  | .nilf => true
  | .ifc _ v => refFree v
  | .nili => true
def refFreeL : List D → Bool
  | [] => true
  | v :: r => refFree v && refFreeL r
end

mutual
theorem RepD.free {F F' : Nat → Nat} {w w' : World} : ∀ (v : D) (x : Value), refFree v = true → RepD F w v x → RepD F' w' v x
  | .bool _, _, _, h => h
  | .int _ _, _, _, h => h
  | .str _, _, _, h => h
  | .agg cs, _, hf, h => by
    obtain ⟨l, rfl, hl⟩ := h
    exact ⟨l, rfl, RepDL.free cs _ hf hl⟩
  | .tup cs, _, hf, h => by
    obtain ⟨l, rfl, hl⟩ := h
    exact ⟨l, rfl, RepDL.free cs _ hf hl⟩
  | .vs _, _, hf, _ => by simp [refFree] at hf
  | .nils, _, _, h => h
  | .ref _, _, hf, _ => by simp [refFree] at hf
  | .nilp, _, _, h => h
  | .mv _, _, hf, _ => by simp [refFree] at hf
  | .nilm, _, _, h => h
  | .clo _ cs, _, hf, h => by
    obtain ⟨l, rfl, hl⟩ := h
    exact ⟨l, rfl, RepDL.free cs _ hf hl⟩
  | .mth _ cs, _, hf, h => by
    obtain ⟨l, rfl, hl⟩ := h
    exact ⟨l, rfl, RepDL.free cs _ hf hl⟩
  | .nilf, _, _, h => h
  | .ifc _ v, _, hf, h => by
    obtain ⟨y, rfl, hy⟩ := h
    exact ⟨y, rfl, RepD.free v y hf hy⟩
  | .nili, _, _, h => h
theorem RepDL.free {F F' : Nat → Nat} {w w' : World} : ∀ (vs : List D) (l : List Value), refFreeL vs = true → RepDL F w vs l → RepDL F' w' vs l
  | [], _, _, h => h
  | v :: r, _, hf, h => by
    simp only [refFreeL, Bool.and_eq_true] at hf
    obtain ⟨x, l', rfl, hx, hl⟩ := h
    exact ⟨x, l', rfl, RepD.free v x hf.1 hx, RepDL.free r l' hf.2 hl⟩
end

/-- A function's contract, by value. -/
def FnV (P : Program) (f : FuncId) (ds : List D) (r : D) : Prop := FnU P f (inj ds) [] fun v h' => v = .d r ∧ h' = []

section
variable {P : Program} {σ : Type} {cx : Cx σ} {r : Option Nat} {m : List Nat} {L : Loc} {F : Nat → Nat} {st : St σ} {a : Act} {w : World}

/-- Memory goes on, and nothing that was there is changed. -/
theorem Good.onward (hg : Good cx r m L F st a w) {F' : Nat → Nat} {w' : World} (tr : Tr F w F' w') (hk : ∀ b, b < w.heap.size → w'.heap[b]? = w.heap[b]? ∧ F' b = F b) (hf : ∀ b, w'.heap.size ≤ b → F' b = 0) : Good cx r m L F' st a w' := by
  refine ⟨⟨cx.stable hg.heap.hg tr hf fun b hb => hk b (hg.heap.csz b hb), fun b hb => Nat.lt_of_lt_of_le (hg.heap.csz b hb) tr.size, hf, fun id o hi => ?_, fun id o hi hb => ?_, hg.heap.inj⟩, fun t v ht => ?_, hg.dfr, fun b hb => ?_, hg.mnd, fun l hl => ?_, hg.pin, hg.tsz⟩
  · exact RepO.mono tr id o (fun _ _ => ⟨rfl, rfl⟩) ⟨rfl, rfl⟩ (fun hb => (hk _ ((hg.heap.obj id o hi).lt hb)).1) (hg.heap.obj id o hi)
  · rw [(hk _ ((hg.heap.obj id o hi).lt hb)).2]; exact hg.heap.own id o hi hb
  · obtain ⟨x, hx, hr⟩ := hg.env t v ht
    exact ⟨x, hx, RepV.mono tr v x (fun _ _ => ⟨rfl, rfl⟩) hr⟩
  · obtain ⟨k1, k2⟩ := hg.mks b hb
    exact ⟨by rw [(hk b (block_lt k1)).1]; exact k1, k2⟩
  · obtain ⟨lp, k1⟩ := hg.lk l hl
    exact ⟨lp, ⟨by rw [(hk l (block_lt k1.1.1)).1]; exact k1.1.1, k1.1.2⟩, k1.2⟩

/-- A call by value: what is handed over is looked at only while the call lasts. -/
theorem outCall_view {f : FuncId} {ds : List D} {res : D} (hf : FnV P f ds res) (hfree : refFree res = true) (n : Nat) {e : Env} {h : Heap} {d : Option Nat} {args : List V} (hv : viewL (objD h n) args = some ds) :
    OutCall P e h d f args (wset d (.d res)) := by
  refine ⟨(hf (σ := Unit) ⟨fun _ _ _ _ => False⟩ ()).enter, ?_⟩
  intro σ cx r m L F st a w vals he hh hg hd hr
  have hok : HeapOk cx L F h st.s w := (hg.sub (e := st.env) (h := h) (fun _ _ h => h) hh).heap
  have tr1 := frzAll_tr hok
  generalize hF1 : frzAll L F h w = F1 at tr1
  have hF1C : ∀ b, cx.C st.s b → F1 b = F b := fun b hb => by rw [← hF1]; exact frzAll_C hok hb
  have hvals : RepDL F1 w ds vals.toList := by
    rw [← hF1]; exact viewL_t (frzAll_tr hok) (objD_t hok n) args _ ds hv hr
  let cx' : Cx σ := {
    C := fun s b => cx.C s b ∨ b < w.heap.size
    HG := fun s w' F' => cx.HG s w' F' ∧ ∀ b, b < w.heap.size → w'.heap[b]? = w.heap[b]? ∧ F' b = F1 b
    yv := cx.yv
    rcd := cx.rcd
    pρ := cx.pρ
    pκ := cx.pκ
    stable := by
      rintro s w1 F1' w2 F2 ⟨h1, h2⟩ tr hf hk
      refine ⟨cx.stable h1 tr hf fun b hb => hk b (.inl hb), fun b hb => ?_⟩
      obtain ⟨k1, k2⟩ := hk b (.inr hb)
      obtain ⟨k3, k4⟩ := h2 b hb
      exact ⟨k1.trans k3, k2.trans k4⟩ }
  have hH0 : HeapOk cx' L F1 [] st.s w := by
    refine ⟨⟨cx.stable hg.heap.hg tr1 (by rw [← hF1]; exact frzAll_fresh hok) fun b hb => ⟨rfl, hF1C b hb⟩, fun _ _ => ⟨rfl, rfl⟩⟩, fun b hb => hb.elim (hg.heap.csz b) id, ?_, (fun _ _ hi => by cases hi), (fun _ _ hi => by cases hi), (fun _ _ _ _ hi => by cases hi)⟩
    rw [← hF1]; exact frzAll_fresh hok
  have hcall := (hf (⟨fun _ _ _ _ => False⟩ : Hd σ) st.s).run cx' (fun _ _ _ _ _ _ hy => hy.elim) L F1 vals w hH0 (RepVL.inj.2 hvals)
  refine hcall.mono ?_
  rintro en w' ⟨x, rfl, v, h', s', L', F', ⟨⟨rfl, rfl⟩, rfl⟩, hH, hv', tr, pin⟩
  obtain ⟨hHG, hkeep⟩ := hH.hg
  -- what was frozen for the call is frozen no more
  let F2 : Nat → Nat := fun b => if b < w.heap.size then F b else F' b
  have hF2lt : ∀ b, b < w.heap.size → F2 b = F b := fun b hb => if_pos hb
  have hF2ge : ∀ b, w.heap.size ≤ b → F2 b = F' b := fun b hb => if_neg (by omega)
  have hFlt : ∀ b o, o < F b → b < w.heap.size := fun b o ho => by
    rcases Nat.lt_or_ge b w.heap.size with h | h
    · exact h
    · rw [hg.heap.fresh b h] at ho; omega
  have tr2 : Tr F w F2 w' := by
    refine ⟨tr.os, tr.tape, tr.output, tr.size, fun b => ?_, fun b o ho => cell_heap (hkeep b (hFlt b o ho)).1, fun b en c hb hm => by rw [(hkeep b (hFlt b 0 hb)).1]; exact hm⟩
    rcases Nat.lt_or_ge b w.heap.size with h | h
    · rw [hF2lt b h]; exact Nat.le_refl _
    · rw [hg.heap.fresh b h]; exact Nat.zero_le _
  have hg2 := hg.onward tr2 (fun b hb => ⟨(hkeep b hb).1, hF2lt b hb⟩) (fun b hb => by
    rw [hF2ge b (Nat.le_trans tr.size hb)]; exact hH.fresh b hb)
  exact ⟨x, rfl, L, F2, hg2.wset hd (RepD.free res x hfree hv'), tr2⟩

theorem CallA_view {Y : Hd σ} {f : FuncId} {ds : List D} {res : D} (hf : FnV P f ds res) (hfree : refFree res = true) (n : Nat) {e : Env} {h : Heap} {s : σ} {d : Option Nat} {args : List V} (hv : viewL (objD h n) args = some ds)
    {K : St σ → Prop} (hk : applyK (wset d (.d res)) e h fun e h => K ⟨e, h, s⟩) : CallA P Y ⟨e, h, s⟩ d f args K := CallA_out (outCall_view hf hfree n hv) hk

theorem DrawCall_view {f : FuncId} {ds : List D} {res : D} (hf : FnV P f ds res) (hfree : refFree res = true) (n : Nat) {e : Env} {h : Heap} {d : Option Nat} {args : List V} (hv : viewL (objD h n) args = some ds)
    {K : List Wr → Prop} (hk : K (wset d (.d res))) : DrawCall P e h d f args K := ⟨_, hk, outCall_view hf hfree n hv⟩

/-- A call by value of data. -/
theorem outCall_v {f : FuncId} {ds : List D} {res : D} (hf : FnV P f ds res) {e : Env} {h : Heap} {d : Option Nat} {args : List V} (hv : args = inj ds) (hd : Nat.ble (d.getD 0) 10000 = true) : OutCall P e h d f args (wset d (.d res)) := by
  have hmap : renL (callR [] (d.getD 0)) (inj ds) = args := by rw [hv]; exact mapIdL_inj _ _
  have hB : callB [] d (.d res) [] = true := by
    cases d with
    | none => rfl
    | some d =>
      simp only [callB, newKeys, nodupB, heapNames, allIn, namesOf, List.map_nil, disj, List.all_nil, List.length_nil, hd, Bool.and_true, Bool.true_and, callWs, newWs, lentWs, List.nil_append, wset, newsOk, wNews]
      rfl
  exact outCall_of hf [] hmap rfl hB

theorem CallA_v {Y : Hd σ} {f : FuncId} {ds : List D} {res : D} (hf : FnV P f ds res) {e : Env} {h : Heap} {s : σ} {d : Option Nat} {args : List V} (hv : args = inj ds) (hd : Nat.ble (d.getD 0) 10000 = true)
    {K : St σ → Prop} (hk : applyK (wset d (.d res)) e h fun e h => K ⟨e, h, s⟩) : CallA P Y ⟨e, h, s⟩ d f args K := CallA_out (outCall_v hf hv hd) hk

theorem DrawCall_v {f : FuncId} {ds : List D} {res : D} (hf : FnV P f ds res) {e : Env} {h : Heap} {d : Option Nat} {args : List V} (hv : args = inj ds) (hd : Nat.ble (d.getD 0) 10000 = true)
    {K : List Wr → Prop} (hk : K (wset d (.d res))) : DrawCall P e h d f args K := ⟨_, hk, outCall_v hf hv hd⟩

end
end Go.PX
