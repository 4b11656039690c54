import Derived.Test.YtggdbiadadojjaaGreatPxK
import Derived.Test.YtggdbiadadojjaaGreatPxO
set_option linter.all false
set_option maxRecDepth 10000
namespace Go.PX
open Go.RowKit
section
variable {κ : Type} [DecidableEq κ] (kd : κ → D)
def kvG (m : List (κ × Int)) : List (D × D) := m.map fun p => (kd p.1, .int .i64 p.2)
def getM : List (κ × Int) → κ → Option Int
 | [], _ => none
 | (u, x) :: r, t => if t = u then some x else getM r t
def putM : List (κ × Int) → κ → Int → List (κ × Int)
 | [], t, v => [(t, v)]
 | (u, x) :: r, t, v => if t = u then (t, v) :: r else (u, x) :: putM r t v
variable {kd}
theorem findG_none (hs : ∀ a b, sameD (kd a) (kd b) = some (decide (a = b))) {t : κ} : ∀ {m : List (κ × Int)}, getM m t = none → ∀ n, findD (kd t) (kvG kd m) n = some none
 | [], _, n => rfl
 | (u, x) :: r, h, n => by
  rw [getM] at h
  split at h
  ·cases h
  ·rename_i hu
   show (match sameD (kd t) (kd u) with
    | some true => some (some (n, D.int .i64 x))
    | some false => findD (kd t) (kvG kd r) (n + 1)
    | none => none) = _
   rw [hs, decide_eq_false hu]
   exact findG_none hs h (n + 1)
theorem findG_some (hs : ∀ a b, sameD (kd a) (kd b) = some (decide (a = b))) {t : κ} {v : Int} : ∀ {m : List (κ × Int)}, getM m t = some v → ∀ n, ∃ i, i < m.length ∧ findD (kd t) (kvG kd m) n = some (some (n + i, .int .i64 v)) ∧ (∀ y, (kvG kd m).set i (kd t, .int .i64 y) = kvG kd (putM m t y)) ∧ setKey (kvG kd m) i (kd t) = kvG kd m ∧ ∀ y, setVal (kvG kd m) i (.int .i64 y) = kvG kd (putM m t y)
 | [], h, n => by cases h
 | (u, x) :: r, h, n => by
  rw [getM] at h
  split at h
  ·rename_i hu
   cases h
   subst hu
   refine ⟨0, by simp, ?_, fun y => ?_, rfl, fun y => ?_⟩
   ·show (match sameD (kd t) (kd t) with
     | some true => some (some (n, D.int .i64 v))
     | some false => findD (kd t) (kvG kd r) (n + 1)
     | none => none) = _
    rw [hs, decide_eq_true rfl]; rfl
   ·rw [putM, if_pos rfl]; rfl
   ·rw [putM, if_pos rfl]; rfl
  ·rename_i hu
   obtain ⟨i, h0, h1, h2, h3, h4⟩ := findG_some hs h (n + 1)
   refine ⟨i + 1, by simp; omega, ?_, fun y => ?_, ?_, fun y => ?_⟩
   ·show (match sameD (kd t) (kd u) with
     | some true => some (some (n, D.int .i64 x))
     | some false => findD (kd t) (kvG kd r) (n + 1)
     | none => none) = _
    rw [hs, decide_eq_false hu]
    show findD (kd t) (kvG kd r) (n + 1) = _
    rw [h1, show n + 1 + i = n + (i + 1) by omega]
   ·rw [putM, if_neg hu]
    show (kd u, D.int .i64 x) :: (kvG kd r).set i (kd t, .int .i64 y) = (kd u, D.int .i64 x) :: kvG kd (putM r t y)
    rw [h2 y]
   ·show (kd u, D.int .i64 x) :: setKey (kvG kd r) i (kd t) = _
    rw [h3]; rfl
   ·rw [putM, if_neg hu]
    show (kd u, D.int .i64 x) :: setVal (kvG kd r) i (.int .i64 y) = (kd u, D.int .i64 x) :: kvG kd (putM r t y)
    rw [h4 y]
theorem putG_none {t : κ} (y : Int) : ∀ {m : List (κ × Int)}, getM m t = none → kvG kd m ++ [(kd t, .int .i64 y)] = kvG kd (putM m t y)
 | [], _ => rfl
 | (u, x) :: r, h => by
  rw [getM] at h
  split at h
  ·cases h
  ·rename_i hu
   rw [putM, if_neg hu]
   show (kd u, D.int .i64 x) :: (kvG kd r ++ [(kd t, .int .i64 y)]) = _
   rw [putG_none y h]; rfl
theorem findG_last (hs : ∀ a b, sameD (kd a) (kd b) = some (decide (a = b))) {t : κ} {z : D} : ∀ {m : List (κ × Int)}, getM m t = none → ∀ n, findD (kd t) (kvG kd m ++ [(kd t, z)]) n = some (some (n + (kvG kd m).length, z))
 | [], _, n => by
  show (match sameD (kd t) (kd t) with
   | some true => some (some (n, z))
   | some false => findD (kd t) [] (n + 1)
   | none => none) = _
  rw [hs, decide_eq_true rfl]; rfl
 | (u, x) :: r, h, n => by
  rw [getM] at h
  split at h
  ·cases h
  ·rename_i hu
   show (match sameD (kd t) (kd u) with
    | some true => some (some (n, D.int .i64 x))
    | some false => findD (kd t) (kvG kd r ++ [(kd t, z)]) (n + 1)
    | none => none) = _
   rw [hs, decide_eq_false hu]
   show findD (kd t) (kvG kd r ++ [(kd t, z)]) (n + 1) = _
   rw [findG_last hs h (n + 1)]
   show some (some (n + 1 + (kvG kd r).length, z)) = some (some (n + ((kvG kd r).length + 1), z))
   rw [show n + 1 + (kvG kd r).length = n + ((kvG kd r).length + 1) by omega]
theorem setVal_end {k x y : D} : ∀ (l : List (D × D)), setVal (l ++ [(k, x)]) l.length y = l ++ [(k, y)]
 | [] => rfl
 | p :: r => by
  show p :: setVal (r ++ [(k, x)]) r.length y = _
  rw [setVal_end r]; rfl
theorem getM_put (m : List (κ × Int)) (t u : κ) (y : Int) : getM (putM m t y) u = if u = t then some y else getM m u := by
 induction m with
 | nil => rfl
 | cons p r ih =>
  obtain ⟨w, x⟩ := p
  rw [putM]
  split
  ·rename_i h
   subst h
   simp only [getM]
   split <;> rfl
  ·rename_i h
   simp only [getM]
   split
   ·rename_i h2
    subst h2
    rw [if_neg (fun e => h e.symm)]
   ·exact ih
theorem putM_len (m : List (κ × Int)) (t : κ) (y : Int) : (putM m t y).length ≤ m.length + 1 := by
 induction m with
 | nil => simp [putM]
 | cons p r ih =>
  obtain ⟨w, x⟩ := p
  rw [putM]
  split
  ·simp
  ·simp; omega
theorem getM_isSome {m : List (κ × Int)} {t : κ} : (getM m t).isSome = true ↔ t ∈ m.map (·.1) := by
 induction m with
 | nil => simp [getM]
 | cons p r ih =>
  obtain ⟨w, x⟩ := p
  rw [getM]
  split
  ·rename_i h; subst h; simp
  ·rename_i h; simp [ih, h]
theorem kvG_length (m : List (κ × Int)) : (kvG kd m).length = m.length := by simp [kvG]
end
def methB (P : Program) (t : TypeId) (name : String) (g : FuncId) : Bool :=
 match P.info? t, P.underlying t with
 | some i, some d => (match d with
  | .pointer _ => false
  | _ => true) && (match i.methods.find? (·.name == name) with
  | some m => m.path.isEmpty && (match m.func with
   | some (g', false) => g' == g
   | _ => false)
  | none => false)
 | _, _ => false
theorem meth_of {P : Program} {t : TypeId} {name : String} {g : FuncId} (h : methB P t name g = true) (v : Value) (w : World) : (method (P.types.size + Made.depth) t v name).run P w = .ok (g, v) w := by
 unfold methB at h
 split at h
 case h_2 => cases h
 rename_i i d hi hd
 rw [Bool.and_eq_true] at h
 obtain ⟨hp, h⟩ := h
 split at h
 case h_2 => cases h
 rename_i m hm
 rw [Bool.and_eq_true] at h
 obtain ⟨hpath, h⟩ := h
 split at h
 case h_2 => cases h
 rename_i g' hf
 have : g' = g := by simpa using h
 subst this
 obtain ⟨n, hn⟩ : ∃ n, P.types.size + Made.depth = n + 1 := ⟨P.types.size + 99, rfl⟩
 have hpl : m.path.toList = [] := by
  have : m.path = #[] := by simpa using hpath
  rw [this]
 rw [hn, method]
 have h1 : (typeInfo t).run P w = .ok i w := by simp [typeInfo, hi]
 have hu : (underlying t).run P w = .ok d w := run_underlying hd w
 simp only [Sem.run_bind, h1, Result.andThen_ok, hm, hpl, follow, Sem.run_pure, hf]
 cases d <;> first | (simp at hp; done) | simp [receiverAt, hu, Sem.run_bind, Place.get]
theorem InvA_b {P : Program} {t : TypeId} {name : String} {K : FuncId → Prop} (g : FuncId) (h : methB P t name g = true) (hk : K g) : InvA P t name K := ⟨g, meth_of h, hk⟩
end Go.PX
namespace Go.PX
open Go.Proofs
structure LState where
 fl : Bool
 k : Int
 long : Int
 first : Bool
 deriving DecidableEq
def stageD (fl : Bool) (k : Int) : D := .ifc (if fl then 178 else 183) (i64 k)
def LState.cells (x : LState) : List D := [stageD x.fl x.k, i64 x.long, .bool x.first]
def LState.d (x : LState) : D := .agg x.cells
theorem same_stage (a b : Bool) (k j : Int) : sameI (stageD a k) (stageD b j) = some (decide (a = b) && decide (k = j)) := by
 cases a <;> cases b <;> simp [stageD, sameI, sameN, i64]
theorem same_i64 (a b : Int) : sameI (i64 a) (i64 b) = some (decide (a = b)) := by simp [sameI, i64]
theorem same_bool (a b : Bool) : sameI (.bool a) (.bool b) = some (a == b) := rfl
theorem same_state (x y : LState) : sameD x.d y.d = some (decide (x = y)) := by
 show sameL x.cells y.cells = _
 simp only [LState.cells, sameL, same_stage, same_i64, same_bool]
 cases x; cases y
 congr 1
 rw [Bool.eq_iff_iff]
 simp [and_assoc]
def spanOf (l : List LPhase) (x : LState) : Span := match l[x.k.toNat]? with
 | some p => if x.fl then p.flash else p.dark
 | none => ⟨0, 0⟩
theorem la139 (l : List LPhase) (k : Int) (p : LPhase) (hk : 0 ≤ k) (hp : l[k.toNat]? = some p) : FnV Tryz.prog 150 [i64 k, phasesD l] p.flash.d := by
 refine fnV_of mixed tysOk Tryz.func150 rfl (ft := ft150) 2 (by decide +kernel) (by rfl) fun {σ} Y st => ?_
 conv=>whnf
 refine elemK_i p.cells ⟨hk, by simp [hp]⟩ ?_
 conv=>whnf
 exact RetA_view 0 rfl ⟨⟨rfl, rfl⟩, rfl⟩
theorem la140 (l : List LPhase) (k : Int) (p : LPhase) (hk : 0 ≤ k) (hp : l[k.toNat]? = some p) : FnV Tryz.prog 151 [i64 k, phasesD l] p.dark.d := by
 refine fnV_of mixed tysOk Tryz.func151 rfl (ft := ft151) 2 (by decide +kernel) (by rfl) fun {σ} Y st => ?_
 conv=>whnf
 refine elemK_i p.cells ⟨hk, by simp [hp]⟩ ?_
 conv=>whnf
 exact RetA_view 0 rfl ⟨⟨rfl, rfl⟩, rfl⟩
theorem la118 (fl : Bool) (k many : Int) (hk : 0 ≤ k ∧ k ≤ 1000) (hm : 1 ≤ many ∧ many ≤ 1000) : FnV Tryz.prog 98 [stageD fl k, i64 many] (stageD (!fl) (if fl then k else (k + 1) % many)) := by
 cases fl with
 | true =>
  refine fnV_of mixed tysOk Tryz.func98 rfl (ft := ft98) 2 (by decide +kernel) (by rfl) fun {σ} Y st => ?_
  conv=>whnf
  exact RetA_view 0 rfl ⟨⟨rfl, rfl⟩, rfl⟩
 | false =>
  refine fnV_of mixed tysOk Tryz.func98 rfl (ft := ft98) 2 (by decide +kernel) (by rfl) fun {σ} Y st => ?_
  conv=>whnf
  refine arith_in (wrap_i64 (by (try dsimp only); omega)) ?_
  conv=>whnf
  refine chk_i (by simp; omega) ?_
  conv=>whnf
  refine RetA_view 0 rfl ⟨⟨?_, rfl⟩, rfl⟩
  have e : (k + 1).tmod many = (k + 1) % many := Int.tmod_eq_emod_of_nonneg (by omega)
  simp [packD, e, stageD, i64]
def behindS (many : Int) (x : LState) : LState := ⟨!x.fl, if x.fl then x.k else (x.k + 1) % many, 1, false⟩
def stepS (l : List LPhase) (ch : Bool) (x : LState) : Option LState :=
 if ch && (!x.first && decide (x.long < (spanOf l x).lo)) then none
 else if (if ch then behindS l.length x else ⟨x.fl, x.k, x.long + 1, x.first⟩).long ≤ (spanOf l (if ch then behindS l.length x else ⟨x.fl, x.k, x.long + 1, x.first⟩)).hi then some (if ch then behindS l.length x else ⟨x.fl, x.k, x.long + 1, x.first⟩) else none
def initA (b : Bool) (n : Nat) : List LState := (List.range n).map fun (k : Nat) => ⟨b, k, 1, true⟩
def failsF (l : List LPhase) : List Bool → Bool → List LState → Int → Int
 | [], _, _, _ => -1
 | b :: r, prev, A, s => if A.filterMap (stepS l (b != prev)) = [] then s else failsF l r b (A.filterMap (stepS l (b != prev))) (s + 1)
def failsL (lit : List Bool) (l : List LPhase) : Int := match lit with
 | [] => -1
 | b :: r => failsF l r b (initA b l.length) 1
abbrev Ms := List (LState × Int)
def incM (m : Ms) (y : LState) : Ms := putM m y ((getM m y).getD 0 + 1)
structure Cnt (m : Ms) (n : Nat) : Prop where
 len : m.length ≤ n
 bd : ∀ y v, getM m y = some v → 0 ≤ v ∧ v ≤ n
theorem Cnt.inc {m : Ms} {n : Nat} (h : Cnt m n) (y : LState) : Cnt (incM m y) (n + 1) := by
 refine ⟨Nat.le_trans (putM_len _ _ _) (by have := h.len; omega), fun u v hv => ?_⟩
 unfold incM at hv
 rw [getM_put] at hv
 split at hv
 ·cases hv
  cases hg : getM m y with
  | none => simp; omega
  | some z => have := h.bd y z hg; simp; omega
 ·have := h.bd u v hv; omega
theorem inc_some {m : Ms} {y u : LState} : (getM (incM m y) u).isSome = true ↔ u = y ∨ (getM m u).isSome = true := by
 unfold incM
 rw [getM_put]
 by_cases h : u = y
 ·simp [h]
 ·simp [h]
end Go.PX
namespace Go.PX
open Go.RowKit
def eqLs : List Bool → List Bool → Bool
 | [], [] => true
 | a :: r, b :: s => (match a, b with
  | true, true => true
  | false, false => true
  | _, _ => false) && eqLs r s
 | _, _ => false
theorem eqLs_iff : ∀ {a b : List Bool}, eqLs a b = true ↔ a = b
 | [], [] => by simp [eqLs]
 | [], _ :: _ => by simp [eqLs]
 | _ :: _, [] => by simp [eqLs]
 | a :: r, b :: s => by
  have := eqLs_iff (a := r) (b := s)
  cases a <;> cases b <;> simp [eqLs, this]
def inLs (l : List (List Bool)) (a : List Bool) : Bool := match l with
 | [] => false
 | b :: r => eqLs a b || inLs r a
def addLs (l : List (List Bool)) (a : List Bool) : List (List Bool) := match inLs l a with
 | true => l
 | false => a :: l
def addsLs : List (List Bool) → List (List Bool) → List (List Bool)
 | l, [] => l
 | l, a :: r => addsLs (addLs l a) r
def inLs_mem : ∀ {l : List (List Bool)} {a : List Bool}, inLs l a = true → a ∈ l
 | [], a, h => by simp [inLs] at h
 | b :: r, a, h => by
  simp only [inLs, Bool.or_eq_true] at h
  rcases h with h | h
  ·rw [eqLs_iff.1 h]; simp
  ·exact List.mem_cons_of_mem _ (inLs_mem h)
theorem mem_addLs {l : List (List Bool)} {a b : List Bool} (h : b ∈ l ∨ b = a) : b ∈ addLs l a := by
 unfold addLs
 split
 ·rename_i hi
  rcases h with h | rfl
  ·exact h
  ·exact inLs_mem hi
 ·rcases h with h | rfl
  ·exact List.mem_cons_of_mem _ h
  ·simp
theorem mem_addsLs : ∀ {r l : List (List Bool)} {b : List Bool}, b ∈ l ∨ b ∈ r → b ∈ addsLs l r
 | [], l, b, h => by
  rcases h with h | h
  ·exact h
  ·cases h
 | a :: r, l, b, h => by
  rw [addsLs]
  refine mem_addsLs ?_
  rcases h with h | h
  ·exact .inl (mem_addLs (.inl h))
  ·rcases List.mem_cons.1 h with rfl | h
   ·exact .inl (mem_addLs (.inr rfl))
   ·exact .inr h
def levelL (deps : List (List Nat)) : Nat → List (List Bool)
 | 0 => [deps.map fun _ => false]
 | k + 1 => addsLs [] ((levelL deps k).flatMap fun ls => (readyL ls 0 deps ls).map (setT ls))
def pairsL (deps : List (List Nat)) : Nat → List (List Bool × Nat)
 | 0 => []
 | k + 1 => pairsL deps k ++ (levelL deps k).flatMap fun ls => (readyL ls 0 deps ls).map fun i => (ls, i)
theorem mem_pairsL {deps : List (List Nat)} : ∀ {n k : Nat} {ls : List Bool} {i : Nat}, k < n → ls ∈ levelL deps k → i ∈ readyL ls 0 deps ls → (ls, i) ∈ pairsL deps n
 | 0, k, _, _, h, _, _ => by omega
 | n + 1, k, ls, i, h, h1, h2 => by
  rw [pairsL, List.mem_append]
  by_cases hk : k = n
  ·subst hk
   right
   exact List.mem_flatMap.2 ⟨ls, h1, List.mem_map.2 ⟨i, h2, rfl⟩⟩
  ·exact .inl (mem_pairsL (by omega) h1 h2)
noncomputable def allP {α : Type} (l : List α) (f : α → Prop) : Prop :=
 List.rec (motive := fun _ => Prop) True (fun a _ ih => f a ∧ ih) l
theorem allP_mem {α : Type} {f : α → Prop} : ∀ {l : List α}, allP l f → ∀ a ∈ l, f a
 | [], _, a, h => by cases h
 | b :: r, h, a, ha => by
  obtain ⟨h1, h2⟩ := (show f b ∧ allP r f from h)
  rcases List.mem_cons.1 ha with rfl | ha
  ·exact h1
  ·exact allP_mem h2 a ha
section
variable {P : Program} {T : Tys} {σ : Type} {Y : Hd σ} {cx : Cx σ} {r : Option Nat} {m : List Nat}
theorem wpInv_sound (hT : TysOk P T) (hY : Handles P Y cx) {ops : Array Oper} {deps : List (List Nat)} (hback : okBack 0 ops.toList = true) (hdeps : depsOk ops.toList deps = true) {F0 : Nat → Nat} {w0 : World} {n0 : Nat} (hd : ∀ o ∈ ops.toList, ∀ d, o.dst = some d → d < n0) {K : Env → Heap → σ → Prop} {I : List Bool → Env × Heap} {s : σ}
  {N : Nat} (hk : ∀ (k : Nat) (ls : List Bool), k < N → ls ∈ levelL deps k → ∀ i ∈ readyL ls 0 deps ls, stepAt P T Y ops.toList ops.toList[i]? (I ls).1 (I ls).2 s fun e h s' => Wk (⟨e, h, s'⟩ : St σ) ⟨(I (setT ls i)).1, (I (setT ls i)).2, s⟩)
  (hfin : ∀ ls, unl ls = 0 → ls.length = ops.size → K (I ls).1 (I ls).2 s) :
  ∀ (n : Nat) {ls : List Bool} {k : Nat} {L : Loc} {F : Nat → Nat} {a : Act} {w : World}, n + k = N → ls ∈ levelL deps k → ls.length = ops.size → unl ls = n → Good cx r m L F ⟨(I ls).1, (I ls).2, s⟩ a w → a.tmps.size = n0 → Tr F0 w0 F w →
   wpAnyIn (fr r) 0 P .any ops (OpsPost cx r m F0 w0 n0 K) n ls.toArray a w := by
 obtain ⟨hdl, hds⟩ := depsOk_spec hdeps
 have hdl : ops.size = deps.length := by simpa using hdl
 intro n
 induction n with
 | zero =>
  intro ls k L F a w hnk hlev hl hu hg hs tr
  refine ⟨?_, (I ls).1, (I ls).2, s, L, F, rfl, hfin ls hu hl, hg, tr, hs⟩
  cases hr : Region.ready .any ops ls.toArray with
  | nil => rfl
  | cons i _ =>
   have : i ∈ Region.ready .any ops ls.toArray := by rw [hr]; exact List.mem_cons_self ..
   have := getD_true_at.1 (mem_ready.1 this).1
   exact absurd this (unl_zero hu i)
 | succ n ih =>
  intro ls k L F a w hnk hlev hl hu hg hs tr
  refine ⟨fun hr => ?_, fun i hi => ?_⟩
  ·exfalso
   obtain ⟨i, h1, h2⟩ := unl_pos (ls := ls) (by omega)
   have his : i < ops.size := by rw [← hl]; exact (List.getElem?_eq_some_iff.1 h1).1
   have : i ∈ Region.ready .any ops ls.toArray := by
    rw [mem_ready]
    refine ⟨getD_true_at.2 h1, ops[i], Array.getElem?_eq_getElem his, fun e he hb => ?_⟩
    have hlt := okBack_spec hback i ops[i] (by simp) e he hb
    exact getD_false_at.2 (h2 e.on (by omega))
   rw [hr] at this
   cases this
  ·obtain ⟨hjl, oj, hoj, hedges⟩ := mem_ready.1 hi
   have his : i < ops.size := (Array.getElem?_eq_some_iff.1 hoj).1
   have hli := getD_true_at.1 hjl
   have hdi : deps[i]? = some (deps[i]'(by omega)) := List.getElem?_eq_getElem _
   have hrdy : i ∈ readyL ls 0 deps ls := by
    have := mem_readyL (ls := ls) (ds := deps) (bs := ls) (k := 0) (i := i) hdi hli (allTrue_of fun j hj => by
     obtain ⟨e, he, hb, rfl⟩ := hds i oj _ (by simpa using hoj) hdi j hj
     have := hedges e he hb
     rw [isTrue_iff]
     have := getD_false_at.1 this
     rw [Array.getD_eq_getD_getElem?]
     simp [this])
    simpa using this
   have hki := hk k ls (by omega) hlev i hrdy
   have hot : ops.toList[i]? = some oj := by simpa using hoj
   rw [hot] at hki
   obtain ⟨dst, op, ty, pos, after, guard⟩ := oj
   refine wpOp_sound hT hY hoj hg (fun d hdst => by rw [hs]; exact hd _ (List.mem_of_getElem? hot) d hdst) hki fun e' h' s' L' F' a' w' hg' hs' tr' hk' => ?_
   have hset : ls.toArray.setIfInBounds i true = (setT ls i).toArray := by rw [setT_eq]; simp
   rw [hset]
   obtain ⟨L2, F2, hg2, tr2⟩ := hk' cx r m L' F' a' w' hg'
   refine ih (k := k + 1) (by omega) ?_ (by rw [setT_eq]; simpa using hl) ?_ hg2 (hs'.trans hs) (Tr.trans tr (Tr.trans tr' tr2))
   ·rw [levelL]
    exact mem_addsLs (.inr (List.mem_flatMap.2 ⟨ls, hlev, List.mem_map.2 ⟨i, hrdy, rfl⟩⟩))
   ·rw [setT_eq]
    have := unl_set hli
    omega
variable {ft : FT}
theorem RegionA_inv (hm : P.follows .mixedOrders = true) (hT : TysOk P T) (deps : List (List Nat)) (I : List Bool → Env × Heap) {id : Nat} {ops : Array Oper} (hst : (okBack 0 ops.toList && depsOk ops.toList deps) = true) {e : Env} {h : Heap} {s : σ} {K : AExit → St σ → Prop}
  (h0 : Wk (⟨e, h, s⟩ : St σ) ⟨(I (deps.map fun _ => false)).1, (I (deps.map fun _ => false)).2, s⟩)
  (hk : allP (pairsL deps deps.length) fun p => stepAt P T Y ops.toList ops.toList[p.2]? (I p.1).1 (I p.1).2 s fun e h s' => Wk (⟨e, h, s'⟩ : St σ) ⟨(I (setT p.1 p.2)).1, (I (setT p.1 p.2)).2, s⟩)
  (hfin : K .normal ⟨keepT ft.ks (I (deps.map fun _ => true)).1, (I (deps.map fun _ => true)).2, s⟩) : RegionA P ft Y id ops ⟨e, h, s⟩ K := by
 refine ⟨fun cx hY r m L F a w hg hc => ?_⟩
 rw [Bool.and_eq_true] at hst
 obtain ⟨hdl, _⟩ := depsOk_spec hst.2
 have hdl : ops.size = deps.length := by simpa using hdl
 obtain ⟨L0, F0, hg0, tr0⟩ := h0 cx r m L F a w hg
 refine wpIn_mono (wpIn_region_any (id := id) (Q := OpsPost cx r m F w a.tmps.size (fun e h s' => e = (I (deps.map fun _ => true)).1 ∧ h = (I (deps.map fun _ => true)).2 ∧ s' = s)) hm ?_) fun ex a' w' hq => ?_
 ·have hrep : Array.replicate ops.size false = (deps.map fun _ => false).toArray := by
   rw [hdl]
   have : ∀ l : List (List Nat), (l.map fun _ => false) = List.replicate l.length false := by
    intro l
    induction l with
    | nil => rfl
    | cons x r ih => rw [List.map_cons, ih]; rfl
   rw [this]; simp
  have hunl : ∀ l : List (List Nat), unl (l.map fun _ => false) = l.length := by
   intro l
   induction l with
   | nil => rfl
   | cons x r ih => simp [unl, ih]
  have hall : ∀ (ds : List (List Nat)) (ls : List Bool), unl ls = 0 → ls.length = ds.length → ls = ds.map fun _ => true := by
   intro ds
   induction ds with
   | nil => intro ls _ h; exact List.length_eq_zero_iff.1 h
   | cons d ds ih =>
    intro ls hu h
    cases ls with
    | nil => simp at h
    | cons b ls =>
     cases b with
     | false => simp [unl] at hu
     | true => rw [List.map_cons, ← ih ls (by simpa [unl] using hu) (by simpa using h)]
  rw [hrep, hdl]
  refine wpInv_sound (I := I) (s := s) (N := deps.length) hT hY hst.1 hst.2 (opsOk_of hc) (fun k ls hk2 hlev i hi => allP_mem hk (ls, i) (mem_pairsL hk2 hlev hi)) (fun ls hu hl => ?_) deps.length (k := 0) rfl (by simp [levelL]) (by simp [hdl]) (hunl deps) (hg0.same (w' := { w with drawn := w.drawn + 1 }) rfl rfl rfl rfl) rfl (Tr.trans tr0 (Tr.drew _))
  rw [hall deps ls hu (by rw [hl, hdl])]
  exact ⟨rfl, rfl, rfl⟩
 ·obtain ⟨e', h', s', L', F', hex, ⟨rfl, rfl, rfl⟩, hg', tr, hs⟩ := hq
  exact ⟨.normal, _, m, L', F', hex, hfin, hg'.sub (sub_keepT ft.ks _) (fun _ _ h => h), tr, hs⟩
end
end Go.PX
namespace Go.PX
open Go.Proofs
def selE : List Bool → List (Option (Nat × V)) → Env
 | true :: ls, some p :: r => p :: selE ls r
 | true :: ls, none :: r => selE ls r
 | false :: ls, _ :: r => selE ls r
 | _, _ => []
def sel3 (ls : List Bool) (a b : Nat) (x y z : List (D × D)) : List (D × D) :=
 match isTrue ls b with
 | true => z
 | false => match isTrue ls a with
  | true => y
  | false => x
def Nxt (l : List LPhase) (ch : Bool) (m : Ms) (todo : List Nat) (next : Ms) : Prop :=
 ∀ y, (getM next y).isSome = true ↔ ∃ j x v, j ∉ todo ∧ m[j]? = some (x, v) ∧ stepS l ch x = some y
theorem not_mem_filter {todo : List Nat} {i j : Nat} : j ∉ (todo.filter fun k => !Nat.beq k i) ↔ j ∉ todo ∨ j = i := by
 rw [List.mem_filter]
 have : (!Nat.beq j i) = true ↔ j ≠ i := by
  rw [Bool.not_eq_true', Bool.eq_false_iff]
  exact ⟨fun h e => h (by subst e; simp), fun h e => h (Nat.eq_of_beq_eq_true e)⟩
 rw [this]
 by_cases h : j = i <;> simp [h]
theorem Nxt.none {l : List LPhase} {ch : Bool} {m : Ms} {todo : List Nat} {next : Ms} (h : Nxt l ch m todo next) {i : Nat} {x : LState} {v : Int} (hi : m[i]? = some (x, v)) (hs : stepS l ch x = none) : Nxt l ch m (todo.filter fun k => !Nat.beq k i) next := by
 intro y
 rw [h y]
 constructor
 ·rintro ⟨j, x', v', h1, h2, h3⟩
  exact ⟨j, x', v', not_mem_filter.2 (.inl h1), h2, h3⟩
 ·rintro ⟨j, x', v', h1, h2, h3⟩
  rcases not_mem_filter.1 h1 with h1 | rfl
  ·exact ⟨j, x', v', h1, h2, h3⟩
  ·rw [hi] at h2; cases h2
   rw [hs] at h3; cases h3
theorem Nxt.some {l : List LPhase} {ch : Bool} {m : Ms} {todo : List Nat} {next : Ms} (h : Nxt l ch m todo next) {i : Nat} {x y0 : LState} {v : Int} (hi : m[i]? = some (x, v)) (hs : stepS l ch x = some y0) : Nxt l ch m (todo.filter fun k => !Nat.beq k i) (incM next y0) := by
 intro y
 rw [inc_some, h y]
 constructor
 ·rintro (rfl | ⟨j, x', v', h1, h2, h3⟩)
  ·exact ⟨i, x, v, not_mem_filter.2 (.inr rfl), hi, hs⟩
  ·exact ⟨j, x', v', not_mem_filter.2 (.inl h1), h2, h3⟩
 ·rintro ⟨j, x', v', h1, h2, h3⟩
  rcases not_mem_filter.1 h1 with h1 | rfl
  ·exact .inr ⟨j, x', v', h1, h2, h3⟩
  ·rw [hi] at h2; cases h2
   rw [hs] at h3; cases h3
   exact .inl rfl
def MapOf (m : Ms) (A : List LState) : Prop := ∀ y, (getM m y).isSome = true ↔ y ∈ A
theorem Nxt.fin {l : List LPhase} {ch : Bool} {m : Ms} {next : Ms} {A : List LState} (hm : MapOf m A) (h : Nxt l ch m [] next) : MapOf next (A.filterMap (stepS l ch)) := by
 intro y
 rw [h y, List.mem_filterMap]
 constructor
 ·rintro ⟨j, x, v, _, h2, h3⟩
  exact ⟨x, (hm x).1 (getM_isSome.2 (List.mem_map.2 ⟨(x, v), List.mem_of_getElem? h2, rfl⟩)), h3⟩
 ·rintro ⟨x, hx, h3⟩
  have h4 := getM_isSome.1 ((hm x).2 hx)
  obtain ⟨⟨x', v⟩, h5, rfl⟩ := List.mem_map.1 h4
  obtain ⟨j, h6⟩ := List.mem_iff_getElem?.1 h5
  exact ⟨j, x', v, by simp, h6, h3⟩
theorem MapOf.empty {m : Ms} {A : List LState} (hm : MapOf m A) : m.length = 0 ↔ A = [] := by
 rw [List.length_eq_zero_iff]
 constructor
 ·rintro rfl
  rw [List.eq_nil_iff_forall_not_mem]
  intro y hy
  have := (hm y).2 hy
  simp [getM] at this
 ·rintro rfl
  cases m with
  | nil => rfl
  | cons p r =>
   have := (hm p.1).1 (getM_isSome.2 (by simp))
   cases this
theorem MapOf.get {m : Ms} {A : List LState} (hm : MapOf m A) {i : Nat} {x : LState} {v : Int} (h : m[i]? = some (x, v)) : x ∈ A :=
 (hm x).1 (getM_isSome.2 (List.mem_map.2 ⟨(x, v), List.mem_of_getElem? h, rfl⟩))
theorem filter_lt {todo : List Nat} {i : Nat} (h : i ∈ todo) : (todo.filter fun k => !Nat.beq k i).length < todo.length := by
 rcases Nat.lt_or_ge (todo.filter fun k => !Nat.beq k i).length todo.length with h1 | h1
 ·exact h1
 ·exfalso
  have h2 := (List.filter_sublist (l := todo) (p := fun k => !Nat.beq k i)).eq_of_length_le h1
  have : i ∈ todo.filter fun k => !Nat.beq k i := by rw [h2]; exact h
  rw [List.mem_filter] at this
  simp at this
theorem kvG_get {m : Ms} {i : Nat} {kv : D × D} (h : (kvG LState.d m)[i]? = some kv) : ∃ x v, m[i]? = some (x, v) ∧ kv = (x.d, i64 v) := by
 unfold kvG at h
 rw [List.getElem?_map, Option.map_eq_some_iff] at h
 obtain ⟨⟨x, v⟩, h1, h2⟩ := h
 exact ⟨x, v, h1, h2.symm⟩
structure StR (l : List LPhase) (n : Int) (x : LState) : Prop where
 k : 0 ≤ x.k ∧ x.k < l.length
 long : 1 ≤ x.long ∧ x.long ≤ n
theorem step_ok {l : List LPhase} {n : Int} (hp : 1 ≤ l.length) {ch : Bool} {x y : LState} (hn : 1 ≤ n) (h : StR l n x) (hs : stepS l ch x = some y) : StR l (n + 1) y := by
 have hk := h.k
 have hl := h.long
 have hy : y = if ch then behindS l.length x else ⟨x.fl, x.k, x.long + 1, x.first⟩ := by
  unfold stepS at hs
  by_cases h1 : (ch && (!x.first && decide (x.long < (spanOf l x).lo))) = true
  ·rw [if_pos h1] at hs; cases hs
  ·rw [if_neg h1] at hs
   by_cases h2 : (if ch then behindS l.length x else ⟨x.fl, x.k, x.long + 1, x.first⟩).long ≤ (spanOf l (if ch then behindS l.length x else ⟨x.fl, x.k, x.long + 1, x.first⟩)).hi
   ·rw [if_pos h2] at hs; exact (Option.some.inj hs).symm
   ·rw [if_neg h2] at hs; cases hs
 subst hy
 cases ch with
 | true =>
  simp only [if_true, behindS]
  constructor
  ·simp only
   split
   ·exact hk
   ·exact ⟨Int.emod_nonneg _ (by omega), Int.emod_lt_of_pos _ (by omega)⟩
  ·simp only; omega
 | false => exact ⟨hk, by show 1 ≤ x.long + 1 ∧ x.long + 1 ≤ n + 1; omega⟩
theorem init_ok {l : List LPhase} {b : Bool} : ∀ x ∈ initA b l.length, StR l 1 x := by
 intro x hx
 obtain ⟨k, hk, rfl⟩ := List.mem_map.1 hx
 have := List.mem_range.1 hk
 exact ⟨by simp only; omega, by simp only; omega⟩
end Go.PX
namespace Go.PX
open Go.Proofs
def ft53b : FT := ((ft53.less 6).less 7).less 21
set_option maxHeartbeats 4000000 in
theorem la90 (lit : List Bool) (l : List LPhase) (hl0 : lit ≠ []) (hl : lit.length ≤ 200) (hp : 1 ≤ l.length ∧ l.length ≤ 3) : FnV Tryz.prog 53 [boolsD lit, phasesD l] (i64 (failsL lit l)) := by
 refine fnV_of mixed tysOk Tryz.func53 rfl (ft := ft53b) 2 (by decide +kernel) (by rfl) fun {σ} Y st => ?_
 conv=>whnf
 obtain ⟨b0, r0, rfl⟩ : ∃ b r, lit = b :: r := by
  cases lit with
  | nil => exact absurd rfl hl0
  | cons b r => exact ⟨b, r, rfl⟩
 refine LoopA_i (T := tys) tysOk (by exact drawsB_spec mixed tysOk (by decide +kernel)) l (fun i (m : Ms) => ⟨[(0, .d (boolsD (b0 :: r0))), (1, .d (phasesD l)), (5, .mp 11), (13, .d (i64 l.length)), (14, .d (i64 i))], [(11, .map (kvG LState.d m))], st⟩)
  (fun i r m => Cnt m i ∧ ∀ y, (getM m y).isSome = true ↔ y ∈ initA b0 i) [] (Wk.sub ⟨(by first | rfl | (simp only [List.length_map]; rfl) | simp [PX.get]), (by first | rfl | (simp only [List.length_map]; rfl) | simp [PX.get]), (by first | rfl | (simp only [List.length_map]; rfl) | simp [PX.get]), (by first | rfl | (simp only [List.length_map]; rfl) | simp [PX.get]), (by first | rfl | (simp only [List.length_map]; rfl) | simp [PX.get]), trivial⟩ ⟨(by first | rfl | (simp only [List.length_map]; rfl) | simp [PX.get]), trivial⟩) ⟨⟨by simp, fun y v h => by cases h⟩, fun y => by simp [initA, getM]⟩ ?_ ?_
 ·intro i p r m hx hi hr ⟨hc, hm⟩
  have hin : ∀ y, y ∈ initA b0 (i + 1) ↔ y = ⟨b0, i, 1, true⟩ ∨ y ∈ initA b0 i := by
   intro y
   unfold initA
   rw [List.range_succ, List.map_append, List.mem_append]
   simp [or_comm]
  conv=>whnf
  refine brk_i (fun _ => ?_) (fun h => absurd hi (by simpa using h))
  conv=>whnf
  cases b0 with
  | true =>
   have hg0 : getM m ⟨true, i, 1, true⟩ = none := by
    cases hg : getM m ⟨true, i, 1, true⟩ with
    | none => rfl
    | some v =>
     exfalso
     have := (hm ⟨true, i, 1, true⟩).1 (by rw [hg]; rfl)
     obtain ⟨j, hj, he⟩ := List.mem_map.1 this
     have hj := List.mem_range.1 hj
     have : (j : Int) = i := congrArg LState.k he
     omega
   have g1 := findG_none (kd := LState.d) same_state hg0 0
   have g2 : findD (LState.d ⟨true, i, 1, true⟩) (kvG LState.d m ++ [(LState.d ⟨true, i, 1, true⟩, i64 0)]) 0 = some (some ((kvG LState.d m).length, i64 0)) := by
    rw [findG_last same_state hg0 0]; simp
   have hB : (decide ((0 : Int) ≤ ((kvG LState.d m).length : Int)) && decide (((kvG LState.d m).length : Int) < ((kvG LState.d m ++ [(LState.d ⟨true, i, 1, true⟩, i64 0)]).length : Int))) = true := by
    simp; omega
   have hfin : setVal (kvG LState.d m ++ [(LState.d ⟨true, i, 1, true⟩, i64 0)]) (kvG LState.d m).length (i64 (0 + 1)) = kvG LState.d (incM m ⟨true, i, 1, true⟩) := by
    rw [setVal_end]
    have := putG_none (kd := LState.d) 1 hg0
    rw [show i64 (0 + 1) = D.int .i64 1 from rfl, this, incM, hg0]; rfl
   conv=>whnf
   refine RegionA_inv mixed tysOk [[], [], [1], [2], [0, 3], [4], [0, 1, 2, 3], [6], [0, 1, 2, 3, 4, 5, 6, 7]] (fun ls => (selE ls [some (20, .mp 11), some (21, .d (i64 i)), some (22, .d (stageD true i)), some (23, .d (LState.d ⟨true, i, 1, true⟩)), some (24, .d (i64 0)), some (25, .d (i64 (0 + 1))), some (26, .d (.tup [i64 0, i64 (kvG LState.d m).length])), some (27, .d (i64 (kvG LState.d m).length)), none] ++ [(0, .d (boolsD (true :: r0))), (1, .d (phasesD l)), (5, .mp 11), (13, .d (i64 l.length)), (14, .d (i64 i)), (6, .d (i64 i))], [(11, .map (sel3 ls 6 8 (kvG LState.d m) (kvG LState.d m ++ [(LState.d ⟨true, i, 1, true⟩, i64 0)]) (setVal (kvG LState.d m ++ [(LState.d ⟨true, i, 1, true⟩, i64 0)]) (kvG LState.d m).length (i64 (0 + 1)))))])) (by decide +kernel) ?_ ?_ ?_
   ·exact Wk.sub ⟨rfl, rfl, rfl, rfl, rfl, rfl, trivial⟩ ⟨rfl, trivial⟩
   ·conv=>whnf
    repeat' (first
     | trivial
     | (refine And.intro ?_ ?_ <;> conv=>whnf)
     | (refine findK.mk _ (g1) ?_; conv=>whnf)
     | (refine findK.mk _ (g2) ?_; conv=>whnf)
     | (refine arith_in (wrap_i64 (by omega)) ?_; conv=>whnf)
     | (refine chk_i hB ?_; conv=>whnf)
     | (refine Wk.sub ?_ ?_ <;> (repeat' (first | exact trivial | refine ⟨rfl, ?_⟩))))
   ·conv=>whnf
    refine arith_in (wrap_i64 (by omega)) ?_
    conv=>whnf
    refine ⟨incM m ⟨true, i, 1, true⟩, ⟨hc.inc _, fun u => by rw [inc_some, hin, hm]⟩, Wk.sub ⟨rfl, rfl, rfl, rfl, rfl, trivial⟩ ⟨?_, trivial⟩⟩
    exact congrArg (fun z => some (Obj.map z)) hfin
  | false =>
   have hg0 : getM m ⟨false, i, 1, true⟩ = none := by
    cases hg : getM m ⟨false, i, 1, true⟩ with
    | none => rfl
    | some v =>
     exfalso
     have := (hm ⟨false, i, 1, true⟩).1 (by rw [hg]; rfl)
     obtain ⟨j, hj, he⟩ := List.mem_map.1 this
     have hj := List.mem_range.1 hj
     have : (j : Int) = i := congrArg LState.k he
     omega
   have g1 := findG_none (kd := LState.d) same_state hg0 0
   have g2 : findD (LState.d ⟨false, i, 1, true⟩) (kvG LState.d m ++ [(LState.d ⟨false, i, 1, true⟩, i64 0)]) 0 = some (some ((kvG LState.d m).length, i64 0)) := by
    rw [findG_last same_state hg0 0]; simp
   have hB : (decide ((0 : Int) ≤ ((kvG LState.d m).length : Int)) && decide (((kvG LState.d m).length : Int) < ((kvG LState.d m ++ [(LState.d ⟨false, i, 1, true⟩, i64 0)]).length : Int))) = true := by
    simp; omega
   have hfin : setVal (kvG LState.d m ++ [(LState.d ⟨false, i, 1, true⟩, i64 0)]) (kvG LState.d m).length (i64 (0 + 1)) = kvG LState.d (incM m ⟨false, i, 1, true⟩) := by
    rw [setVal_end]
    have := putG_none (kd := LState.d) 1 hg0
    rw [show i64 (0 + 1) = D.int .i64 1 from rfl, this, incM, hg0]; rfl
   conv=>whnf
   refine RegionA_inv mixed tysOk [[], [], [1], [2], [0, 3], [4], [0, 1, 2, 3], [6], [0, 1, 2, 3, 4, 5, 6, 7]] (fun ls => (selE ls [some (28, .mp 11), some (29, .d (i64 i)), some (30, .d (stageD false i)), some (31, .d (LState.d ⟨false, i, 1, true⟩)), some (32, .d (i64 0)), some (33, .d (i64 (0 + 1))), some (34, .d (.tup [i64 0, i64 (kvG LState.d m).length])), some (35, .d (i64 (kvG LState.d m).length)), none] ++ [(0, .d (boolsD (false :: r0))), (1, .d (phasesD l)), (5, .mp 11), (13, .d (i64 l.length)), (14, .d (i64 i)), (6, .d (i64 i))], [(11, .map (sel3 ls 6 8 (kvG LState.d m) (kvG LState.d m ++ [(LState.d ⟨false, i, 1, true⟩, i64 0)]) (setVal (kvG LState.d m ++ [(LState.d ⟨false, i, 1, true⟩, i64 0)]) (kvG LState.d m).length (i64 (0 + 1)))))])) (by decide +kernel) ?_ ?_ ?_
   ·exact Wk.sub ⟨rfl, rfl, rfl, rfl, rfl, rfl, trivial⟩ ⟨rfl, trivial⟩
   ·conv=>whnf
    repeat' (first
     | trivial
     | (refine And.intro ?_ ?_ <;> conv=>whnf)
     | (refine findK.mk _ (g1) ?_; conv=>whnf)
     | (refine findK.mk _ (g2) ?_; conv=>whnf)
     | (refine arith_in (wrap_i64 (by omega)) ?_; conv=>whnf)
     | (refine chk_i hB ?_; conv=>whnf)
     | (refine Wk.sub ?_ ?_ <;> (repeat' (first | exact trivial | refine ⟨rfl, ?_⟩))))
   ·conv=>whnf
    refine arith_in (wrap_i64 (by omega)) ?_
    conv=>whnf
    refine ⟨incM m ⟨false, i, 1, true⟩, ⟨hc.inc _, fun u => by rw [inc_some, hin, hm]⟩, Wk.sub ⟨rfl, rfl, rfl, rfl, rfl, trivial⟩ ⟨?_, trivial⟩⟩
    exact congrArg (fun z => some (Obj.map z)) hfin
 intro m ⟨hc, hm⟩
 have hfl : failsL (b0 :: r0) l = failsF l r0 b0 (initA b0 l.length) 1 := rfl
 rw [hfl]
 have hini := init_ok (l := l) (b := b0)
 generalize initA b0 l.length = A at hm hfl hini
 conv=>whnf
 refine brk_i (fun h => absurd h (by simp)) (fun _ => ?_)
 conv=>whnf
 refine LoopA_p (T := tys) tysOk (by exact drawsB_spec mixed tysOk (by decide +kernel)) (α := Nat × (List LState × Ms))
  (fun p => ⟨[(0, .d (boolsD (b0 :: r0))), (1, .d (phasesD l)), (5, .mp 900001), (7, .d (i64 p.1))], [(900001, .map (kvG LState.d p.2.2))], st⟩)
  (fun p => 1 ≤ p.1 ∧ p.1 ≤ r0.length + 1 ∧ p.2.2.length ≤ 3 ∧ MapOf p.2.2 p.2.1 ∧ (∀ x ∈ p.2.1, StR l p.1 x) ∧ ∃ pb, (b0 :: r0)[p.1 - 1]? = some pb ∧ failsF l r0 b0 A 1 = failsF l (r0.drop (p.1 - 1)) pb p.2.1 p.1) (fun p => r0.length + 1 - p.1) (1, (A, m)) ?wk ?pr ?_
 case wk => exact (Wk.move 11 900001 rfl rfl).trans (Wk.sub ⟨(by first | rfl | (simp only [List.length_map]; rfl) | simp [PX.get]), (by first | rfl | (simp only [List.length_map]; rfl) | simp [PX.get]), (by first | rfl | (simp only [List.length_map]; rfl) | simp [PX.get]), (by first | rfl | (simp only [List.length_map]; rfl) | simp [PX.get]), trivial⟩ ⟨(by first | rfl | (simp only [List.length_map]; rfl) | simp [PX.get]), trivial⟩)
 case pr => exact ⟨Nat.le_refl _, by simp only; omega, by have := hc.len; simp only; omega, hm, by simpa using hini, b0, rfl, rfl⟩
 clear hc hm hini hfl
 rintro ⟨s, B, m⟩ ⟨hs1, hs2, hml, hm, hst, pb, hpb, hfl⟩
 simp only at hs1 hs2 hml hm hst hpb hfl
 rw [hfl]
 conv=>whnf
 refine brk_i (fun h1 => ?_) (fun h1 => ?_)
 case refine_2 =>
  have h1 : ¬ s < r0.length + 1 := by have := of_decide_eq_false h1; simp at this; omega
  rw [List.drop_eq_nil_of_le (by omega), failsF]
  conv=>whnf
  exact RetA_view 0 rfl ⟨⟨rfl, rfl⟩, rfl⟩
 have h1 : s < r0.length + 1 := by have := of_decide_eq_true h1; simp at this; omega
 have hs200 : (s : Int) ≤ 199 := by
  have : (b0 :: r0).length = r0.length + 1 := rfl
  omega
 obtain ⟨cb, hcb⟩ : ∃ cb, (b0 :: r0)[s]? = some cb := ⟨_, List.getElem?_eq_getElem (by simpa using h1)⟩
 have hdr : r0.drop (s - 1) = cb :: r0.drop s := by
  obtain ⟨s', rfl⟩ : ∃ s', s = s' + 1 := ⟨s - 1, by omega⟩
  rw [List.getElem?_cons_succ] at hcb
  have hlt := (List.getElem?_eq_some_iff.1 hcb).1
  rw [Nat.add_sub_cancel, List.drop_eq_getElem_cons hlt]
  rw [List.getElem?_eq_getElem hlt] at hcb
  rw [Option.some.inj hcb]
 rw [hdr, failsF]
 have hcg : (List.map (fun b => [D.bool b]) (b0 :: r0))[((s : Nat) : Int).toNat]? = some [.bool cb] := by
  rw [Int.toNat_natCast, List.getElem?_map, hcb]; rfl
 have hpg : (List.map (fun b => [D.bool b]) (b0 :: r0))[((s : Int) - 1).toNat]? = some [.bool pb] := by
  rw [show ((s : Int) - 1).toNat = s - 1 by omega, List.getElem?_map, hpb]; rfl
 have hlen3 : m.length ≤ 3 := hml
 conv=>whnf
 refine LoopA_p (T := tys) tysOk (by exact drawsB_spec mixed tysOk (by decide +kernel)) (α := List Nat × (Ms × (Nat × Option Nat)))
  (fun p => ⟨[(0, .d (boolsD (b0 :: r0))), (1, .d (phasesD l)), (5, .mp 900001), (7, .d (i64 s)), (8, .mp 43), (45, .it 45)], [(900001, .map (kvG LState.d m)), (43, .map (kvG LState.d p.2.1)), (45, .mit (.mp 900001) m.length p.1 p.2.2.2)], st⟩)
  (fun p => Cnt p.2.1 p.2.2.1 ∧ p.2.2.1 + p.1.length ≤ m.length ∧ Nxt l (cb != pb) m p.1 p.2.1) (fun p => p.1.length) (List.range m.length, ([], (0, none))) ?wk2 ?pr2 ?_
 case wk2 =>
  refine Wk.sub ⟨rfl, rfl, rfl, rfl, rfl, rfl, trivial⟩ ⟨rfl, rfl, ?_, trivial⟩
  show some (Obj.mit (V.mp 900001) (kvG LState.d m).length (List.range (kvG LState.d m).length) none) = _
  rw [kvG_length]
 case pr2 =>
  refine ⟨⟨Nat.le_refl _, fun y v h => by cases h⟩, by simp, fun y => ?_⟩
  constructor
  ·intro h; cases h
  ·rintro ⟨j, x, v, h1, h2, _⟩
   have := (List.getElem?_eq_some_iff.1 h2).1
   exact absurd (List.mem_range.2 this) h1
 rintro ⟨todo, next, c, cur⟩ ⟨hcn, hct, hnx⟩
 simp only at hcn hct hnx
 conv=>whnf
 refine ⟨by simp [kvG_length], fun h0 => ?_, fun i kv hi hkv => ?_⟩
 ·have h0 : todo = [] := h0
  subst h0
  have hfin := Nxt.fin hm hnx
  have hnl : next.length ≤ 3 := by have := hcn.len; simp only [List.length_nil] at hct; omega
  conv=>whnf
  refine brk_i (fun h2 => ?_) (fun h2 => ?_)
  ·have h2 : next.length = 0 := by
    have := of_decide_eq_true h2
    rw [kvG_length] at this
    exact Int.ofNat.inj this
   rw [if_pos (hfin.empty.1 h2)]
   conv=>whnf
   exact RetA_view 0 rfl ⟨⟨rfl, rfl⟩, rfl⟩
  ·have h2 : ¬ next.length = 0 := by
    have := of_decide_eq_false h2
    rw [kvG_length] at this
    exact fun e => this (congrArg Int.ofNat e)
   rw [if_neg (fun h => h2 (hfin.empty.2 h))]
   conv=>whnf
   refine arith_to (((s + 1 : Nat) : Int)) (by (try dsimp only); omega) (wrap_i64 (by (try dsimp only); omega)) ?_
   conv=>whnf
   refine ⟨(s + 1, (B.filterMap (stepS l (cb != pb)), next)), by simp only; omega, ⟨by simp only; omega, by simp only; omega, hnl, hfin, ?_, cb, ?_, ?_⟩, (Wk.move 43 900001 rfl rfl).trans (Wk.sub ⟨(by first | rfl | (simp only [List.length_map]; rfl) | simp [PX.get]), (by first | rfl | (simp only [List.length_map]; rfl) | simp [PX.get]), (by first | rfl | (simp only [List.length_map]; rfl) | simp [PX.get]), (by first | rfl | (simp only [List.length_map]; rfl) | simp [PX.get]), trivial⟩ ⟨(by first | rfl | (simp only [List.length_map]; rfl) | simp [PX.get]), trivial⟩)⟩
   ·intro y hy
    obtain ⟨x, hx, hxy⟩ := List.mem_filterMap.1 hy
    exact step_ok hp.1 (by omega) (hst x hx) hxy
   ·exact hcb
   ·rfl
 ·obtain ⟨x, v, hx, rfl⟩ := kvG_get hkv
  have hi : i ∈ todo := hi
  have hlt := filter_lt hi
  have hxB := hm.get hx
  obtain ⟨⟨hk0, hk1⟩, hlo⟩ := hst x hxB
  conv=>whnf
  obtain ⟨fl, k, long, first⟩ := x
  simp only at hk0 hk1 hlo
  obtain ⟨p, hp1⟩ : ∃ p, l[k.toNat]? = some p := ⟨_, List.getElem?_eq_getElem (by omega)⟩
  have hls : long ≤ 200 := by omega
  cases fl with
  | true =>
   have hsp : ∀ f n, spanOf l ⟨true, k, n, f⟩ = p.flash := fun f n => by simp [spanOf, hp1]
   have hsd : ∀ f n, spanOf l ⟨false, k, n, f⟩ = p.dark := fun f n => by simp [spanOf, hp1]
   refine ⟨by simp [kvG_length], (.agg [.ifc 178 (i64 k), i64 long, .bool first], i64 v), hkv, ?_⟩
   conv=>whnf
   refine arith_in (wrap_i64 (by (try dsimp only); omega)) ?_
   conv=>whnf
   refine elemK_i _ ⟨by omega, hcg⟩ ?_
   conv=>whnf
   refine arith_in (wrap_i64 (by (try dsimp only); omega)) ?_
   conv=>whnf
   refine elemK_i _ ⟨by omega, hpg⟩ ?_
   conv=>whnf
   cases hch : (cb != pb) with
   | false =>
    rw [show (!(cb == pb)) = false from hch]
    rw [hch] at hnx
    have hS : stepS l false ⟨true, k, long, first⟩ = if long + 1 ≤ p.flash.hi then some ⟨true, k, long + 1, first⟩ else none := by simp [stepS, hsp]
    conv=>whnf
    refine InvA_b 150 (by decide +kernel) ?_
    refine DrawCall_v (la139 l k p hk0 hp1) rfl rfl ?_
    conv=>whnf
    refine brk_i (fun h3 => ?_) (fun h3 => ?_)
    ·have h3 : (long + 1) ≤ p.flash.hi := by simpa using h3
     rw [if_pos h3] at hS
     conv=>whnf
     have hnx2 := hnx.some hx hS
     have hcn2 := hcn.inc ⟨true, k, (long + 1), first⟩
     cases hg : getM next ⟨true, k, (long + 1), first⟩ with
     | none =>
      have g1 := findG_none (kd := LState.d) same_state hg 0
      have g2 : findD (LState.d ⟨true, k, (long + 1), first⟩) (kvG LState.d next ++ [(LState.d ⟨true, k, (long + 1), first⟩, i64 0)]) 0 = some (some ((kvG LState.d next).length, i64 0)) := by
       rw [findG_last same_state hg 0]; simp
      have hB : (decide ((0 : Int) ≤ ((kvG LState.d next).length : Int)) && decide (((kvG LState.d next).length : Int) < ((kvG LState.d next ++ [(LState.d ⟨true, k, (long + 1), first⟩, i64 0)]).length : Int))) = true := by
       simp; omega
      have hfin : setVal (kvG LState.d next ++ [(LState.d ⟨true, k, (long + 1), first⟩, i64 0)]) (kvG LState.d next).length (i64 (0 + 1)) = kvG LState.d (incM next ⟨true, k, (long + 1), first⟩) := by
       rw [setVal_end]
       have := putG_none (kd := LState.d) 1 hg
       rw [show i64 (0 + 1) = D.int .i64 1 from rfl, this, incM, hg]; rfl
      refine RegionA_inv mixed tysOk [[], [], [0, 1], [2], [0, 1], [4], [0, 1, 2, 3, 4, 5]] (fun ls => (selE ls [some (95, .mp 43), some (96, .d (LState.d ⟨true, k, (long + 1), first⟩)), some (97, .d (i64 0)), some (98, .d (i64 (0 + 1))), some (99, .d (.tup [i64 0, i64 (kvG LState.d next).length])), some (100, .d (i64 (kvG LState.d next).length)), none] ++ [(0, .d (boolsD (b0 :: r0))), (1, .d (phasesD l)), (5, .mp 900001), (7, .d (i64 s)), (8, .mp 43), (45, .it 45), (10, .ptr 10 0)], [(900001, .map (kvG LState.d m)), (43, .map (sel3 ls 4 6 (kvG LState.d next) (kvG LState.d next ++ [(LState.d ⟨true, k, (long + 1), first⟩, i64 0)]) (setVal (kvG LState.d next ++ [(LState.d ⟨true, k, (long + 1), first⟩, i64 0)]) (kvG LState.d next).length (i64 (0 + 1))))), (45, .mit (.mp 900001) m.length (todo.filter fun j => !Nat.beq j i) (some i)), (10, .box (.dd (LState.cells ⟨true, k, (long + 1), first⟩)))])) (by decide +kernel) ?_ ?_ ?_
      ·exact Wk.sub ⟨rfl, rfl, rfl, rfl, rfl, rfl, rfl, trivial⟩ ⟨rfl, rfl, rfl, rfl, trivial⟩
      ·conv=>whnf
       repeat' (first
        | trivial
        | (refine And.intro ?_ ?_ <;> conv=>whnf)
        | (refine findK.mk _ (g1) ?_; conv=>whnf)
        | (refine findK.mk _ (g2) ?_; conv=>whnf)
        | (refine arith_in (wrap_i64 (by omega)) ?_; conv=>whnf)
        | (refine chk_i hB ?_; conv=>whnf)
        | (refine Wk.sub ?_ ?_ <;> (repeat' (first | exact trivial | refine ⟨rfl, ?_⟩))))
      ·conv=>whnf
       refine ⟨(todo.filter fun j => !Nat.beq j i, (incM next ⟨true, k, (long + 1), first⟩, (c + 1, some i))), hlt, ⟨hcn2, by simp only; omega, hnx2⟩, Wk.sub ⟨rfl, rfl, rfl, rfl, rfl, rfl, trivial⟩ ⟨rfl, ?_, rfl, trivial⟩⟩
       exact congrArg (fun z => some (Obj.map z)) hfin
     | some v2 =>
      obtain ⟨j2, q0, q1, q2, q3, q4⟩ := findG_some (kd := LState.d) same_state hg 0
      have hvb := hcn.bd _ _ hg
      have g1 : findD (LState.d ⟨true, k, (long + 1), first⟩) (kvG LState.d next) 0 = some (some (j2, i64 v2)) := by rw [q1]; simp [i64]
      have g2 : findD (LState.d ⟨true, k, (long + 1), first⟩) (setKey (kvG LState.d next) j2 (LState.d ⟨true, k, (long + 1), first⟩)) 0 = some (some (j2, i64 v2)) := by rw [q3]; exact g1
      have hB : (decide ((0 : Int) ≤ (j2 : Int)) && decide ((j2 : Int) < ((setKey (kvG LState.d next) j2 (LState.d ⟨true, k, (long + 1), first⟩)).length : Int))) = true := by
       rw [q3, kvG_length]; simp; omega
      have hfin : setVal (setKey (kvG LState.d next) j2 (LState.d ⟨true, k, (long + 1), first⟩)) j2 (i64 (v2 + 1)) = kvG LState.d (incM next ⟨true, k, (long + 1), first⟩) := by
       rw [q3, show i64 (v2 + 1) = D.int .i64 (v2 + 1) from rfl, q4, incM, hg]; rfl
      refine RegionA_inv mixed tysOk [[], [], [0, 1], [2], [0, 1], [4], [0, 1, 2, 3, 4, 5]] (fun ls => (selE ls [some (95, .mp 43), some (96, .d (LState.d ⟨true, k, (long + 1), first⟩)), some (97, .d (i64 v2)), some (98, .d (i64 (v2 + 1))), some (99, .d (.tup [i64 v2, i64 j2])), some (100, .d (i64 j2)), none] ++ [(0, .d (boolsD (b0 :: r0))), (1, .d (phasesD l)), (5, .mp 900001), (7, .d (i64 s)), (8, .mp 43), (45, .it 45), (10, .ptr 10 0)], [(900001, .map (kvG LState.d m)), (43, .map (sel3 ls 4 6 (kvG LState.d next) (setKey (kvG LState.d next) j2 (LState.d ⟨true, k, (long + 1), first⟩)) (setVal (setKey (kvG LState.d next) j2 (LState.d ⟨true, k, (long + 1), first⟩)) j2 (i64 (v2 + 1))))), (45, .mit (.mp 900001) m.length (todo.filter fun j => !Nat.beq j i) (some i)), (10, .box (.dd (LState.cells ⟨true, k, (long + 1), first⟩)))])) (by decide +kernel) ?_ ?_ ?_
      ·exact Wk.sub ⟨rfl, rfl, rfl, rfl, rfl, rfl, rfl, trivial⟩ ⟨rfl, rfl, rfl, rfl, trivial⟩
      ·conv=>whnf
       repeat' (first
        | trivial
        | (refine And.intro ?_ ?_ <;> conv=>whnf)
        | (refine findK.mk _ (g1) ?_; conv=>whnf)
        | (refine findK.mk _ (g2) ?_; conv=>whnf)
        | (refine arith_in (wrap_i64 (by omega)) ?_; conv=>whnf)
        | (refine chk_i hB ?_; conv=>whnf)
        | (refine Wk.sub ?_ ?_ <;> (repeat' (first | exact trivial | refine ⟨rfl, ?_⟩))))
      ·conv=>whnf
       refine ⟨(todo.filter fun j => !Nat.beq j i, (incM next ⟨true, k, (long + 1), first⟩, (c + 1, some i))), hlt, ⟨hcn2, by simp only; omega, hnx2⟩, Wk.sub ⟨rfl, rfl, rfl, rfl, rfl, rfl, trivial⟩ ⟨rfl, ?_, rfl, trivial⟩⟩
       exact congrArg (fun z => some (Obj.map z)) hfin
    ·have h3 : ¬ (long + 1) ≤ p.flash.hi := by simpa using h3
     rw [if_neg h3] at hS
     conv=>whnf
     exact ⟨(todo.filter fun j => !Nat.beq j i, (next, (c, some i))), hlt, ⟨hcn, by simp only; omega, hnx.none hx hS⟩, (Wk.sub ⟨(by first | rfl | (simp only [List.length_map]; rfl) | simp [PX.get]), (by first | rfl | (simp only [List.length_map]; rfl) | simp [PX.get]), (by first | rfl | (simp only [List.length_map]; rfl) | simp [PX.get]), (by first | rfl | (simp only [List.length_map]; rfl) | simp [PX.get]), (by first | rfl | (simp only [List.length_map]; rfl) | simp [PX.get]), (by first | rfl | (simp only [List.length_map]; rfl) | simp [PX.get]), trivial⟩ ⟨(by first | rfl | (simp only [List.length_map]; rfl) | simp [PX.get]), (by first | rfl | (simp only [List.length_map]; rfl) | simp [PX.get]), (by first | rfl | (simp only [List.length_map]; rfl) | simp [PX.get]), trivial⟩)⟩
   | true =>
    rw [show (!(cb == pb)) = true from hch]
    rw [hch] at hnx
    cases first with
    | true =>
     have hS : stepS l true ⟨true, k, long, true⟩ = if 1 ≤ p.dark.hi then some ⟨false, k, 1, false⟩ else none := by simp [stepS, hsd, behindS]
     conv=>whnf
     refine CallA_v (la118 true k (List.map LPhase.cells l).length (by omega) (by simp; omega)) rfl rfl ?_
     conv=>whnf
     conv=>whnf
     refine InvA_b 151 (by decide +kernel) ?_
     refine DrawCall_v (la140 l k p hk0 hp1) rfl rfl ?_
     conv=>whnf
     refine brk_i (fun h3 => ?_) (fun h3 => ?_)
     ·have h3 : 1 ≤ p.dark.hi := by simpa using h3
      rw [if_pos h3] at hS
      conv=>whnf
      have hnx2 := hnx.some hx hS
      have hcn2 := hcn.inc ⟨false, k, 1, false⟩
      cases hg : getM next ⟨false, k, 1, false⟩ with
      | none =>
       have g1 := findG_none (kd := LState.d) same_state hg 0
       have g2 : findD (LState.d ⟨false, k, 1, false⟩) (kvG LState.d next ++ [(LState.d ⟨false, k, 1, false⟩, i64 0)]) 0 = some (some ((kvG LState.d next).length, i64 0)) := by
        rw [findG_last same_state hg 0]; simp
       have hB : (decide ((0 : Int) ≤ ((kvG LState.d next).length : Int)) && decide (((kvG LState.d next).length : Int) < ((kvG LState.d next ++ [(LState.d ⟨false, k, 1, false⟩, i64 0)]).length : Int))) = true := by
        simp; omega
       have hfin : setVal (kvG LState.d next ++ [(LState.d ⟨false, k, 1, false⟩, i64 0)]) (kvG LState.d next).length (i64 (0 + 1)) = kvG LState.d (incM next ⟨false, k, 1, false⟩) := by
        rw [setVal_end]
        have := putG_none (kd := LState.d) 1 hg
        rw [show i64 (0 + 1) = D.int .i64 1 from rfl, this, incM, hg]; rfl
       refine RegionA_inv mixed tysOk [[], [], [0, 1], [2], [0, 1], [4], [0, 1, 2, 3, 4, 5]] (fun ls => (selE ls [some (95, .mp 43), some (96, .d (LState.d ⟨false, k, 1, false⟩)), some (97, .d (i64 0)), some (98, .d (i64 (0 + 1))), some (99, .d (.tup [i64 0, i64 (kvG LState.d next).length])), some (100, .d (i64 (kvG LState.d next).length)), none] ++ [(0, .d (boolsD (b0 :: r0))), (1, .d (phasesD l)), (5, .mp 900001), (7, .d (i64 s)), (8, .mp 43), (45, .it 45), (10, .ptr 10 0)], [(900001, .map (kvG LState.d m)), (43, .map (sel3 ls 4 6 (kvG LState.d next) (kvG LState.d next ++ [(LState.d ⟨false, k, 1, false⟩, i64 0)]) (setVal (kvG LState.d next ++ [(LState.d ⟨false, k, 1, false⟩, i64 0)]) (kvG LState.d next).length (i64 (0 + 1))))), (45, .mit (.mp 900001) m.length (todo.filter fun j => !Nat.beq j i) (some i)), (10, .box (.dd (LState.cells ⟨false, k, 1, false⟩)))])) (by decide +kernel) ?_ ?_ ?_
       ·exact Wk.sub ⟨rfl, rfl, rfl, rfl, rfl, rfl, rfl, trivial⟩ ⟨rfl, rfl, rfl, rfl, trivial⟩
       ·conv=>whnf
        repeat' (first
         | trivial
         | (refine And.intro ?_ ?_ <;> conv=>whnf)
         | (refine findK.mk _ (g1) ?_; conv=>whnf)
         | (refine findK.mk _ (g2) ?_; conv=>whnf)
         | (refine arith_in (wrap_i64 (by omega)) ?_; conv=>whnf)
         | (refine chk_i hB ?_; conv=>whnf)
         | (refine Wk.sub ?_ ?_ <;> (repeat' (first | exact trivial | refine ⟨rfl, ?_⟩))))
       ·conv=>whnf
        refine ⟨(todo.filter fun j => !Nat.beq j i, (incM next ⟨false, k, 1, false⟩, (c + 1, some i))), hlt, ⟨hcn2, by simp only; omega, hnx2⟩, Wk.sub ⟨rfl, rfl, rfl, rfl, rfl, rfl, trivial⟩ ⟨rfl, ?_, rfl, trivial⟩⟩
        exact congrArg (fun z => some (Obj.map z)) hfin
      | some v2 =>
       obtain ⟨j2, q0, q1, q2, q3, q4⟩ := findG_some (kd := LState.d) same_state hg 0
       have hvb := hcn.bd _ _ hg
       have g1 : findD (LState.d ⟨false, k, 1, false⟩) (kvG LState.d next) 0 = some (some (j2, i64 v2)) := by rw [q1]; simp [i64]
       have g2 : findD (LState.d ⟨false, k, 1, false⟩) (setKey (kvG LState.d next) j2 (LState.d ⟨false, k, 1, false⟩)) 0 = some (some (j2, i64 v2)) := by rw [q3]; exact g1
       have hB : (decide ((0 : Int) ≤ (j2 : Int)) && decide ((j2 : Int) < ((setKey (kvG LState.d next) j2 (LState.d ⟨false, k, 1, false⟩)).length : Int))) = true := by
        rw [q3, kvG_length]; simp; omega
       have hfin : setVal (setKey (kvG LState.d next) j2 (LState.d ⟨false, k, 1, false⟩)) j2 (i64 (v2 + 1)) = kvG LState.d (incM next ⟨false, k, 1, false⟩) := by
        rw [q3, show i64 (v2 + 1) = D.int .i64 (v2 + 1) from rfl, q4, incM, hg]; rfl
       refine RegionA_inv mixed tysOk [[], [], [0, 1], [2], [0, 1], [4], [0, 1, 2, 3, 4, 5]] (fun ls => (selE ls [some (95, .mp 43), some (96, .d (LState.d ⟨false, k, 1, false⟩)), some (97, .d (i64 v2)), some (98, .d (i64 (v2 + 1))), some (99, .d (.tup [i64 v2, i64 j2])), some (100, .d (i64 j2)), none] ++ [(0, .d (boolsD (b0 :: r0))), (1, .d (phasesD l)), (5, .mp 900001), (7, .d (i64 s)), (8, .mp 43), (45, .it 45), (10, .ptr 10 0)], [(900001, .map (kvG LState.d m)), (43, .map (sel3 ls 4 6 (kvG LState.d next) (setKey (kvG LState.d next) j2 (LState.d ⟨false, k, 1, false⟩)) (setVal (setKey (kvG LState.d next) j2 (LState.d ⟨false, k, 1, false⟩)) j2 (i64 (v2 + 1))))), (45, .mit (.mp 900001) m.length (todo.filter fun j => !Nat.beq j i) (some i)), (10, .box (.dd (LState.cells ⟨false, k, 1, false⟩)))])) (by decide +kernel) ?_ ?_ ?_
       ·exact Wk.sub ⟨rfl, rfl, rfl, rfl, rfl, rfl, rfl, trivial⟩ ⟨rfl, rfl, rfl, rfl, trivial⟩
       ·conv=>whnf
        repeat' (first
         | trivial
         | (refine And.intro ?_ ?_ <;> conv=>whnf)
         | (refine findK.mk _ (g1) ?_; conv=>whnf)
         | (refine findK.mk _ (g2) ?_; conv=>whnf)
         | (refine arith_in (wrap_i64 (by omega)) ?_; conv=>whnf)
         | (refine chk_i hB ?_; conv=>whnf)
         | (refine Wk.sub ?_ ?_ <;> (repeat' (first | exact trivial | refine ⟨rfl, ?_⟩))))
       ·conv=>whnf
        refine ⟨(todo.filter fun j => !Nat.beq j i, (incM next ⟨false, k, 1, false⟩, (c + 1, some i))), hlt, ⟨hcn2, by simp only; omega, hnx2⟩, Wk.sub ⟨rfl, rfl, rfl, rfl, rfl, rfl, trivial⟩ ⟨rfl, ?_, rfl, trivial⟩⟩
        exact congrArg (fun z => some (Obj.map z)) hfin
     ·have h3 : ¬ 1 ≤ p.dark.hi := by simpa using h3
      rw [if_neg h3] at hS
      conv=>whnf
      exact ⟨(todo.filter fun j => !Nat.beq j i, (next, (c, some i))), hlt, ⟨hcn, by simp only; omega, hnx.none hx hS⟩, (Wk.sub ⟨(by first | rfl | (simp only [List.length_map]; rfl) | simp [PX.get]), (by first | rfl | (simp only [List.length_map]; rfl) | simp [PX.get]), (by first | rfl | (simp only [List.length_map]; rfl) | simp [PX.get]), (by first | rfl | (simp only [List.length_map]; rfl) | simp [PX.get]), (by first | rfl | (simp only [List.length_map]; rfl) | simp [PX.get]), (by first | rfl | (simp only [List.length_map]; rfl) | simp [PX.get]), trivial⟩ ⟨(by first | rfl | (simp only [List.length_map]; rfl) | simp [PX.get]), (by first | rfl | (simp only [List.length_map]; rfl) | simp [PX.get]), (by first | rfl | (simp only [List.length_map]; rfl) | simp [PX.get]), trivial⟩)⟩
    | false =>
     conv=>whnf
     refine InvA_b 150 (by decide +kernel) ?_
     refine DrawCall_v (la139 l k p hk0 hp1) rfl rfl ?_
     conv=>whnf
     refine brk_i (fun h2 => ?_) (fun h2 => ?_)
     ·have h2 : long < p.flash.lo := by simpa using h2
      have hS : stepS l true ⟨true, k, long, false⟩ = none := by simp [stepS, hsp, h2]
      conv=>whnf
      exact ⟨(todo.filter fun j => !Nat.beq j i, (next, (c, some i))), hlt, ⟨hcn, by simp only; omega, hnx.none hx hS⟩, (Wk.sub ⟨(by first | rfl | (simp only [List.length_map]; rfl) | simp [PX.get]), (by first | rfl | (simp only [List.length_map]; rfl) | simp [PX.get]), (by first | rfl | (simp only [List.length_map]; rfl) | simp [PX.get]), (by first | rfl | (simp only [List.length_map]; rfl) | simp [PX.get]), (by first | rfl | (simp only [List.length_map]; rfl) | simp [PX.get]), (by first | rfl | (simp only [List.length_map]; rfl) | simp [PX.get]), trivial⟩ ⟨(by first | rfl | (simp only [List.length_map]; rfl) | simp [PX.get]), (by first | rfl | (simp only [List.length_map]; rfl) | simp [PX.get]), (by first | rfl | (simp only [List.length_map]; rfl) | simp [PX.get]), trivial⟩)⟩
     ·have h2 : ¬ long < p.flash.lo := by simpa using h2
      have hS : stepS l true ⟨true, k, long, false⟩ = if 1 ≤ p.dark.hi then some ⟨false, k, 1, false⟩ else none := by simp [stepS, hsp, hsd, behindS, h2]
      conv=>whnf
      refine CallA_v (la118 true k (List.map LPhase.cells l).length (by omega) (by simp; omega)) rfl rfl ?_
      conv=>whnf
      conv=>whnf
      refine InvA_b 151 (by decide +kernel) ?_
      refine DrawCall_v (la140 l k p hk0 hp1) rfl rfl ?_
      conv=>whnf
      refine brk_i (fun h3 => ?_) (fun h3 => ?_)
      ·have h3 : 1 ≤ p.dark.hi := by simpa using h3
       rw [if_pos h3] at hS
       conv=>whnf
       have hnx2 := hnx.some hx hS
       have hcn2 := hcn.inc ⟨false, k, 1, false⟩
       cases hg : getM next ⟨false, k, 1, false⟩ with
       | none =>
        have g1 := findG_none (kd := LState.d) same_state hg 0
        have g2 : findD (LState.d ⟨false, k, 1, false⟩) (kvG LState.d next ++ [(LState.d ⟨false, k, 1, false⟩, i64 0)]) 0 = some (some ((kvG LState.d next).length, i64 0)) := by
         rw [findG_last same_state hg 0]; simp
        have hB : (decide ((0 : Int) ≤ ((kvG LState.d next).length : Int)) && decide (((kvG LState.d next).length : Int) < ((kvG LState.d next ++ [(LState.d ⟨false, k, 1, false⟩, i64 0)]).length : Int))) = true := by
         simp; omega
        have hfin : setVal (kvG LState.d next ++ [(LState.d ⟨false, k, 1, false⟩, i64 0)]) (kvG LState.d next).length (i64 (0 + 1)) = kvG LState.d (incM next ⟨false, k, 1, false⟩) := by
         rw [setVal_end]
         have := putG_none (kd := LState.d) 1 hg
         rw [show i64 (0 + 1) = D.int .i64 1 from rfl, this, incM, hg]; rfl
        refine RegionA_inv mixed tysOk [[], [], [0, 1], [2], [0, 1], [4], [0, 1, 2, 3, 4, 5]] (fun ls => (selE ls [some (95, .mp 43), some (96, .d (LState.d ⟨false, k, 1, false⟩)), some (97, .d (i64 0)), some (98, .d (i64 (0 + 1))), some (99, .d (.tup [i64 0, i64 (kvG LState.d next).length])), some (100, .d (i64 (kvG LState.d next).length)), none] ++ [(0, .d (boolsD (b0 :: r0))), (1, .d (phasesD l)), (5, .mp 900001), (7, .d (i64 s)), (8, .mp 43), (45, .it 45), (10, .ptr 10 0)], [(900001, .map (kvG LState.d m)), (43, .map (sel3 ls 4 6 (kvG LState.d next) (kvG LState.d next ++ [(LState.d ⟨false, k, 1, false⟩, i64 0)]) (setVal (kvG LState.d next ++ [(LState.d ⟨false, k, 1, false⟩, i64 0)]) (kvG LState.d next).length (i64 (0 + 1))))), (45, .mit (.mp 900001) m.length (todo.filter fun j => !Nat.beq j i) (some i)), (10, .box (.dd (LState.cells ⟨false, k, 1, false⟩)))])) (by decide +kernel) ?_ ?_ ?_
        ·exact Wk.sub ⟨rfl, rfl, rfl, rfl, rfl, rfl, rfl, trivial⟩ ⟨rfl, rfl, rfl, rfl, trivial⟩
        ·conv=>whnf
         repeat' (first
          | trivial
          | (refine And.intro ?_ ?_ <;> conv=>whnf)
          | (refine findK.mk _ (g1) ?_; conv=>whnf)
          | (refine findK.mk _ (g2) ?_; conv=>whnf)
          | (refine arith_in (wrap_i64 (by omega)) ?_; conv=>whnf)
          | (refine chk_i hB ?_; conv=>whnf)
          | (refine Wk.sub ?_ ?_ <;> (repeat' (first | exact trivial | refine ⟨rfl, ?_⟩))))
        ·conv=>whnf
         refine ⟨(todo.filter fun j => !Nat.beq j i, (incM next ⟨false, k, 1, false⟩, (c + 1, some i))), hlt, ⟨hcn2, by simp only; omega, hnx2⟩, Wk.sub ⟨rfl, rfl, rfl, rfl, rfl, rfl, trivial⟩ ⟨rfl, ?_, rfl, trivial⟩⟩
         exact congrArg (fun z => some (Obj.map z)) hfin
       | some v2 =>
        obtain ⟨j2, q0, q1, q2, q3, q4⟩ := findG_some (kd := LState.d) same_state hg 0
        have hvb := hcn.bd _ _ hg
        have g1 : findD (LState.d ⟨false, k, 1, false⟩) (kvG LState.d next) 0 = some (some (j2, i64 v2)) := by rw [q1]; simp [i64]
        have g2 : findD (LState.d ⟨false, k, 1, false⟩) (setKey (kvG LState.d next) j2 (LState.d ⟨false, k, 1, false⟩)) 0 = some (some (j2, i64 v2)) := by rw [q3]; exact g1
        have hB : (decide ((0 : Int) ≤ (j2 : Int)) && decide ((j2 : Int) < ((setKey (kvG LState.d next) j2 (LState.d ⟨false, k, 1, false⟩)).length : Int))) = true := by
         rw [q3, kvG_length]; simp; omega
        have hfin : setVal (setKey (kvG LState.d next) j2 (LState.d ⟨false, k, 1, false⟩)) j2 (i64 (v2 + 1)) = kvG LState.d (incM next ⟨false, k, 1, false⟩) := by
         rw [q3, show i64 (v2 + 1) = D.int .i64 (v2 + 1) from rfl, q4, incM, hg]; rfl
        refine RegionA_inv mixed tysOk [[], [], [0, 1], [2], [0, 1], [4], [0, 1, 2, 3, 4, 5]] (fun ls => (selE ls [some (95, .mp 43), some (96, .d (LState.d ⟨false, k, 1, false⟩)), some (97, .d (i64 v2)), some (98, .d (i64 (v2 + 1))), some (99, .d (.tup [i64 v2, i64 j2])), some (100, .d (i64 j2)), none] ++ [(0, .d (boolsD (b0 :: r0))), (1, .d (phasesD l)), (5, .mp 900001), (7, .d (i64 s)), (8, .mp 43), (45, .it 45), (10, .ptr 10 0)], [(900001, .map (kvG LState.d m)), (43, .map (sel3 ls 4 6 (kvG LState.d next) (setKey (kvG LState.d next) j2 (LState.d ⟨false, k, 1, false⟩)) (setVal (setKey (kvG LState.d next) j2 (LState.d ⟨false, k, 1, false⟩)) j2 (i64 (v2 + 1))))), (45, .mit (.mp 900001) m.length (todo.filter fun j => !Nat.beq j i) (some i)), (10, .box (.dd (LState.cells ⟨false, k, 1, false⟩)))])) (by decide +kernel) ?_ ?_ ?_
        ·exact Wk.sub ⟨rfl, rfl, rfl, rfl, rfl, rfl, rfl, trivial⟩ ⟨rfl, rfl, rfl, rfl, trivial⟩
        ·conv=>whnf
         repeat' (first
          | trivial
          | (refine And.intro ?_ ?_ <;> conv=>whnf)
          | (refine findK.mk _ (g1) ?_; conv=>whnf)
          | (refine findK.mk _ (g2) ?_; conv=>whnf)
          | (refine arith_in (wrap_i64 (by omega)) ?_; conv=>whnf)
          | (refine chk_i hB ?_; conv=>whnf)
          | (refine Wk.sub ?_ ?_ <;> (repeat' (first | exact trivial | refine ⟨rfl, ?_⟩))))
        ·conv=>whnf
         refine ⟨(todo.filter fun j => !Nat.beq j i, (incM next ⟨false, k, 1, false⟩, (c + 1, some i))), hlt, ⟨hcn2, by simp only; omega, hnx2⟩, Wk.sub ⟨rfl, rfl, rfl, rfl, rfl, rfl, trivial⟩ ⟨rfl, ?_, rfl, trivial⟩⟩
         exact congrArg (fun z => some (Obj.map z)) hfin
      ·have h3 : ¬ 1 ≤ p.dark.hi := by simpa using h3
       rw [if_neg h3] at hS
       conv=>whnf
       exact ⟨(todo.filter fun j => !Nat.beq j i, (next, (c, some i))), hlt, ⟨hcn, by simp only; omega, hnx.none hx hS⟩, (Wk.sub ⟨(by first | rfl | (simp only [List.length_map]; rfl) | simp [PX.get]), (by first | rfl | (simp only [List.length_map]; rfl) | simp [PX.get]), (by first | rfl | (simp only [List.length_map]; rfl) | simp [PX.get]), (by first | rfl | (simp only [List.length_map]; rfl) | simp [PX.get]), (by first | rfl | (simp only [List.length_map]; rfl) | simp [PX.get]), (by first | rfl | (simp only [List.length_map]; rfl) | simp [PX.get]), trivial⟩ ⟨(by first | rfl | (simp only [List.length_map]; rfl) | simp [PX.get]), (by first | rfl | (simp only [List.length_map]; rfl) | simp [PX.get]), (by first | rfl | (simp only [List.length_map]; rfl) | simp [PX.get]), trivial⟩)⟩
  | false =>
   have hsp : ∀ f n, spanOf l ⟨false, k, n, f⟩ = p.dark := fun f n => by simp [spanOf, hp1]
   obtain ⟨k2, hk2⟩ : ∃ k2, k2 = (k + 1) % ((List.map LPhase.cells l).length : Int) := ⟨_, rfl⟩
   have hk2e : (k + 1) % (l.length : Int) = k2 := by rw [hk2, List.length_map]
   have hk20 : 0 ≤ k2 := by rw [← hk2e]; exact Int.emod_nonneg _ (by omega)
   have hk21 : k2 < l.length := by rw [← hk2e]; exact Int.emod_lt_of_pos _ (by omega)
   obtain ⟨p2, hp2⟩ : ∃ p, l[k2.toNat]? = some p := ⟨_, List.getElem?_eq_getElem (by omega)⟩
   have hsd : ∀ f n, spanOf l ⟨true, k2, n, f⟩ = p2.flash := fun f n => by simp [spanOf, hp2]
   refine ⟨by simp [kvG_length], (.agg [.ifc 183 (i64 k), i64 long, .bool first], i64 v), hkv, ?_⟩
   conv=>whnf
   refine arith_in (wrap_i64 (by (try dsimp only); omega)) ?_
   conv=>whnf
   refine elemK_i _ ⟨by omega, hcg⟩ ?_
   conv=>whnf
   refine arith_in (wrap_i64 (by (try dsimp only); omega)) ?_
   conv=>whnf
   refine elemK_i _ ⟨by omega, hpg⟩ ?_
   conv=>whnf
   cases hch : (cb != pb) with
   | false =>
    rw [show (!(cb == pb)) = false from hch]
    rw [hch] at hnx
    have hS : stepS l false ⟨false, k, long, first⟩ = if long + 1 ≤ p.dark.hi then some ⟨false, k, long + 1, first⟩ else none := by simp [stepS, hsp]
    conv=>whnf
    refine InvA_b 151 (by decide +kernel) ?_
    refine DrawCall_v (la140 l k p hk0 hp1) rfl rfl ?_
    conv=>whnf
    refine brk_i (fun h3 => ?_) (fun h3 => ?_)
    ·have h3 : (long + 1) ≤ p.dark.hi := by simpa using h3
     rw [if_pos h3] at hS
     conv=>whnf
     have hnx2 := hnx.some hx hS
     have hcn2 := hcn.inc ⟨false, k, (long + 1), first⟩
     cases hg : getM next ⟨false, k, (long + 1), first⟩ with
     | none =>
      have g1 := findG_none (kd := LState.d) same_state hg 0
      have g2 : findD (LState.d ⟨false, k, (long + 1), first⟩) (kvG LState.d next ++ [(LState.d ⟨false, k, (long + 1), first⟩, i64 0)]) 0 = some (some ((kvG LState.d next).length, i64 0)) := by
       rw [findG_last same_state hg 0]; simp
      have hB : (decide ((0 : Int) ≤ ((kvG LState.d next).length : Int)) && decide (((kvG LState.d next).length : Int) < ((kvG LState.d next ++ [(LState.d ⟨false, k, (long + 1), first⟩, i64 0)]).length : Int))) = true := by
       simp; omega
      have hfin : setVal (kvG LState.d next ++ [(LState.d ⟨false, k, (long + 1), first⟩, i64 0)]) (kvG LState.d next).length (i64 (0 + 1)) = kvG LState.d (incM next ⟨false, k, (long + 1), first⟩) := by
       rw [setVal_end]
       have := putG_none (kd := LState.d) 1 hg
       rw [show i64 (0 + 1) = D.int .i64 1 from rfl, this, incM, hg]; rfl
      refine RegionA_inv mixed tysOk [[], [], [0, 1], [2], [0, 1], [4], [0, 1, 2, 3, 4, 5]] (fun ls => (selE ls [some (95, .mp 43), some (96, .d (LState.d ⟨false, k, (long + 1), first⟩)), some (97, .d (i64 0)), some (98, .d (i64 (0 + 1))), some (99, .d (.tup [i64 0, i64 (kvG LState.d next).length])), some (100, .d (i64 (kvG LState.d next).length)), none] ++ [(0, .d (boolsD (b0 :: r0))), (1, .d (phasesD l)), (5, .mp 900001), (7, .d (i64 s)), (8, .mp 43), (45, .it 45), (10, .ptr 10 0)], [(900001, .map (kvG LState.d m)), (43, .map (sel3 ls 4 6 (kvG LState.d next) (kvG LState.d next ++ [(LState.d ⟨false, k, (long + 1), first⟩, i64 0)]) (setVal (kvG LState.d next ++ [(LState.d ⟨false, k, (long + 1), first⟩, i64 0)]) (kvG LState.d next).length (i64 (0 + 1))))), (45, .mit (.mp 900001) m.length (todo.filter fun j => !Nat.beq j i) (some i)), (10, .box (.dd (LState.cells ⟨false, k, (long + 1), first⟩)))])) (by decide +kernel) ?_ ?_ ?_
      ·exact Wk.sub ⟨rfl, rfl, rfl, rfl, rfl, rfl, rfl, trivial⟩ ⟨rfl, rfl, rfl, rfl, trivial⟩
      ·conv=>whnf
       repeat' (first
        | trivial
        | (refine And.intro ?_ ?_ <;> conv=>whnf)
        | (refine findK.mk _ (g1) ?_; conv=>whnf)
        | (refine findK.mk _ (g2) ?_; conv=>whnf)
        | (refine arith_in (wrap_i64 (by omega)) ?_; conv=>whnf)
        | (refine chk_i hB ?_; conv=>whnf)
        | (refine Wk.sub ?_ ?_ <;> (repeat' (first | exact trivial | refine ⟨rfl, ?_⟩))))
      ·conv=>whnf
       refine ⟨(todo.filter fun j => !Nat.beq j i, (incM next ⟨false, k, (long + 1), first⟩, (c + 1, some i))), hlt, ⟨hcn2, by simp only; omega, hnx2⟩, Wk.sub ⟨rfl, rfl, rfl, rfl, rfl, rfl, trivial⟩ ⟨rfl, ?_, rfl, trivial⟩⟩
       exact congrArg (fun z => some (Obj.map z)) hfin
     | some v2 =>
      obtain ⟨j2, q0, q1, q2, q3, q4⟩ := findG_some (kd := LState.d) same_state hg 0
      have hvb := hcn.bd _ _ hg
      have g1 : findD (LState.d ⟨false, k, (long + 1), first⟩) (kvG LState.d next) 0 = some (some (j2, i64 v2)) := by rw [q1]; simp [i64]
      have g2 : findD (LState.d ⟨false, k, (long + 1), first⟩) (setKey (kvG LState.d next) j2 (LState.d ⟨false, k, (long + 1), first⟩)) 0 = some (some (j2, i64 v2)) := by rw [q3]; exact g1
      have hB : (decide ((0 : Int) ≤ (j2 : Int)) && decide ((j2 : Int) < ((setKey (kvG LState.d next) j2 (LState.d ⟨false, k, (long + 1), first⟩)).length : Int))) = true := by
       rw [q3, kvG_length]; simp; omega
      have hfin : setVal (setKey (kvG LState.d next) j2 (LState.d ⟨false, k, (long + 1), first⟩)) j2 (i64 (v2 + 1)) = kvG LState.d (incM next ⟨false, k, (long + 1), first⟩) := by
       rw [q3, show i64 (v2 + 1) = D.int .i64 (v2 + 1) from rfl, q4, incM, hg]; rfl
      refine RegionA_inv mixed tysOk [[], [], [0, 1], [2], [0, 1], [4], [0, 1, 2, 3, 4, 5]] (fun ls => (selE ls [some (95, .mp 43), some (96, .d (LState.d ⟨false, k, (long + 1), first⟩)), some (97, .d (i64 v2)), some (98, .d (i64 (v2 + 1))), some (99, .d (.tup [i64 v2, i64 j2])), some (100, .d (i64 j2)), none] ++ [(0, .d (boolsD (b0 :: r0))), (1, .d (phasesD l)), (5, .mp 900001), (7, .d (i64 s)), (8, .mp 43), (45, .it 45), (10, .ptr 10 0)], [(900001, .map (kvG LState.d m)), (43, .map (sel3 ls 4 6 (kvG LState.d next) (setKey (kvG LState.d next) j2 (LState.d ⟨false, k, (long + 1), first⟩)) (setVal (setKey (kvG LState.d next) j2 (LState.d ⟨false, k, (long + 1), first⟩)) j2 (i64 (v2 + 1))))), (45, .mit (.mp 900001) m.length (todo.filter fun j => !Nat.beq j i) (some i)), (10, .box (.dd (LState.cells ⟨false, k, (long + 1), first⟩)))])) (by decide +kernel) ?_ ?_ ?_
      ·exact Wk.sub ⟨rfl, rfl, rfl, rfl, rfl, rfl, rfl, trivial⟩ ⟨rfl, rfl, rfl, rfl, trivial⟩
      ·conv=>whnf
       repeat' (first
        | trivial
        | (refine And.intro ?_ ?_ <;> conv=>whnf)
        | (refine findK.mk _ (g1) ?_; conv=>whnf)
        | (refine findK.mk _ (g2) ?_; conv=>whnf)
        | (refine arith_in (wrap_i64 (by omega)) ?_; conv=>whnf)
        | (refine chk_i hB ?_; conv=>whnf)
        | (refine Wk.sub ?_ ?_ <;> (repeat' (first | exact trivial | refine ⟨rfl, ?_⟩))))
      ·conv=>whnf
       refine ⟨(todo.filter fun j => !Nat.beq j i, (incM next ⟨false, k, (long + 1), first⟩, (c + 1, some i))), hlt, ⟨hcn2, by simp only; omega, hnx2⟩, Wk.sub ⟨rfl, rfl, rfl, rfl, rfl, rfl, trivial⟩ ⟨rfl, ?_, rfl, trivial⟩⟩
       exact congrArg (fun z => some (Obj.map z)) hfin
    ·have h3 : ¬ (long + 1) ≤ p.dark.hi := by simpa using h3
     rw [if_neg h3] at hS
     conv=>whnf
     exact ⟨(todo.filter fun j => !Nat.beq j i, (next, (c, some i))), hlt, ⟨hcn, by simp only; omega, hnx.none hx hS⟩, (Wk.sub ⟨(by first | rfl | (simp only [List.length_map]; rfl) | simp [PX.get]), (by first | rfl | (simp only [List.length_map]; rfl) | simp [PX.get]), (by first | rfl | (simp only [List.length_map]; rfl) | simp [PX.get]), (by first | rfl | (simp only [List.length_map]; rfl) | simp [PX.get]), (by first | rfl | (simp only [List.length_map]; rfl) | simp [PX.get]), (by first | rfl | (simp only [List.length_map]; rfl) | simp [PX.get]), trivial⟩ ⟨(by first | rfl | (simp only [List.length_map]; rfl) | simp [PX.get]), (by first | rfl | (simp only [List.length_map]; rfl) | simp [PX.get]), (by first | rfl | (simp only [List.length_map]; rfl) | simp [PX.get]), trivial⟩)⟩
   | true =>
    rw [show (!(cb == pb)) = true from hch]
    rw [hch] at hnx
    cases first with
    | true =>
     have hS : stepS l true ⟨false, k, long, true⟩ = if 1 ≤ p2.flash.hi then some ⟨true, k2, 1, false⟩ else none := by simp [stepS, hsd, behindS, hk2e]
     conv=>whnf
     refine CallA_v (FnV.cast (la118 false k (List.map LPhase.cells l).length (by omega) (by simp; omega)) (r' := .ifc 178 (i64 k2)) (by rw [← hk2]; rfl)) rfl rfl ?_
     conv=>whnf
     refine InvA_b 150 (by decide +kernel) ?_
     refine DrawCall_v (la139 l k2 p2 hk20 hp2) rfl rfl ?_
     conv=>whnf
     refine brk_i (fun h3 => ?_) (fun h3 => ?_)
     ·have h3 : 1 ≤ p2.flash.hi := by simpa using h3
      rw [if_pos h3] at hS
      conv=>whnf
      have hnx2 := hnx.some hx hS
      have hcn2 := hcn.inc ⟨true, k2, 1, false⟩
      cases hg : getM next ⟨true, k2, 1, false⟩ with
      | none =>
       have g1 := findG_none (kd := LState.d) same_state hg 0
       have g2 : findD (LState.d ⟨true, k2, 1, false⟩) (kvG LState.d next ++ [(LState.d ⟨true, k2, 1, false⟩, i64 0)]) 0 = some (some ((kvG LState.d next).length, i64 0)) := by
        rw [findG_last same_state hg 0]; simp
       have hB : (decide ((0 : Int) ≤ ((kvG LState.d next).length : Int)) && decide (((kvG LState.d next).length : Int) < ((kvG LState.d next ++ [(LState.d ⟨true, k2, 1, false⟩, i64 0)]).length : Int))) = true := by
        simp; omega
       have hfin : setVal (kvG LState.d next ++ [(LState.d ⟨true, k2, 1, false⟩, i64 0)]) (kvG LState.d next).length (i64 (0 + 1)) = kvG LState.d (incM next ⟨true, k2, 1, false⟩) := by
        rw [setVal_end]
        have := putG_none (kd := LState.d) 1 hg
        rw [show i64 (0 + 1) = D.int .i64 1 from rfl, this, incM, hg]; rfl
       refine RegionA_inv mixed tysOk [[], [], [0, 1], [2], [0, 1], [4], [0, 1, 2, 3, 4, 5]] (fun ls => (selE ls [some (95, .mp 43), some (96, .d (LState.d ⟨true, k2, 1, false⟩)), some (97, .d (i64 0)), some (98, .d (i64 (0 + 1))), some (99, .d (.tup [i64 0, i64 (kvG LState.d next).length])), some (100, .d (i64 (kvG LState.d next).length)), none] ++ [(0, .d (boolsD (b0 :: r0))), (1, .d (phasesD l)), (5, .mp 900001), (7, .d (i64 s)), (8, .mp 43), (45, .it 45), (10, .ptr 10 0)], [(900001, .map (kvG LState.d m)), (43, .map (sel3 ls 4 6 (kvG LState.d next) (kvG LState.d next ++ [(LState.d ⟨true, k2, 1, false⟩, i64 0)]) (setVal (kvG LState.d next ++ [(LState.d ⟨true, k2, 1, false⟩, i64 0)]) (kvG LState.d next).length (i64 (0 + 1))))), (45, .mit (.mp 900001) m.length (todo.filter fun j => !Nat.beq j i) (some i)), (10, .box (.dd (LState.cells ⟨true, k2, 1, false⟩)))])) (by decide +kernel) ?_ ?_ ?_
       ·exact Wk.sub ⟨rfl, rfl, rfl, rfl, rfl, rfl, rfl, trivial⟩ ⟨rfl, rfl, rfl, rfl, trivial⟩
       ·conv=>whnf
        repeat' (first
         | trivial
         | (refine And.intro ?_ ?_ <;> conv=>whnf)
         | (refine findK.mk _ (g1) ?_; conv=>whnf)
         | (refine findK.mk _ (g2) ?_; conv=>whnf)
         | (refine arith_in (wrap_i64 (by omega)) ?_; conv=>whnf)
         | (refine chk_i hB ?_; conv=>whnf)
         | (refine Wk.sub ?_ ?_ <;> (repeat' (first | exact trivial | refine ⟨rfl, ?_⟩))))
       ·conv=>whnf
        refine ⟨(todo.filter fun j => !Nat.beq j i, (incM next ⟨true, k2, 1, false⟩, (c + 1, some i))), hlt, ⟨hcn2, by simp only; omega, hnx2⟩, Wk.sub ⟨rfl, rfl, rfl, rfl, rfl, rfl, trivial⟩ ⟨rfl, ?_, rfl, trivial⟩⟩
        exact congrArg (fun z => some (Obj.map z)) hfin
      | some v2 =>
       obtain ⟨j2, q0, q1, q2, q3, q4⟩ := findG_some (kd := LState.d) same_state hg 0
       have hvb := hcn.bd _ _ hg
       have g1 : findD (LState.d ⟨true, k2, 1, false⟩) (kvG LState.d next) 0 = some (some (j2, i64 v2)) := by rw [q1]; simp [i64]
       have g2 : findD (LState.d ⟨true, k2, 1, false⟩) (setKey (kvG LState.d next) j2 (LState.d ⟨true, k2, 1, false⟩)) 0 = some (some (j2, i64 v2)) := by rw [q3]; exact g1
       have hB : (decide ((0 : Int) ≤ (j2 : Int)) && decide ((j2 : Int) < ((setKey (kvG LState.d next) j2 (LState.d ⟨true, k2, 1, false⟩)).length : Int))) = true := by
        rw [q3, kvG_length]; simp; omega
       have hfin : setVal (setKey (kvG LState.d next) j2 (LState.d ⟨true, k2, 1, false⟩)) j2 (i64 (v2 + 1)) = kvG LState.d (incM next ⟨true, k2, 1, false⟩) := by
        rw [q3, show i64 (v2 + 1) = D.int .i64 (v2 + 1) from rfl, q4, incM, hg]; rfl
       refine RegionA_inv mixed tysOk [[], [], [0, 1], [2], [0, 1], [4], [0, 1, 2, 3, 4, 5]] (fun ls => (selE ls [some (95, .mp 43), some (96, .d (LState.d ⟨true, k2, 1, false⟩)), some (97, .d (i64 v2)), some (98, .d (i64 (v2 + 1))), some (99, .d (.tup [i64 v2, i64 j2])), some (100, .d (i64 j2)), none] ++ [(0, .d (boolsD (b0 :: r0))), (1, .d (phasesD l)), (5, .mp 900001), (7, .d (i64 s)), (8, .mp 43), (45, .it 45), (10, .ptr 10 0)], [(900001, .map (kvG LState.d m)), (43, .map (sel3 ls 4 6 (kvG LState.d next) (setKey (kvG LState.d next) j2 (LState.d ⟨true, k2, 1, false⟩)) (setVal (setKey (kvG LState.d next) j2 (LState.d ⟨true, k2, 1, false⟩)) j2 (i64 (v2 + 1))))), (45, .mit (.mp 900001) m.length (todo.filter fun j => !Nat.beq j i) (some i)), (10, .box (.dd (LState.cells ⟨true, k2, 1, false⟩)))])) (by decide +kernel) ?_ ?_ ?_
       ·exact Wk.sub ⟨rfl, rfl, rfl, rfl, rfl, rfl, rfl, trivial⟩ ⟨rfl, rfl, rfl, rfl, trivial⟩
       ·conv=>whnf
        repeat' (first
         | trivial
         | (refine And.intro ?_ ?_ <;> conv=>whnf)
         | (refine findK.mk _ (g1) ?_; conv=>whnf)
         | (refine findK.mk _ (g2) ?_; conv=>whnf)
         | (refine arith_in (wrap_i64 (by omega)) ?_; conv=>whnf)
         | (refine chk_i hB ?_; conv=>whnf)
         | (refine Wk.sub ?_ ?_ <;> (repeat' (first | exact trivial | refine ⟨rfl, ?_⟩))))
       ·conv=>whnf
        refine ⟨(todo.filter fun j => !Nat.beq j i, (incM next ⟨true, k2, 1, false⟩, (c + 1, some i))), hlt, ⟨hcn2, by simp only; omega, hnx2⟩, Wk.sub ⟨rfl, rfl, rfl, rfl, rfl, rfl, trivial⟩ ⟨rfl, ?_, rfl, trivial⟩⟩
        exact congrArg (fun z => some (Obj.map z)) hfin
     ·have h3 : ¬ 1 ≤ p2.flash.hi := by simpa using h3
      rw [if_neg h3] at hS
      conv=>whnf
      exact ⟨(todo.filter fun j => !Nat.beq j i, (next, (c, some i))), hlt, ⟨hcn, by simp only; omega, hnx.none hx hS⟩, (Wk.sub ⟨(by first | rfl | (simp only [List.length_map]; rfl) | simp [PX.get]), (by first | rfl | (simp only [List.length_map]; rfl) | simp [PX.get]), (by first | rfl | (simp only [List.length_map]; rfl) | simp [PX.get]), (by first | rfl | (simp only [List.length_map]; rfl) | simp [PX.get]), (by first | rfl | (simp only [List.length_map]; rfl) | simp [PX.get]), (by first | rfl | (simp only [List.length_map]; rfl) | simp [PX.get]), trivial⟩ ⟨(by first | rfl | (simp only [List.length_map]; rfl) | simp [PX.get]), (by first | rfl | (simp only [List.length_map]; rfl) | simp [PX.get]), (by first | rfl | (simp only [List.length_map]; rfl) | simp [PX.get]), trivial⟩)⟩
    | false =>
     conv=>whnf
     refine InvA_b 151 (by decide +kernel) ?_
     refine DrawCall_v (la140 l k p hk0 hp1) rfl rfl ?_
     conv=>whnf
     refine brk_i (fun h2 => ?_) (fun h2 => ?_)
     ·have h2 : long < p.dark.lo := by simpa using h2
      have hS : stepS l true ⟨false, k, long, false⟩ = none := by simp [stepS, hsp, h2]
      conv=>whnf
      exact ⟨(todo.filter fun j => !Nat.beq j i, (next, (c, some i))), hlt, ⟨hcn, by simp only; omega, hnx.none hx hS⟩, (Wk.sub ⟨(by first | rfl | (simp only [List.length_map]; rfl) | simp [PX.get]), (by first | rfl | (simp only [List.length_map]; rfl) | simp [PX.get]), (by first | rfl | (simp only [List.length_map]; rfl) | simp [PX.get]), (by first | rfl | (simp only [List.length_map]; rfl) | simp [PX.get]), (by first | rfl | (simp only [List.length_map]; rfl) | simp [PX.get]), (by first | rfl | (simp only [List.length_map]; rfl) | simp [PX.get]), trivial⟩ ⟨(by first | rfl | (simp only [List.length_map]; rfl) | simp [PX.get]), (by first | rfl | (simp only [List.length_map]; rfl) | simp [PX.get]), (by first | rfl | (simp only [List.length_map]; rfl) | simp [PX.get]), trivial⟩)⟩
     ·have h2 : ¬ long < p.dark.lo := by simpa using h2
      have hS : stepS l true ⟨false, k, long, false⟩ = if 1 ≤ p2.flash.hi then some ⟨true, k2, 1, false⟩ else none := by simp [stepS, hsp, hsd, behindS, h2, hk2e]
      conv=>whnf
      refine CallA_v (FnV.cast (la118 false k (List.map LPhase.cells l).length (by omega) (by simp; omega)) (r' := .ifc 178 (i64 k2)) (by rw [← hk2]; rfl)) rfl rfl ?_
      conv=>whnf
      refine InvA_b 150 (by decide +kernel) ?_
      refine DrawCall_v (la139 l k2 p2 hk20 hp2) rfl rfl ?_
      conv=>whnf
      refine brk_i (fun h3 => ?_) (fun h3 => ?_)
      ·have h3 : 1 ≤ p2.flash.hi := by simpa using h3
       rw [if_pos h3] at hS
       conv=>whnf
       have hnx2 := hnx.some hx hS
       have hcn2 := hcn.inc ⟨true, k2, 1, false⟩
       cases hg : getM next ⟨true, k2, 1, false⟩ with
       | none =>
        have g1 := findG_none (kd := LState.d) same_state hg 0
        have g2 : findD (LState.d ⟨true, k2, 1, false⟩) (kvG LState.d next ++ [(LState.d ⟨true, k2, 1, false⟩, i64 0)]) 0 = some (some ((kvG LState.d next).length, i64 0)) := by
         rw [findG_last same_state hg 0]; simp
        have hB : (decide ((0 : Int) ≤ ((kvG LState.d next).length : Int)) && decide (((kvG LState.d next).length : Int) < ((kvG LState.d next ++ [(LState.d ⟨true, k2, 1, false⟩, i64 0)]).length : Int))) = true := by
         simp; omega
        have hfin : setVal (kvG LState.d next ++ [(LState.d ⟨true, k2, 1, false⟩, i64 0)]) (kvG LState.d next).length (i64 (0 + 1)) = kvG LState.d (incM next ⟨true, k2, 1, false⟩) := by
         rw [setVal_end]
         have := putG_none (kd := LState.d) 1 hg
         rw [show i64 (0 + 1) = D.int .i64 1 from rfl, this, incM, hg]; rfl
        refine RegionA_inv mixed tysOk [[], [], [0, 1], [2], [0, 1], [4], [0, 1, 2, 3, 4, 5]] (fun ls => (selE ls [some (95, .mp 43), some (96, .d (LState.d ⟨true, k2, 1, false⟩)), some (97, .d (i64 0)), some (98, .d (i64 (0 + 1))), some (99, .d (.tup [i64 0, i64 (kvG LState.d next).length])), some (100, .d (i64 (kvG LState.d next).length)), none] ++ [(0, .d (boolsD (b0 :: r0))), (1, .d (phasesD l)), (5, .mp 900001), (7, .d (i64 s)), (8, .mp 43), (45, .it 45), (10, .ptr 10 0)], [(900001, .map (kvG LState.d m)), (43, .map (sel3 ls 4 6 (kvG LState.d next) (kvG LState.d next ++ [(LState.d ⟨true, k2, 1, false⟩, i64 0)]) (setVal (kvG LState.d next ++ [(LState.d ⟨true, k2, 1, false⟩, i64 0)]) (kvG LState.d next).length (i64 (0 + 1))))), (45, .mit (.mp 900001) m.length (todo.filter fun j => !Nat.beq j i) (some i)), (10, .box (.dd (LState.cells ⟨true, k2, 1, false⟩)))])) (by decide +kernel) ?_ ?_ ?_
        ·exact Wk.sub ⟨rfl, rfl, rfl, rfl, rfl, rfl, rfl, trivial⟩ ⟨rfl, rfl, rfl, rfl, trivial⟩
        ·conv=>whnf
         repeat' (first
          | trivial
          | (refine And.intro ?_ ?_ <;> conv=>whnf)
          | (refine findK.mk _ (g1) ?_; conv=>whnf)
          | (refine findK.mk _ (g2) ?_; conv=>whnf)
          | (refine arith_in (wrap_i64 (by omega)) ?_; conv=>whnf)
          | (refine chk_i hB ?_; conv=>whnf)
          | (refine Wk.sub ?_ ?_ <;> (repeat' (first | exact trivial | refine ⟨rfl, ?_⟩))))
        ·conv=>whnf
         refine ⟨(todo.filter fun j => !Nat.beq j i, (incM next ⟨true, k2, 1, false⟩, (c + 1, some i))), hlt, ⟨hcn2, by simp only; omega, hnx2⟩, Wk.sub ⟨rfl, rfl, rfl, rfl, rfl, rfl, trivial⟩ ⟨rfl, ?_, rfl, trivial⟩⟩
         exact congrArg (fun z => some (Obj.map z)) hfin
       | some v2 =>
        obtain ⟨j2, q0, q1, q2, q3, q4⟩ := findG_some (kd := LState.d) same_state hg 0
        have hvb := hcn.bd _ _ hg
        have g1 : findD (LState.d ⟨true, k2, 1, false⟩) (kvG LState.d next) 0 = some (some (j2, i64 v2)) := by rw [q1]; simp [i64]
        have g2 : findD (LState.d ⟨true, k2, 1, false⟩) (setKey (kvG LState.d next) j2 (LState.d ⟨true, k2, 1, false⟩)) 0 = some (some (j2, i64 v2)) := by rw [q3]; exact g1
        have hB : (decide ((0 : Int) ≤ (j2 : Int)) && decide ((j2 : Int) < ((setKey (kvG LState.d next) j2 (LState.d ⟨true, k2, 1, false⟩)).length : Int))) = true := by
         rw [q3, kvG_length]; simp; omega
        have hfin : setVal (setKey (kvG LState.d next) j2 (LState.d ⟨true, k2, 1, false⟩)) j2 (i64 (v2 + 1)) = kvG LState.d (incM next ⟨true, k2, 1, false⟩) := by
         rw [q3, show i64 (v2 + 1) = D.int .i64 (v2 + 1) from rfl, q4, incM, hg]; rfl
        refine RegionA_inv mixed tysOk [[], [], [0, 1], [2], [0, 1], [4], [0, 1, 2, 3, 4, 5]] (fun ls => (selE ls [some (95, .mp 43), some (96, .d (LState.d ⟨true, k2, 1, false⟩)), some (97, .d (i64 v2)), some (98, .d (i64 (v2 + 1))), some (99, .d (.tup [i64 v2, i64 j2])), some (100, .d (i64 j2)), none] ++ [(0, .d (boolsD (b0 :: r0))), (1, .d (phasesD l)), (5, .mp 900001), (7, .d (i64 s)), (8, .mp 43), (45, .it 45), (10, .ptr 10 0)], [(900001, .map (kvG LState.d m)), (43, .map (sel3 ls 4 6 (kvG LState.d next) (setKey (kvG LState.d next) j2 (LState.d ⟨true, k2, 1, false⟩)) (setVal (setKey (kvG LState.d next) j2 (LState.d ⟨true, k2, 1, false⟩)) j2 (i64 (v2 + 1))))), (45, .mit (.mp 900001) m.length (todo.filter fun j => !Nat.beq j i) (some i)), (10, .box (.dd (LState.cells ⟨true, k2, 1, false⟩)))])) (by decide +kernel) ?_ ?_ ?_
        ·exact Wk.sub ⟨rfl, rfl, rfl, rfl, rfl, rfl, rfl, trivial⟩ ⟨rfl, rfl, rfl, rfl, trivial⟩
        ·conv=>whnf
         repeat' (first
          | trivial
          | (refine And.intro ?_ ?_ <;> conv=>whnf)
          | (refine findK.mk _ (g1) ?_; conv=>whnf)
          | (refine findK.mk _ (g2) ?_; conv=>whnf)
          | (refine arith_in (wrap_i64 (by omega)) ?_; conv=>whnf)
          | (refine chk_i hB ?_; conv=>whnf)
          | (refine Wk.sub ?_ ?_ <;> (repeat' (first | exact trivial | refine ⟨rfl, ?_⟩))))
        ·conv=>whnf
         refine ⟨(todo.filter fun j => !Nat.beq j i, (incM next ⟨true, k2, 1, false⟩, (c + 1, some i))), hlt, ⟨hcn2, by simp only; omega, hnx2⟩, Wk.sub ⟨rfl, rfl, rfl, rfl, rfl, rfl, trivial⟩ ⟨rfl, ?_, rfl, trivial⟩⟩
         exact congrArg (fun z => some (Obj.map z)) hfin
      ·have h3 : ¬ 1 ≤ p2.flash.hi := by simpa using h3
       rw [if_neg h3] at hS
       conv=>whnf
       exact ⟨(todo.filter fun j => !Nat.beq j i, (next, (c, some i))), hlt, ⟨hcn, by simp only; omega, hnx.none hx hS⟩, (Wk.sub ⟨(by first | rfl | (simp only [List.length_map]; rfl) | simp [PX.get]), (by first | rfl | (simp only [List.length_map]; rfl) | simp [PX.get]), (by first | rfl | (simp only [List.length_map]; rfl) | simp [PX.get]), (by first | rfl | (simp only [List.length_map]; rfl) | simp [PX.get]), (by first | rfl | (simp only [List.length_map]; rfl) | simp [PX.get]), (by first | rfl | (simp only [List.length_map]; rfl) | simp [PX.get]), trivial⟩ ⟨(by first | rfl | (simp only [List.length_map]; rfl) | simp [PX.get]), (by first | rfl | (simp only [List.length_map]; rfl) | simp [PX.get]), (by first | rfl | (simp only [List.length_map]; rfl) | simp [PX.get]), trivial⟩)⟩
end Go.PX
namespace Go.PX
open Go.Proofs
def entrE (c : LCase) (l : List LLight) : Int := if (checkL c).2.2 = 0 then (lightsF l).2 else (checkL c).2.2
theorem la89 (c : LCase) (l : List LLight) : FnV Tryz.prog 49 [c.d, lightsD l] (i64 (entrE c l)) := by
 refine fnV_of mixed tysOk Tryz.func49 rfl (ft := ft49) 2 (by decide +kernel) (by rfl) fun {σ} Y st => ?_
 conv=>whnf
 refine CallA_v (la15 c) rfl rfl ?_
 conv=>whnf
 unfold entrE
 refine brk_i (fun h0 => ?_) (fun h0 => ?_)
 ·have h0 : (checkL c).2.2 = 0 := by simpa using h0
  rw [if_pos h0]
  conv=>whnf
  refine CallA_v (la17 l) rfl rfl ?_
  conv=>whnf
  exact RetA_view 0 rfl ⟨⟨rfl, rfl⟩, rfl⟩
 ·have h0 : ¬ (checkL c).2.2 = 0 := by simpa using h0
  rw [if_neg h0]
  conv=>whnf
  exact RetA_view 0 rfl ⟨⟨rfl, rfl⟩, rfl⟩
theorem firstE_ok {α : Type} {f : List α → α → Int} : ∀ {l b : List α} {i : Int}, (firstE f b l i).2 = 0 → ∀ x ∈ l, ∃ b', f b' x = 0
 | [], _, _, _, x, hx => by cases hx
 | y :: r, b, i, h, x, hx => by
  rw [firstE] at h
  split at h
  ·rename_i h1
   rcases List.mem_cons.1 hx with rfl | hx
   ·exact ⟨b, h1⟩
   ·exact firstE_ok h x hx
  ·rename_i h1
   exact absurd h h1
structure LightR (x : LLight) : Prop where
 len : 1 ≤ x.phases.length ∧ x.phases.length ≤ 3
 phase : ∀ p ∈ x.phases, phaseIn p = true ∧ phaseUp p = false
theorem phasesF_ok {l : List LPhase} (h : phasesF l = 0) : (1 ≤ l.length ∧ l.length ≤ 3) ∧ ∀ p ∈ l, phaseIn p = true ∧ phaseUp p = false := by
 unfold phasesF at h
 split at h
 case isFalse => cases h
 rename_i h1
 rw [inB_iff] at h1
 split at h
 ·cases h
 rename_i h2
 split at h
 ·cases h
 rename_i h3
 refine ⟨by omega, fun p hp => ⟨?_, ?_⟩⟩
 ·cases hq : phaseIn p with
  | true => rfl
  | false => exact absurd (List.any_eq_true.2 ⟨p, hp, by rw [hq]; rfl⟩) h2
 ·cases hq : phaseUp p with
  | false => rfl
  | true => exact absurd (List.any_eq_true.2 ⟨p, hp, hq⟩) h3
theorem lightsF_ok {l : List LLight} (h : (lightsF l).2 = 0) : (1 ≤ l.length ∧ l.length ≤ 6) ∧ ∀ x ∈ l, LightR x := by
 unfold lightsF at h
 split at h
 case isFalse => cases h
 rename_i h1
 rw [inB_iff] at h1
 refine ⟨by omega, fun x hx => ?_⟩
 obtain ⟨b, hb⟩ := firstE_ok h x hx
 unfold lightF at hb
 split at hb
 case isFalse => cases hb
 split at hb
 ·cases hb
 exact ⟨(phasesF_ok hb).1, (phasesF_ok hb).2⟩
theorem entr_ok {c : LCase} {l : List LLight} (h : entrE c l = 0) : (checkL c).2.2 = 0 ∧ ∀ x ∈ l, LightR x := by
 unfold entrE at h
 split at h
 ·rename_i h1
  exact ⟨h1, (lightsF_ok h).2⟩
 ·rename_i h1
  exact absurd h h1
theorem courseL_len {x : LLamp} {w : List Int} {t : LTruth} (h : LampR x) : courseL x w t ≠ [] ∧ (courseL x w t).length ≤ 200 ∧ (courseL x w t).length = x.night.toNat := by
 have hl : (courseL x w t).length = x.night.toNat := by unfold courseL; exact courseF_len
 have := h.night
 refine ⟨fun h0 => ?_, by omega, hl⟩
 rw [h0] at hl
 simp at hl
 omega
def failE (c : LCase) (l : LLight) (t : LTruth) : Int := if entrE c [l] = 0 then truthE c t else entrE c [l]
def failV (c : LCase) (l : LLight) (t : LTruth) : Int := if failE c l t = 0 then failsL (courseL c.lamp c.windings t) l.phases else 0
set_option maxHeartbeats 1000000 in
theorem la30 (c : LCase) (l : LLight) (t : LTruth) : FnV Tryz.prog 28 [c.d, l.d, t.d] (.tup [i64 (failV c l t), i64 (failE c l t)]) := by
 refine fnV_of mixed tysOk Tryz.func28 rfl (ft := ft28) 3 (by decide +kernel) (by rfl) fun {σ} Y st => ?_
 conv=>whnf
 refine CallA_view (la89 c [l]) rfl 1 rfl ?_
 conv=>whnf
 by_cases h0 : entrE c [l] = 0
 case neg =>
  have he : failE c l t = entrE c [l] := by unfold failE; rw [if_neg h0]
  have hv : failV c l t = 0 := by unfold failV; rw [he, if_neg h0]
  rw [he, hv]
  refine brk_i (fun h1 => absurd h1 (by simp [h0])) (fun _ => ?_)
  conv=>whnf
  refine brk_i (fun _ => ?_) (fun h1 => absurd h1 (by simp [h0]))
  conv=>whnf
  exact RetA_view 0 rfl ⟨⟨rfl, rfl⟩, rfl⟩
 obtain ⟨h00, hl⟩ := entr_ok h0
 have hR := checkL_ok h00
 have he : failE c l t = truthE c t := by unfold failE; rw [if_pos h0]
 refine brk_i (fun _ => ?_) (fun h1 => absurd h1 (by simp [h0]))
 conv=>whnf
 refine CallA_v (la72 c t (by have := hR.winds; omega)) rfl rfl ?_
 conv=>whnf
 rw [he]
 by_cases h1 : truthE c t = 0
 case neg =>
  have hv : failV c l t = 0 := by unfold failV; rw [he, if_neg h1]
  rw [hv]
  refine brk_i (fun _ => ?_) (fun h2 => absurd h2 (by simp [h1]))
  conv=>whnf
  exact RetA_view 0 rfl ⟨⟨rfl, rfl⟩, rfl⟩
 have hv : failV c l t = failsL (courseL c.lamp c.windings t) l.phases := by unfold failV; rw [he, if_pos h1]
 rw [hv]
 have hT := truth_ok h1
 refine brk_i (fun h2 => absurd h2 (by simp [h1])) (fun _ => ?_)
 conv=>whnf
 refine DrawCall_v (la73 c t hR.lamp hR.winds hT) rfl rfl ?_
 conv=>whnf
 obtain ⟨k1, k2, _⟩ := courseL_len (w := c.windings) (t := t) hR.lamp
 refine DrawCall_v (la90 (courseL c.lamp c.windings t) l.phases k1 k2 (hl l (by simp)).len) rfl rfl ?_
 conv=>whnf
 rw [h1]
 exact RetA_view 0 rfl ⟨⟨rfl, rfl⟩, rfl⟩
end Go.PX
