import Derived.Test.YtboaolnlajoanaaGreatDoorPxJ
import Derived.Test.YtboaolnlajoanaaGreatDoorPxI
set_option linter.all false
set_option maxRecDepth 10000
namespace Go.PX
open Go.RowKit
def stepAt {σ : Type} (P : Program) (T : Tys) (Y : Hd σ) (ops : List Oper) (o : Option Oper) (e : Env) (h : Heap) (s : σ) (go : Env → Heap → σ → Prop) : Prop :=
 match o with
 | some ⟨dst, op, _, _, _, guard⟩ => guardK ops e guard (fun w => applyK w e h fun e h => stepK P T Y dst op e h s go) (fun w => applyK w e h fun e h => applyK (wset dst (.d (.tup []))) e h fun e h => go e h s)
 | none => False
def isTrue : List Bool → Nat → Bool
 | [], _ => true
 | b :: _, 0 => b
 | _ :: r, n + 1 => isTrue r n
def allTrue (ls : List Bool) : List Nat → Bool
 | [] => true
 | i :: r => isTrue ls i && allTrue ls r
def readyL (ls : List Bool) : Nat → List (List Nat) → List Bool → List Nat
 | _, [], _ => []
 | _, _, [] => []
 | i, d :: ds, b :: bs => match b, allTrue ls d with
  | false, true => i :: readyL ls (i + 1) ds bs
  | _, _ => readyL ls (i + 1) ds bs
def setT : List Bool → Nat → List Bool
 | [], _ => []
 | _ :: r, 0 => true :: r
 | b :: r, n + 1 => b :: setT r n
noncomputable def allR (l : List Nat) (f : Nat → Prop) : Prop :=
 List.rec (motive := fun _ => Prop) True (fun i _ ih => f i ∧ ih) l
theorem allR_iff {f : Nat → Prop} : ∀ {l : List Nat}, allR l f ↔ ∀ i ∈ l, f i
 | [] => by simp [allR]
 | i :: r => by
  have := allR_iff (f := f) (l := r)
  simp only [allR] at this ⊢
  rw [this]
  simp
noncomputable def wpAnyA {σ : Type} (P : Program) (T : Tys) (Y : Hd σ) (ops : List Oper) (deps : List (List Nat)) (n : Nat) : List Bool → Env → Heap → σ → (Env → Heap → σ → Prop) → Prop :=
 Nat.rec (motive := fun _ => List Bool → Env → Heap → σ → (Env → Heap → σ → Prop) → Prop) (fun _ e h s K => K e h s)
  (fun _ ih ls e h s K => allR (readyL ls 0 deps ls) fun i => stepAt P T Y ops ops[i]? e h s fun e h s => ih (setT ls i) e h s K) n
def depsOk : List Oper → List (List Nat) → Bool
 | [], [] => true
 | o :: r, d :: ds => d.all (fun i => o.after.toList.any fun e => Region.binds .any e && Nat.beq e.on i) && depsOk r ds
 | _, _ => false
theorem depsOk_spec : ∀ {l : List Oper} {ds : List (List Nat)}, depsOk l ds = true → l.length = ds.length ∧ ∀ (i : Nat) (o : Oper) (d : List Nat), l[i]? = some o → ds[i]? = some d → ∀ j ∈ d, ∃ e ∈ o.after, Region.binds .any e = true ∧ e.on = j
 | [], [], _ => ⟨rfl, fun i o d h => by simp at h⟩
 | [], _ :: _, h => by simp [depsOk] at h
 | _ :: _, [], h => by simp [depsOk] at h
 | o :: r, d :: ds, h => by
  simp only [depsOk, Bool.and_eq_true, List.all_eq_true] at h
  obtain ⟨h1, h2⟩ := depsOk_spec h.2
  refine ⟨by simp [h1], fun i o' d' ho hd j hj => ?_⟩
  cases i with
  | zero =>
   simp at ho hd
   subst ho; subst hd
   have := h.1 j hj
   simp only [List.any_eq_true, Bool.and_eq_true] at this
   obtain ⟨e, he, hb, hq⟩ := this
   exact ⟨e, by simpa using he, hb, Nat.eq_of_beq_eq_true hq⟩
  | succ i => exact h2 i o' d' (by simpa using ho) (by simpa using hd) j hj
theorem isTrue_iff : ∀ {ls : List Bool} {i : Nat}, isTrue ls i = ls.toArray.getD i true
 | [], i => by simp [isTrue, Array.getD_eq_getD_getElem?]
 | b :: r, 0 => by simp [isTrue, Array.getD_eq_getD_getElem?]
 | b :: r, n + 1 => by
  have := isTrue_iff (ls := r) (i := n)
  simp only [isTrue, this, Array.getD_eq_getD_getElem?]
  simp
theorem allTrue_of {ls : List Bool} : ∀ {d : List Nat}, (∀ j ∈ d, isTrue ls j = true) → allTrue ls d = true
 | [], _ => rfl
 | i :: r, h => by
  have h1 := allTrue_of (ls := ls) (d := r) fun j hj => h j (List.mem_cons_of_mem _ hj)
  simp [allTrue, h i (by simp), h1]
theorem mem_readyL {ls : List Bool} : ∀ {ds : List (List Nat)} {bs : List Bool} {k i : Nat} {d : List Nat}, ds[i]? = some d → bs[i]? = some false → allTrue ls d = true → k + i ∈ readyL ls k ds bs
 | [], _, _, i, d, h, _, _ => by simp at h
 | _ :: _, [], _, i, d, _, h, _ => by simp at h
 | x :: ds, b :: bs, k, i, d, hd, hb, ha => by
  cases i with
  | zero =>
   simp at hd hb
   subst hd; subst hb
   simp [readyL, ha]
  | succ i =>
   have := mem_readyL (ls := ls) (ds := ds) (bs := bs) (k := k + 1) (i := i) (by simpa using hd) (by simpa using hb) ha
   rw [show k + (i + 1) = k + 1 + i by omega]
   simp only [readyL]
   split
   ·exact List.mem_cons_of_mem _ this
   ·exact this
theorem setT_eq : ∀ {ls : List Bool} {i : Nat}, setT ls i = ls.set i true
 | [], i => by simp [setT]
 | b :: r, 0 => rfl
 | b :: r, n + 1 => by simp [setT, setT_eq (ls := r)]
def unl : List Bool → Nat
 | [] => 0
 | true :: r => unl r
 | false :: r => unl r + 1
theorem unl_set : ∀ {ls : List Bool} {i : Nat}, ls[i]? = some false → unl (ls.set i true) + 1 = unl ls
 | [], i, h => by simp at h
 | b :: r, 0, h => by
  simp at h; subst h
  simp [unl]
 | b :: r, i + 1, h => by
  have := unl_set (ls := r) (i := i) (by simpa using h)
  cases b <;> simp [unl, this]
theorem unl_pos : ∀ {ls : List Bool}, 0 < unl ls → ∃ i : Nat, ls[i]? = some false ∧ ∀ j : Nat, j < i → ls[j]? = some true
 | [], h => by simp [unl] at h
 | false :: r, _ => ⟨0, rfl, fun j hj => by omega⟩
 | true :: r, h => by
  obtain ⟨i, h1, h2⟩ := unl_pos (ls := r) (by simpa [unl] using h)
  refine ⟨i + 1, by simpa using h1, fun j hj => ?_⟩
  cases j with
  | zero => rfl
  | succ j => simpa using h2 j (by omega)
theorem unl_zero : ∀ {ls : List Bool}, unl ls = 0 → ∀ i : Nat, ls[i]? ≠ some false
 | [], _, i => by simp
 | false :: r, h, i => by simp [unl] at h
 | true :: r, h, i => by
  cases i with
  | zero => simp
  | succ i => simpa using unl_zero (ls := r) (by simpa [unl] using h) i
section
variable {P : Program} {T : Tys} {σ : Type} {Y : Hd σ} {cx : Cx σ} {r : Option Nat} {m : List Nat}
theorem getD_true_at {ls : List Bool} {i : Nat} : ls.toArray.getD i true = false ↔ ls[i]? = some false := by
 rw [Array.getD_eq_getD_getElem?]
 simp only [List.getElem?_toArray]
 cases ls[i]? with
 | none => simp
 | some b => simp
theorem getD_false_at {ls : List Bool} {i : Nat} : ls.toArray.getD i false = true ↔ ls[i]? = some true := by
 rw [Array.getD_eq_getD_getElem?]
 simp only [List.getElem?_toArray]
 cases ls[i]? with
 | none => simp
 | some b => simp
theorem wpAnyA_sound (hT : TysOk P T) (hY : Handles P Y cx) {ops : Array Oper} {deps : List (List Nat)} (hback : okBack 0 ops.toList = true) (hdeps : depsOk ops.toList deps = true) {F0 : Nat → Nat} {w0 : World} {n0 : Nat} (hd : ∀ o ∈ ops.toList, ∀ d, o.dst = some d → d < n0) {K : Env → Heap → σ → Prop} :
  ∀ (n : Nat) {ls : List Bool} {e : Env} {h : Heap} {s : σ} {L : Loc} {F : Nat → Nat} {a : Act} {w : World}, ls.length = ops.size → unl ls = n → Good cx r m L F ⟨e, h, s⟩ a w → a.tmps.size = n0 → Tr F0 w0 F w →
   wpAnyA P T Y ops.toList deps n ls e h s K → wpAnyIn (fr r) 0 P .any ops (OpsPostP Y cx r m F0 w0 n0 K) n ls.toArray a w := by
 obtain ⟨hdl, hds⟩ := depsOk_spec hdeps
 have hdl : ops.size = deps.length := by simpa using hdl
 intro n
 induction n with
 | zero =>
  intro ls e h s L F a w hl hu hg hs tr hk
  refine ⟨?_, .inl ⟨e, h, s, L, F, rfl, hk, hg, tr, hs⟩⟩
  cases hr : Region.ready .any ops ls.toArray with
  | nil => rfl
  | cons i _ =>
   have : i ∈ Region.ready .any ops ls.toArray := by rw [hr]; exact List.mem_cons_self ..
   have := getD_true_at.1 (mem_ready.1 this).1
   exact absurd this (unl_zero hu i)
 | succ n ih =>
  intro ls e h s L F a w hl hu hg hs tr hk
  refine ⟨fun hr => ?_, fun i hi => ?_⟩
  ·exfalso
   obtain ⟨i, h1, h2⟩ := unl_pos (ls := ls) (by omega)
   have his : i < ops.size := by rw [← hl]; exact (List.getElem?_eq_some_iff.1 h1).1
   have : i ∈ Region.ready .any ops ls.toArray := by
    rw [mem_ready]
    refine ⟨getD_true_at.2 h1, ops[i], Array.getElem?_eq_getElem his, fun e he hb => ?_⟩
    have hlt := okBack_spec hback i ops[i] (by simp) e he hb
    exact getD_false_at.2 (h2 e.on (by omega))
   rw [hr] at this
   cases this
  ·obtain ⟨hjl, oj, hoj, hedges⟩ := mem_ready.1 hi
   have his : i < ops.size := (Array.getElem?_eq_some_iff.1 hoj).1
   have hli := getD_true_at.1 hjl
   have hk : allR (readyL ls 0 deps ls) fun i => stepAt P T Y ops.toList ops.toList[i]? e h s fun e h s => wpAnyA P T Y ops.toList deps n (setT ls i) e h s K := hk
   have hdi : deps[i]? = some (deps[i]'(by omega)) := List.getElem?_eq_getElem _
   have hki := allR_iff.1 hk i (by
    have := mem_readyL (ls := ls) (ds := deps) (bs := ls) (k := 0) (i := i) hdi hli (allTrue_of fun j hj => by
     obtain ⟨e, he, hb, rfl⟩ := hds i oj _ (by simpa using hoj) hdi j hj
     have := hedges e he hb
     rw [isTrue_iff]
     have := getD_false_at.1 this
     rw [Array.getD_eq_getD_getElem?]
     simp [this])
    simpa using this)
   have hot : ops.toList[i]? = some oj := by simpa using hoj
   rw [hot] at hki
   obtain ⟨dst, op, ty, pos, after, guard⟩ := oj
   refine wpOp_sound hT hY hoj hg (fun d hdst => by rw [hs]; exact hd _ (List.mem_of_getElem? hot) d hdst) hki (fun e' h' s' L' F' a' w' hg' hs' tr' hk' => ?_) fun e' a' w' hp => .inr (hp.trans tr hs)
   have hset : ls.toArray.setIfInBounds i true = (setT ls i).toArray := by rw [setT_eq]; simp
   rw [hset]
   refine ih (by rw [setT_eq]; simpa using hl) ?_ hg' (hs'.trans hs) (Tr.trans tr tr') hk'
   rw [setT_eq]
   have := unl_set hli
   omega
variable {ft : FT}
theorem RegionA_all (hm : P.follows .mixedOrders = true) (hT : TysOk P T) (deps : List (List Nat)) {id : Nat} {ops : Array Oper} (hst : (okBack 0 ops.toList && depsOk ops.toList deps) = true) {e : Env} {h : Heap} {s : σ} {K : AExit → St σ → Prop}
  (hk : wpAnyA P T Y ops.toList deps deps.length (deps.map fun _ => false) e h s fun e h s => forceE (keepT ft.ks e) fun e => K .normal ⟨e, h, s⟩) : RegionA P ft Y id ops ⟨e, h, s⟩ K := by
 refine ⟨fun cx hY r m L F a w hg hc => ?_⟩
 rw [Bool.and_eq_true] at hst
 obtain ⟨hdl, _⟩ := depsOk_spec hst.2
 have hdl : ops.size = deps.length := by simpa using hdl
 refine wpIn_mono (wpIn_region_any (id := id) (Q := OpsPostP Y cx r m F w a.tmps.size (fun e h s => forceE (keepT ft.ks e) fun e => K .normal ⟨e, h, s⟩)) hm ?_) fun ex a' w' hq => ?_
 ·have hrep : Array.replicate ops.size false = (deps.map fun _ => false).toArray := by
   rw [hdl]
   have : ∀ l : List (List Nat), (l.map fun _ => false) = List.replicate l.length false := by
    intro l
    induction l with
    | nil => rfl
    | cons x r ih => rw [List.map_cons, ih]; rfl
   rw [this]; simp
  have hunl : ∀ l : List (List Nat), unl (l.map fun _ => false) = l.length := by
   intro l
   induction l with
   | nil => rfl
   | cons x r ih => simp [unl, ih]
  rw [hrep, hdl]
  exact wpAnyA_sound hT hY hst.1 hst.2 (opsOk_of hc) deps.length (by simp [hdl]) (hunl deps) (hg.same (w' := { w with drawn := w.drawn + 1 }) rfl rfl rfl rfl) rfl (Tr.drew _) hk
 ·rcases hq with ⟨e', h', s', L', F', hex, hk, hg', tr, hs⟩ | hp
  case inr => exact .inr hp
  rw [forceE_eq] at hk
  exact .inl ⟨.normal, _, m, L', F', hex, hk, hg'.sub (sub_keepT ft.ks e') (fun _ _ h => h), tr, hs⟩
end
end Go.PX
namespace Go.PX
mutual
def relax : D → D
 | .agg cs => .agg (relaxL cs)
 | .tup cs => .tup (relaxL cs)
 | .vs es => .vs (relaxE es)
 | .nils => .vs []
 | .ref cs => .ref (relaxL cs)
 | .bool b => .bool b
 | .int k n => .int k n
 | .str s => .str s
 | .nilp => .nilp
 | .mv kvs => .mv kvs
 | .nilm => .nilm
 | .clo f caps => .clo f caps
 | .mth f first => .mth f first
 | .nilf => .nilf
 | .ifc t v => .ifc t v
 | .nili => .nili
def relaxL : List D → List D
 | [] => []
 | c :: r => relax c :: relaxL r
def relaxE : List (List D) → List (List D)
 | [] => []
 | c :: r => relaxL c :: relaxE r
end
theorem relaxL_length : ∀ l : List D, (relaxL l).length = l.length
 | [] => rfl
 | c :: r => by simp only [relaxL, List.length_cons, relaxL_length r]
theorem relaxE_length : ∀ l : List (List D), (relaxE l).length = l.length
 | [] => rfl
 | c :: r => by simp only [relaxE, List.length_cons, relaxE_length r]
mutual
theorem RepD.relax {F : Nat → Nat} {w : World} : ∀ (a : D) (v : Value), RepD F w a v → RepD F w (relax a) v
 | .agg cs, _, hr => by
  obtain ⟨l, rfl, hl⟩ := hr
  exact ⟨l, rfl, RepDL.relax cs _ hl⟩
 | .tup cs, _, hr => by
  obtain ⟨l, rfl, hl⟩ := hr
  exact ⟨l, rfl, RepDL.relax cs _ hl⟩
 | .vs es, _, hr => by
  obtain ⟨a, len, cap, rfl, hl, hc, he⟩ := hr
  refine ⟨a, len, cap, rfl, by rw [relaxE_length]; exact hl, hc, fun hne => ?_⟩
  obtain ⟨b, off, sz, ha, hs, hes⟩ := he (by rintro rfl; exact hne rfl)
  exact ⟨b, off, sz, ha, hs, RepEs.relax es b off sz hes⟩
 | .nils, _, hr => by
  have hx : _ = Value.slice none 0 0 := hr
  subst hx
  exact ⟨none, 0, 0, rfl, rfl, Nat.le_refl _, fun h => absurd rfl h⟩
 | .ref cs, _, hr => by
  obtain ⟨b, off, rfl, hc⟩ := hr
  exact ⟨b, off, rfl, RepAt.relax cs b off hc⟩
 | .bool _, _, hr => hr
 | .int _ _, _, hr => hr
 | .str _, _, hr => hr
 | .nilp, _, hr => hr
 | .mv _, _, hr => hr
 | .nilm, _, hr => hr
 | .clo _ _, _, hr => hr
 | .mth _ _, _, hr => hr
 | .nilf, _, hr => hr
 | .ifc _ _, _, hr => hr
 | .nili, _, hr => hr
theorem RepDL.relax {F : Nat → Nat} {w : World} : ∀ (cs : List D) (l : List Value), RepDL F w cs l → RepDL F w (relaxL cs) l
 | [], _, hr => hr
 | c :: r, _, hr => by
  obtain ⟨x, l', rfl, hc, hl⟩ := hr
  exact ⟨x, l', rfl, RepD.relax c x hc, RepDL.relax r l' hl⟩
theorem RepAt.relax {F : Nat → Nat} {w : World} : ∀ (cs : List D) (b off : Nat), RepAt F w b off cs → RepAt F w b off (relaxL cs)
 | [], _, _, _ => trivial
 | c :: r, b, off, hr => by
  obtain ⟨hf, ⟨x, hx, hc⟩, hl⟩ := hr
  exact ⟨hf, ⟨x, hx, RepD.relax c x hc⟩, RepAt.relax r b (off + 1) hl⟩
theorem RepEs.relax {F : Nat → Nat} {w : World} : ∀ (es : List (List D)) (b off sz : Nat), RepEs F w b off sz es → RepEs F w b off sz (relaxE es)
 | [], _, _, _, _ => trivial
 | e :: r, b, off, sz, hr => by
  obtain ⟨hn, he, hl⟩ := hr
  exact ⟨by rw [relaxL_length]; exact hn, RepAt.relax e b off he, RepEs.relax r b (off + sz) sz hl⟩
end
theorem FnV.relax {P : Program} {f : FuncId} {ds : List D} {r : D} (h : FnV P f ds r) {r' : D} (hr : PX.relax r = r') : FnV P f ds r' := by
 subst hr
 intro σ Y s
 obtain ⟨h1, h2⟩ := h Y s
 refine ⟨h1, fun cx hY L F vals w hh hv => (h2 cx hY L F vals w hh hv).mono ?_⟩
 rintro e w' ⟨x, rfl, v, h', s', L', F', ⟨⟨rfl, rfl⟩, rfl⟩, hh', hx, tr, hp⟩
 exact ⟨x, rfl, _, _, _, L', F', ⟨⟨rfl, rfl⟩, rfl⟩, hh', RepD.relax r x hx, tr, hp⟩
section
variable {P : Program} {σ : Type} {Y : Hd σ}
end
def FT.less (ft : FT) (id : Nat) : FT := ⟨ft.ks, cut ft.tb id⟩
theorem forceN_to {l : List Nat} {K : List Nat → Prop} (l' : List Nat) (h : l = l') (k : forceN l' K) : forceN l K := by subst h; exact k
theorem namesOfL_inj : ∀ l : List D, namesOfL (inj l) = []
 | [] => rfl
 | x :: r => by simp only [inj, namesOfL, namesOf, namesOfL_inj r]; rfl
theorem namesOfL_app : ∀ a b : List V, namesOfL (a ++ b) = namesOfL a ++ namesOfL b
 | [], b => rfl
 | x :: r, b => by simp only [List.cons_append, namesOfL, namesOfL_app r b, List.append_assoc]
theorem namesOfL_injL (l : List (List D)) (vs : List (List V)) : namesOfL (injL l ++ vs).flatten = namesOfL vs.flatten := by
 rw [List.flatten_append, namesOfL_app, injL_flatten, namesOfL_inj]; rfl
theorem get_enterE : ∀ (l : List V) (i k : Nat) (v : V), l[k]? = some v → get (enterE i l) (i + k) = some v
 | [], _, k, v, h => by simp at h
 | a :: r, i, 0, v, h => by
  simp at h
  subst h
  simp [enterE, get]
 | a :: r, i, k + 1, v, h => by
  have hne : Nat.beq i (i + (k + 1)) = false := by
   rw [Bool.eq_false_iff]; intro e
   have := Nat.eq_of_beq_eq_true e; omega
  simp only [enterE, get, hne]
  rw [show i + (k + 1) = i + 1 + k by omega]
  exact get_enterE r (i + 1) k v (by simpa using h)
theorem RepVL.of {yv : Option Nat} {L : Loc} {F : Nat → Nat} {w : World} : ∀ {l : List V} {vals : List Value}, l.length = vals.length → (∀ (k : Nat) (v : V), l[k]? = some v → ∃ x, vals[k]? = some x ∧ RepV yv L F w v x) → RepVL yv L F w l vals
 | [], [], _, _ => rfl
 | [], _ :: _, h, _ => by simp at h
 | _ :: _, [], h, _ => by simp at h
 | v :: l, x :: vals, h, hk => by
  obtain ⟨y, hy, hr⟩ := hk 0 v rfl
  simp at hy
  subst hy
  exact ⟨x, vals, rfl, hr, RepVL.of (by simpa using h) fun k u hu => by simpa using hk (k + 1) u (by simpa using hu)⟩
theorem RetA_wk {σ : Type} {l l' : List V} {h h' : Heap} {s : σ} {Q : V → Heap → σ → Prop} (hw : Wk (⟨enterE 0 l, h, s⟩ : St σ) ⟨enterE 0 l', h', s⟩) (hlen : l'.length = l.length) (hl : Nat.ble l.length 1000 = true) (hr : RetA l' h' s Q) : RetA l h s Q := by
 obtain ⟨hr⟩ := hr
 refine ⟨fun cx L F vals w hh hv => ?_⟩
 have hvl : vals.length = l.length := by simpa using hv.length
 have hl := Nat.le_of_ble_eq_true hl
 have hg : Good { cx with pρ := L.ρ, pκ := L.κ, base := [] } none [] L F ⟨enterE 0 l, h, s⟩ { tmps := vals.toArray, defers := [] } w := by
  refine ⟨⟨hh.hg, hh.csz, hh.fresh, hh.obj, hh.own, hh.inj⟩, fun t v ht => ?_, rfl, (fun b hb => by cases hb), List.nodup_nil, (fun l hl => by cases hl), fun _ _ => ⟨rfl, rfl⟩, by simp; omega⟩
  obtain ⟨k, hk, hv'⟩ := get_enter ht
  rw [Nat.zero_add] at hk; subst hk
  obtain ⟨x, hx, hrx⟩ := hv.get t hv'
  exact ⟨x, by simpa using hx, hrx⟩
 obtain ⟨L1, F1, hg1, tr⟩ := hw _ _ _ _ _ _ _ hg
 have hv1 : RepVL cx.yv L1 F1 w l' vals := by
  refine RepVL.of (by omega) fun k v hk => ?_
  obtain ⟨x, hx, hrx⟩ := hg1.env k v (by simpa using get_enterE l' 0 k v hk)
  exact ⟨x, by simpa using hx, hrx⟩
 have hh1 : HeapOk cx L1 F1 h' s w := ⟨hg1.heap.hg, hg1.heap.csz, hg1.heap.fresh, hg1.heap.obj, hg1.heap.own, hg1.heap.inj⟩
 obtain ⟨v, h2, L2, F2, q1, q2, q3, q4, q5⟩ := hr cx L1 F1 vals w hh1 hv1
 refine ⟨v, h2, L2, F2, q1, q2, q3, Tr.trans tr q4, fun i hi => ?_⟩
 obtain ⟨p1, p2⟩ := q5 i hi
 obtain ⟨p3, p4⟩ := hg1.pin i hi
 exact ⟨p1.trans p3, p2.trans p4⟩
theorem Good.frzPart2 {σ : Type} {cx : Cx σ} {r : Option Nat} {m : List Nat} {L : Loc} {F : Nat → Nat} {st : St σ} {a : Act} {w : World} (hg : Good cx r m L F st a w) {h : Heap} (hsub : SubT h st.heap) (n : Nat) :
  ∃ F1, Good cx r m L F1 (applyWs st (delL (keysOf h))) a w ∧ Tr F w F1 w ∧ ∀ args vals, RepVL cx.yv L F w args vals → RepVL cx.yv L F1 w (replL (objD h n) args) vals := by
 have hok : HeapOk cx L F h st.s w := (hg.sub (e := st.env) (h := h) (fun _ _ h => h) hsub).heap
 have tr := frzAll_tr hok
 have hF1C : ∀ b, cx.C st.s b → frzAll L F h w b = F b := fun b hb => frzAll_C hok hb
 have hF1o : ∀ id o, get st.heap id = some o → id ∉ keysOf h → Backed L id o → frzAll L F h w (L.ρ id) = F (L.ρ id) := by
  intro id o hi hn hb
  refine frzAll_other ?_
  rintro ⟨j, p, hj, hbj, hij⟩
  have := hg.heap.inj j id p o (hsub j p hj) hi hbj hb hij
  subst this
  exact hn (keysOf_mem hj)
 have hfr := frzAll_fresh hok
 have hobj := objD_t hok n
 generalize frzAll L F h w = F1 at tr hF1C hF1o hfr hobj
 rw [applyWs_delL]
 have hget : ∀ i o, get (cutL st.heap (keysOf h)) i = some o → i ∉ keysOf h ∧ get st.heap i = some o := by
  intro i o hi
  rw [get_cutL] at hi
  split at hi
  ·cases hi
  ·rename_i hn; exact ⟨hn, hi⟩
 refine ⟨F1, ⟨⟨cx.stable hg.heap.hg tr hfr fun b hb => ⟨rfl, hF1C b hb⟩, hg.heap.csz, hfr, ?_, ?_, ?_⟩, ?_, hg.dfr, hg.mks, hg.mnd, hg.lk, hg.pin, hg.tsz⟩, tr, fun args vals hr => RepVL.repl tr hobj args vals hr⟩
 ·intro i o hi
  exact RepO.mono tr i o (fun _ _ => ⟨rfl, rfl⟩) ⟨rfl, rfl⟩ (fun _ => rfl) (hg.heap.obj i o (hget i o hi).2)
 ·intro i o hi hb
  obtain ⟨hn, h0⟩ := hget i o hi
  rw [hF1o i o h0 hn hb]
  exact hg.heap.own i o h0 hb
 ·intro i j o p hi hj hbi hbj he
  exact hg.heap.inj i j o p (hget i o hi).2 (hget j p hj).2 hbi hbj he
 ·intro t v ht
  obtain ⟨x, hx, hr⟩ := hg.env t v ht
  exact ⟨x, hx, RepV.mono tr v x (fun _ _ => ⟨rfl, rfl⟩) hr⟩
end Go.PX
namespace Go.PX
open Go.RowKit
section
variable {κ : Type} [DecidableEq κ] (kd : κ → D)
def kvG (m : List (κ × Int)) : List (D × D) := m.map fun p => (kd p.1, .int .i64 p.2)
def getM : List (κ × Int) → κ → Option Int
 | [], _ => none
 | (u, x) :: r, t => if t = u then some x else getM r t
def putM : List (κ × Int) → κ → Int → List (κ × Int)
 | [], t, v => [(t, v)]
 | (u, x) :: r, t, v => if t = u then (t, v) :: r else (u, x) :: putM r t v
variable {kd}
theorem findG_none (hs : ∀ a b, sameD (kd a) (kd b) = some (decide (a = b))) {t : κ} : ∀ {m : List (κ × Int)}, getM m t = none → ∀ n, findD (kd t) (kvG kd m) n = some none
 | [], _, n => rfl
 | (u, x) :: r, h, n => by
  rw [getM] at h
  split at h
  ·cases h
  ·rename_i hu
   show (match sameD (kd t) (kd u) with
    | some true => some (some (n, D.int .i64 x))
    | some false => findD (kd t) (kvG kd r) (n + 1)
    | none => none) = _
   rw [hs, decide_eq_false hu]
   exact findG_none hs h (n + 1)
theorem findG_some (hs : ∀ a b, sameD (kd a) (kd b) = some (decide (a = b))) {t : κ} {v : Int} : ∀ {m : List (κ × Int)}, getM m t = some v → ∀ n, ∃ i, i < m.length ∧ findD (kd t) (kvG kd m) n = some (some (n + i, .int .i64 v)) ∧ (∀ y, (kvG kd m).set i (kd t, .int .i64 y) = kvG kd (putM m t y)) ∧ setKey (kvG kd m) i (kd t) = kvG kd m ∧ ∀ y, setVal (kvG kd m) i (.int .i64 y) = kvG kd (putM m t y)
 | [], h, n => by cases h
 | (u, x) :: r, h, n => by
  rw [getM] at h
  split at h
  ·rename_i hu
   cases h
   subst hu
   refine ⟨0, by simp, ?_, fun y => ?_, rfl, fun y => ?_⟩
   ·show (match sameD (kd t) (kd t) with
     | some true => some (some (n, D.int .i64 v))
     | some false => findD (kd t) (kvG kd r) (n + 1)
     | none => none) = _
    rw [hs, decide_eq_true rfl]; rfl
   ·rw [putM, if_pos rfl]; rfl
   ·rw [putM, if_pos rfl]; rfl
  ·rename_i hu
   obtain ⟨i, h0, h1, h2, h3, h4⟩ := findG_some hs h (n + 1)
   refine ⟨i + 1, by simp; omega, ?_, fun y => ?_, ?_, fun y => ?_⟩
   ·show (match sameD (kd t) (kd u) with
     | some true => some (some (n, D.int .i64 x))
     | some false => findD (kd t) (kvG kd r) (n + 1)
     | none => none) = _
    rw [hs, decide_eq_false hu]
    show findD (kd t) (kvG kd r) (n + 1) = _
    rw [h1, show n + 1 + i = n + (i + 1) by omega]
   ·rw [putM, if_neg hu]
    show (kd u, D.int .i64 x) :: (kvG kd r).set i (kd t, .int .i64 y) = (kd u, D.int .i64 x) :: kvG kd (putM r t y)
    rw [h2 y]
   ·show (kd u, D.int .i64 x) :: setKey (kvG kd r) i (kd t) = _
    rw [h3]; rfl
   ·rw [putM, if_neg hu]
    show (kd u, D.int .i64 x) :: setVal (kvG kd r) i (.int .i64 y) = (kd u, D.int .i64 x) :: kvG kd (putM r t y)
    rw [h4 y]
theorem putG_none {t : κ} (y : Int) : ∀ {m : List (κ × Int)}, getM m t = none → kvG kd m ++ [(kd t, .int .i64 y)] = kvG kd (putM m t y)
 | [], _ => rfl
 | (u, x) :: r, h => by
  rw [getM] at h
  split at h
  ·cases h
  ·rename_i hu
   rw [putM, if_neg hu]
   show (kd u, D.int .i64 x) :: (kvG kd r ++ [(kd t, .int .i64 y)]) = _
   rw [putG_none y h]; rfl
theorem getM_put (m : List (κ × Int)) (t u : κ) (y : Int) : getM (putM m t y) u = if u = t then some y else getM m u := by
 induction m with
 | nil => rfl
 | cons p r ih =>
  obtain ⟨w, x⟩ := p
  rw [putM]
  split
  ·rename_i h
   subst h
   simp only [getM]
   split <;> rfl
  ·rename_i h
   simp only [getM]
   split
   ·rename_i h2
    subst h2
    rw [if_neg (fun e => h e.symm)]
   ·exact ih
end
end Go.PX
namespace Go.PX
open Go.RowKit
section
variable {P : Program} {T : Tys} {σ : Type} {Y : Hd σ} {cx : Cx σ} {r : Option Nat} {m : List Nat}
variable {ft : FT}
end
end Go.PX
namespace Go.PX
open Go.RowKit
section
variable {σ : Type} {cx : Cx σ} {L : Loc} {F : Nat → Nat} {s : σ} {w : World}
end
section
variable {P : Program} {T : Tys} {ft : FT} {α σ : Type} {Y : Hd σ}
end
end Go.PX
namespace Go.PX
open Go.RowKit
section
variable {P : Program} {T : Tys} {ft : FT} {α σ : Type} {Y : Hd σ}
end
end Go.PX
namespace Go.PX
open Go.Proofs
structure Pt where
 x : Int
 y : Int
def Pt.sub (a b : Pt) : Pt := ⟨a.x - b.x, a.y - b.y⟩
def leftF (o w : Pt) : Int := o.x * w.y - o.y * w.x
def dotF (a b : Pt) : Int := a.x * b.x + a.y * b.y
end Go.PX
namespace Go.PX
open Go.Proofs
def Pt.cells (p : Pt) : List D := [i64 p.x, i64 p.y]
def Pt.d (p : Pt) : D := .agg p.cells
def ptsD (l : List Pt) : D := .vs (l.map Pt.cells)
structure Pin (m : Int) (p : Pt) : Prop where
 x : -m ≤ p.x ∧ p.x ≤ m
 y : -m ≤ p.y ∧ p.y ≤ m
theorem Pin.mono {m n : Int} {p : Pt} (h : Pin m p) (hmn : m ≤ n) : Pin n p := ⟨by have := h.x; omega, by have := h.y; omega⟩
theorem Pin.sub {m n : Int} {a b : Pt} (ha : Pin m a) (hb : Pin n b) : Pin (m + n) (a.sub b) := by
 have h1 := ha.x
 have h2 := ha.y
 have h3 := hb.x
 have h4 := hb.y
 exact ⟨by show -(m + n) ≤ a.x - b.x ∧ a.x - b.x ≤ m + n; omega, by show -(m + n) ≤ a.y - b.y ∧ a.y - b.y ≤ m + n; omega⟩
theorem mul_big {a b : Int} (ha : -1000000000 ≤ a ∧ a ≤ 1000000000) (hb : -1000000000 ≤ b ∧ b ≤ 1000000000) : -1000000000000000000 ≤ a * b ∧ a * b ≤ 1000000000000000000 := by
 have := mul_bd (a := a) (b := b) 1000000000 1000000000 (by omega) (by omega)
 simpa using this
theorem ch81 (a b : Pt) (ha : Pin 1000000000000 a) (hb : Pin 1000000000000 b) : FnV Tryz.prog 81 [a.d, b.d] (b.sub a).d := by
 refine fnV_of mixed tysOk Tryz.func81 rfl (ft := ft81) 2 (by decide +kernel) (by rfl) fun {σ} Y st => ?_
 conv=>whnf
 have h1 := ha.x
 have h2 := ha.y
 have h3 := hb.x
 have h4 := hb.y
 refine arith_in (wrap_i64 (by (try dsimp only); omega)) ?_
 conv=>whnf
 refine arith_in (wrap_i64 (by (try dsimp only); omega)) ?_
 conv=>whnf
 exact RetA_view 0 rfl ⟨⟨rfl, rfl⟩, rfl⟩
theorem ch104 (o w : Pt) (ho : Pin 1000000000 o) (hw : Pin 1000000000 w) : FnV Tryz.prog 104 [o.d, w.d] (i64 (leftF o w)) := by
 refine fnV_of mixed tysOk Tryz.func104 rfl (ft := ft104) 2 (by decide +kernel) (by rfl) fun {σ} Y st => ?_
 conv=>whnf
 have h1 := mul_big ho.x hw.y
 have h2 := mul_big ho.y hw.x
 refine arith_in (wrap_i64 (by (try dsimp only); omega)) ?_
 conv=>whnf
 refine arith_in (wrap_i64 (by (try dsimp only); omega)) ?_
 conv=>whnf
 refine arith_in (wrap_i64 (by (try dsimp only); omega)) ?_
 conv=>whnf
 exact RetA_view 0 rfl ⟨⟨rfl, rfl⟩, rfl⟩
theorem ch126 (o w : Pt) (ho : Pin 1000000000 o) (hw : Pin 1000000000 w) : FnV Tryz.prog 126 [o.d, w.d] (i64 (dotF o w)) := by
 refine fnV_of mixed tysOk Tryz.func126 rfl (ft := ft126) 2 (by decide +kernel) (by rfl) fun {σ} Y st => ?_
 conv=>whnf
 have h1 := mul_big ho.x hw.x
 have h2 := mul_big ho.y hw.y
 refine arith_in (wrap_i64 (by (try dsimp only); omega)) ?_
 conv=>whnf
 refine arith_in (wrap_i64 (by (try dsimp only); omega)) ?_
 conv=>whnf
 refine arith_in (wrap_i64 (by (try dsimp only); omega)) ?_
 conv=>whnf
 exact RetA_view 0 rfl ⟨⟨rfl, rfl⟩, rfl⟩
theorem ch123 (l : List Pt) (g : FuncId) (caps : List D) (p : Pt → Bool) (hl : l.length < 4000000000000000000) (hp : ∀ x ∈ l, FnV Tryz.prog g (.agg x.cells :: caps) (.bool (p x))) :
  FnV Tryz.prog 123 [ptsD l, .clo g caps] (i64 (indexOf p l 0)) := by
 refine fnV_of mixed tysOk Tryz.func123 rfl (ft := ft123) 2 (by decide +kernel) (by rfl) fun {σ} Y st => ?_
 conv=>whnf
 refine LoopA_i (T := tys) tysOk (by exact drawsB_spec mixed tysOk (by decide +kernel)) l (fun i (_ : Unit) => ⟨[(0, .d (ptsD l)), (1, .d (.clo g caps)), (7, .d (i64 l.length)), (8, .d (i64 i))], [], st⟩) (fun i r _ => indexOf p l 0 = indexOf p r i) () (Wk.sub ⟨(by first | rfl | (simp only [List.length_map]; rfl) | simp [PX.get]), (by first | rfl | (simp only [List.length_map]; rfl) | simp [PX.get]), (by first | rfl | (simp only [List.length_map]; rfl) | simp [PX.get]), (by first | rfl | (simp only [List.length_map]; rfl) | simp [PX.get]), trivial⟩ trivial) rfl ?_ ?_
 ·intro i x r _ hx hi hr he
  rw [indexOf] at he
  conv=>whnf
  refine brk_i (fun _ => ?_) (fun h => absurd hi (by simpa using h))
  conv=>whnf
  refine elemK_nat hx ?_
  conv=>whnf
  refine CallA_v (hp x (List.mem_of_getElem? hx)) rfl rfl ?_
  conv=>whnf
  refine brk_i (fun h1 => ?_) (fun h1 => ?_)
  ·conv=>whnf
   rw [he, if_pos h1]
   exact RetA_view 0 rfl ⟨⟨rfl, rfl⟩, rfl⟩
  ·rw [if_neg (by simp [h1])] at he
   conv=>whnf
   refine arith_in (wrap_i64 (by (try dsimp only); omega)) ?_
   conv=>whnf
   exact ⟨(), he, (Wk.sub ⟨(by first | rfl | (simp only [List.length_map]; rfl) | simp [PX.get]), (by first | rfl | (simp only [List.length_map]; rfl) | simp [PX.get]), (by first | rfl | (simp only [List.length_map]; rfl) | simp [PX.get]), (by first | rfl | (simp only [List.length_map]; rfl) | simp [PX.get]), trivial⟩ trivial)⟩
 ·intro _ he
  conv=>whnf
  refine brk_i (fun h => absurd h (by simp)) (fun _ => ?_)
  conv=>whnf
  rw [he]
  exact RetA_view 0 rfl ⟨⟨rfl, rfl⟩, rfl⟩
theorem ch101 (l : List Pt) (g : FuncId) (caps : List D) (p : Pt → Bool) (hl : l.length < 4000000000000000000) (hp : ∀ x ∈ l, FnV Tryz.prog g (.agg x.cells :: caps) (.bool (p x))) :
  FnV Tryz.prog 101 [ptsD l, .clo g caps] (.bool (l.any p)) := by
 refine fnV_of mixed tysOk Tryz.func101 rfl (ft := ft101) 2 (by decide +kernel) (by rfl) fun {σ} Y st => ?_
 conv=>whnf
 refine CallA_v (ch123 l g caps p hl hp) rfl rfl ?_
 conv=>whnf
 refine RetA_view 0 rfl ⟨⟨?_, rfl⟩, rfl⟩
 rw [← indexOf_any p l 0 (by omega)]; rfl
theorem fn51_4 (lo hi a b c d : Int) : FnV Tryz.prog 58 [i64 lo, i64 hi, .vs [[i64 a], [i64 b], [i64 c], [i64 d]]] (.bool (!((inB a lo hi && inB b lo hi) && (inB c lo hi && inB d lo hi)))) := by
 exact FnV.cast (fn51 lo hi [a, b, c, d] (by simp)) (by simp only [List.any_cons, List.any_nil, out_eq]; cases inB a lo hi <;> cases inB b lo hi <;> cases inB c lo hi <;> cases inB d lo hi <;> rfl)
def withinB (m : Int) (p : Pt) : Bool := inB p.x (-m) m && inB p.y (-m) m
theorem within_iff {m : Int} {p : Pt} : withinB m p = true ↔ Pin m p := by
 unfold withinB
 rw [Bool.and_eq_true, inB_iff, inB_iff]
 exact ⟨fun ⟨a, b⟩ => ⟨a, b⟩, fun ⟨a, b⟩ => ⟨a, b⟩⟩
theorem ch102 (p : Pt) (m : Int) (hm : 0 ≤ m ∧ m ≤ 1000000000) : FnV Tryz.prog 102 [.agg p.cells, .ref [i64 m]] (.bool (!withinB m p)) := by
 refine fnV_of mixed tysOk Tryz.func102 rfl (ft := ft102) 2 (by decide +kernel) (by rfl) fun {σ} Y st => ?_
 conv=>whnf
 refine arith_to ((-m)) (by (try dsimp only); omega) (wrap_i64 (by (try dsimp only); omega)) ?_
 conv=>whnf
 refine CallA_view (fn51_2 (-m) m p.x p.y) rfl 1 rfl ?_
 conv=>whnf
 exact RetA_view 0 rfl ⟨⟨rfl, rfl⟩, rfl⟩
theorem ch63 (m : Int) (l : List Pt) (hm : 0 ≤ m ∧ m ≤ 1000000000) (hl : l.length < 4000000000000000000) : FnV Tryz.prog 63 [i64 m, ptsD l] (.bool (l.any fun p => !withinB m p)) := by
 refine fnV_of mixed tysOk Tryz.func63 rfl (ft := ft63) 2 (by decide +kernel) (by rfl) fun {σ} Y st => ?_
 conv=>whnf
 refine CallA_view (ds := [ptsD l, .clo 102 [.ref [i64 m]]]) (ch101 l 102 [.ref [i64 m]] (fun p => !withinB m p) hl fun p _ => ch102 p m hm) rfl 2 rfl ?_
 conv=>whnf
 exact RetA_view 0 rfl ⟨⟨rfl, rfl⟩, rfl⟩
structure Box where
 x : Span
 y : Span
 deriving DecidableEq
def Box.cells (b : Box) : List D := [i64 b.x.lo, i64 b.x.hi, i64 b.y.lo, i64 b.y.hi]
def Box.d (b : Box) : D := .agg b.cells
def boxE (m : Int) (b : Box) : Int :=
 if (inB b.x.lo (-m) m && inB b.x.hi (-m) m) && (inB b.y.lo (-m) m && inB b.y.hi (-m) m) then (if inB (b.x.hi - b.x.lo) 0 40 && inB (b.y.hi - b.y.lo) 0 40 then 0 else 2) else 7
theorem ch85 (b : Box) (m : Int) (hm : 0 ≤ m ∧ m ≤ 1000000000) : FnV Tryz.prog 85 [b.d, i64 m] (i64 (boxE m b)) := by
 refine fnV_of mixed tysOk Tryz.func85 rfl (ft := ft85) 2 (by decide +kernel) (by rfl) fun {σ} Y st => ?_
 conv=>whnf
 refine arith_to ((-m)) (by (try dsimp only); omega) (wrap_i64 (by (try dsimp only); omega)) ?_
 conv=>whnf
 refine CallA_view (fn51_4 (-m) m b.x.lo b.x.hi b.y.lo b.y.hi) rfl 1 rfl ?_
 conv=>whnf
 unfold boxE
 cases h1 : (inB b.x.lo (-m) m && inB b.x.hi (-m) m) && (inB b.y.lo (-m) m && inB b.y.hi (-m) m) with
 | false =>
  conv=>whnf
  exact RetA_view 0 rfl ⟨⟨rfl, rfl⟩, rfl⟩
 | true =>
  simp only [Bool.and_eq_true, inB_iff] at h1
  conv=>whnf
  refine arith_in (wrap_i64 (by (try dsimp only); omega)) ?_
  conv=>whnf
  refine arith_in (wrap_i64 (by (try dsimp only); omega)) ?_
  conv=>whnf
  refine CallA_view (fn51_2 0 40 (b.x.hi - b.x.lo) (b.y.hi - b.y.lo)) rfl 1 rfl ?_
  cases h2 : inB (b.x.hi - b.x.lo) 0 40 && inB (b.y.hi - b.y.lo) 0 40 with
  | false =>
   conv=>whnf
   exact RetA_view 0 rfl ⟨⟨rfl, rfl⟩, rfl⟩
  | true =>
   conv=>whnf
   exact RetA_view 0 rfl ⟨⟨rfl, rfl⟩, rfl⟩
end Go.PX
namespace Go.PX
open Go.Proofs
structure Paint where
 day : Int
 colour : Int
 deriving DecidableEq
def Paint.cells (p : Paint) : List D := [i64 p.day, i64 p.colour]
def paintsD (l : List Paint) : D := .vs (l.map Paint.cells)
structure Mark where
 name : ByteArray
 at' : Pt
 paints : List Paint
def Mark.cells (m : Mark) : List D := [.str m.name, i64 m.at'.x, i64 m.at'.y, paintsD m.paints]
def Mark.d (m : Mark) : D := .agg m.cells
def marksD (l : List Mark) : D := .vs (l.map Mark.cells)
structure Sand where
 name : ByteArray
 corners : List Pt
 moves : Box
def Sand.cells (s : Sand) : List D := [.str s.name, ptsD s.corners, i64 s.moves.x.lo, i64 s.moves.x.hi, i64 s.moves.y.lo, i64 s.moves.y.hi]
def Sand.d (s : Sand) : D := .agg s.cells
def sandsD (l : List Sand) : D := .vs (l.map Sand.cells)
structure Cht where
 marks : List Mark
 sands : List Sand
def Cht.cells (c : Cht) : List D := [marksD c.marks, sandsD c.sands]
def Cht.d (c : Cht) : D := .agg c.cells
def paintL : Int → List Paint → Int
 | _, [] => 0
 | last, p :: r => if inB p.day 0 40000 && inB p.colour 0 4 then (if p.day ≤ last then 2 else paintL p.day r) else 7
def paintE (l : List Paint) : Int := if inB l.length 1 4 then paintL (-1) l else 3
set_option maxHeartbeats 1000000 in
theorem ch64 (l : List Paint) : FnV Tryz.prog 64 [paintsD l] (i64 (paintE l)) := by
 refine fnV_of mixed tysOk Tryz.func64 rfl (ft := ft64) 1 (by decide +kernel) (by rfl) fun {σ} Y st => ?_
 conv=>whnf
 refine CallA_view (fn51_1 1 4 l.length) rfl 1 (by simp; rfl) ?_
 unfold paintE
 cases h : inB (l.length : Int) 1 4 with
 | false =>
  conv=>whnf
  exact RetA_view 0 rfl ⟨⟨rfl, rfl⟩, rfl⟩
 | true =>
  rw [inB_iff] at h
  conv=>whnf
  refine LoopA_i (T := tys) tysOk (by exact drawsB_spec mixed tysOk (by decide +kernel)) l (fun i (last : Int) => ⟨[(2, .d (i64 0)), (3, .d (i64 last)), (10, .d (paintsD l)), (11, .d (i64 l.length)), (12, .d (i64 i))], [], st⟩) (fun i r last => paintL (-1) l = paintL last r) (-1) (Wk.sub ⟨(by first | rfl | (simp only [List.length_map]; rfl) | simp [PX.get]), (by first | rfl | (simp only [List.length_map]; rfl) | simp [PX.get]), (by first | rfl | (simp only [List.length_map]; rfl) | simp [PX.get]), (by first | rfl | (simp only [List.length_map]; rfl) | simp [PX.get]), (by first | rfl | (simp only [List.length_map]; rfl) | simp [PX.get]), trivial⟩ trivial) rfl ?_ ?_
  ·rintro i p r last hp hi hr he
   rw [paintL] at he
   conv=>whnf
   refine brk_i (fun _ => ?_) (fun h => absurd hi (by simpa using h))
   conv=>whnf
   refine elemK_nat hp ?_
   conv=>whnf
   refine CallA_view (fn51_1 0 40000 p.day) rfl 1 rfl ?_
   cases h1 : inB p.day 0 40000 with
   | false =>
    rw [h1, Bool.false_and, if_neg (by simp)] at he
    rw [he]
    conv=>whnf
    exact RetA_view 0 rfl ⟨⟨rfl, rfl⟩, rfl⟩
   | true =>
    conv=>whnf
    refine CallA_view (fn51_1 0 4 p.colour) rfl 1 rfl ?_
    cases h2 : inB p.colour 0 4 with
    | false =>
     rw [h1, h2, Bool.and_false, if_neg (by simp)] at he
     rw [he]
     conv=>whnf
     exact RetA_view 0 rfl ⟨⟨rfl, rfl⟩, rfl⟩
    | true =>
     rw [h1, h2, Bool.and_true, if_pos rfl] at he
     conv=>whnf
     refine brk_i (fun h3 => ?_) (fun h3 => ?_)
     ·rw [if_pos (of_decide_eq_true h3)] at he
      rw [he]
      conv=>whnf
      exact RetA_view 0 rfl ⟨⟨rfl, rfl⟩, rfl⟩
     ·rw [if_neg (of_decide_eq_false h3)] at he
      conv=>whnf
      refine arith_in (wrap_i64 (by (try dsimp only); omega)) ?_
      conv=>whnf
      exact ⟨p.day, he, (Wk.sub ⟨(by first | rfl | (simp only [List.length_map]; rfl) | simp [PX.get]), (by first | rfl | (simp only [List.length_map]; rfl) | simp [PX.get]), (by first | rfl | (simp only [List.length_map]; rfl) | simp [PX.get]), (by first | rfl | (simp only [List.length_map]; rfl) | simp [PX.get]), (by first | rfl | (simp only [List.length_map]; rfl) | simp [PX.get]), trivial⟩ trivial)⟩
  ·rintro last he
   conv=>whnf
   refine brk_i (fun h => absurd h (by simp)) (fun _ => ?_)
   conv=>whnf
   rw [he]
   exact RetA_view 0 rfl ⟨⟨rfl, rfl⟩, rfl⟩
def quarterL : List Pt := [⟨0, 1000⟩, ⟨195, 981⟩, ⟨383, 924⟩, ⟨556, 831⟩, ⟨707, 707⟩, ⟨831, 556⟩, ⟨924, 383⟩, ⟨981, 195⟩]
def quarterC : List D := [i64 0, i64 1000, i64 195, i64 981, i64 383, i64 924, i64 556, i64 831, i64 707, i64 707, i64 831, i64 556, i64 924, i64 383, i64 981, i64 195]
theorem ch59 : FnV Tryz.prog 59 [] (.agg quarterC) := by
 refine fnV_of mixed tysOk Tryz.func59 rfl (ft := ft59) 0 (by decide +kernel) (by rfl) fun {σ} Y st => ?_
 conv=>whnf
 exact RetA_view 0 rfl ⟨⟨rfl, rfl⟩, rfl⟩
def rotF (v : Pt) : Pt := ⟨v.y, -v.x⟩
def rotN : Nat → Pt → Pt
 | 0, v => v
 | n + 1, v => rotN n (rotF v)
def vecF (p : Int) : Pt := rotN (p / 8).toNat ((quarterL[(p % 8).toNat]?).getD ⟨0, 0⟩)
def vecE (p : Int) : Int := if inB p 0 31 then 0 else 7
def vecV (p : Int) : Pt := if inB p 0 31 then vecF p else ⟨0, 0⟩
theorem getQ {k : Nat} (hk : k < 8) {t : TyI} (ht : t.isAgg = true) (hs : t.size = 2) {K : V → Prop} (h : K (.d ((quarterL[k]?).getD ⟨0, 0⟩).d)) : Cells.getK t (.dd quarterC) (k * 2) K := by
 unfold Cells.getK
 rw [ht, hs]
 have e : ∀ k, k < 8 → Nat.ble (k * 2 + 2) (Cells.dd quarterC).len = true ∧ (Cells.dd quarterC).sub (k * 2) 2 = .d ((quarterL[k]?).getD ⟨0, 0⟩).d := by
  intro k hk
  match k, hk with
  | 0, _ => exact ⟨rfl, rfl⟩
  | 1, _ => exact ⟨rfl, rfl⟩
  | 2, _ => exact ⟨rfl, rfl⟩
  | 3, _ => exact ⟨rfl, rfl⟩
  | 4, _ => exact ⟨rfl, rfl⟩
  | 5, _ => exact ⟨rfl, rfl⟩
  | 6, _ => exact ⟨rfl, rfl⟩
  | 7, _ => exact ⟨rfl, rfl⟩
 obtain ⟨e1, e2⟩ := e k hk
 show chk _ _
 rw [e2]
 exact chk_i e1 h
theorem quarter_in {k : Nat} (hk : k < 8) : Pin 1000 ((quarterL[k]?).getD ⟨0, 0⟩) := by
 match k, hk with
 | 0, _ => exact ⟨by decide, by decide⟩
 | 1, _ => exact ⟨by decide, by decide⟩
 | 2, _ => exact ⟨by decide, by decide⟩
 | 3, _ => exact ⟨by decide, by decide⟩
 | 4, _ => exact ⟨by decide, by decide⟩
 | 5, _ => exact ⟨by decide, by decide⟩
 | 6, _ => exact ⟨by decide, by decide⟩
 | 7, _ => exact ⟨by decide, by decide⟩
set_option maxHeartbeats 1000000 in
theorem ch16 (p : Int) : FnV Tryz.prog 16 [i64 p] (.tup [(vecV p).d, i64 (vecE p)]) := by
 refine fnV_of mixed tysOk Tryz.func16 rfl (ft := ft16) 1 (by decide +kernel) (by rfl) fun {σ} Y st => ?_
 conv=>whnf
 refine CallA_view (fn51_1 0 31 p) rfl 1 rfl ?_
 unfold vecV vecE
 cases h : inB p 0 31 with
 | false =>
  conv=>whnf
  exact RetA_view 0 rfl ⟨⟨rfl, rfl⟩, rfl⟩
 | true =>
  rw [inB_iff] at h
  conv=>whnf
  refine CallA_v (ch59) rfl rfl ?_
  conv=>whnf
  obtain ⟨k, hk, hk8⟩ : ∃ k : Nat, p.tmod 8 = k ∧ k < 8 := ⟨(p.tmod 8).toNat, by
   rw [Int.tmod_eq_emod_of_nonneg h.1]; omega, by rw [Int.tmod_eq_emod_of_nonneg h.1]; omega⟩
  obtain ⟨m, hm, hm4⟩ : ∃ m : Nat, p.tdiv 8 = m ∧ m < 4 := ⟨(p.tdiv 8).toNat, by
   rw [Int.tdiv_eq_ediv_of_nonneg h.1]; omega, by rw [Int.tdiv_eq_ediv_of_nonneg h.1]; omega⟩
  have hv : vecF p = rotN m ((quarterL[k]?).getD ⟨0, 0⟩) := by
   rw [Int.tmod_eq_emod_of_nonneg h.1] at hk
   rw [Int.tdiv_eq_ediv_of_nonneg h.1] at hm
   unfold vecF
   rw [hk, hm, Int.toNat_natCast, Int.toNat_natCast]
  have hq := quarter_in hk8
  rw [hk]
  refine brk_i (fun _ => ?_) (fun h2 => absurd h2 (by simp; omega))
  refine getQ hk8 rfl rfl ?_
  generalize (quarterL[k]?).getD ⟨0, 0⟩ = q at hv hq ⊢
  conv=>whnf
  refine arith_to (m : Int) hm (wrap_i64 (by omega)) ?_
  conv=>whnf
  refine LoopA_i (T := tys) tysOk (by exact drawsB_spec mixed tysOk (by decide +kernel)) (List.range m) (fun i (v : Pt) => ⟨[(2, .ptr 2 0), (3, .d (i64 0)), (4, .ptr 4 0), (14, .d (i64 m)), (15, .d (i64 i))], [(2, .box (.dd [i64 0, i64 0])), (4, .box (.dd v.cells))], st⟩)
   (fun i r v => vecF p = rotN r.length v ∧ Pin 1000 v) q (Wk.sub ⟨(by first | rfl | (simp only [List.length_map]; rfl) | simp [PX.get]), (by first | rfl | (simp only [List.length_map]; rfl) | simp [PX.get]), (by first | rfl | (simp only [List.length_map]; rfl) | simp [PX.get]), (by first | rfl | (simp only [List.length_map]; rfl) | simp [PX.get]), (by first | rfl | (simp only [List.length_map]; rfl) | simp [PX.get]), trivial⟩ ⟨(by first | rfl | (simp only [List.length_map]; rfl) | simp [PX.get]), (by first | rfl | (simp only [List.length_map]; rfl) | simp [PX.get]), trivial⟩) ⟨by rw [hv]; simp, hq⟩ ?_ ?_
  ·rintro i y r v hy hi hr ⟨he, hvp⟩
   have hx := hvp.x
   have hy2 := hvp.y
   have him : i < m := by simpa using hi
   conv=>whnf
   refine brk_i (fun _ => ?_) (fun h => absurd him (by have := of_decide_eq_false h; omega))
   conv=>whnf
   refine arith_to ((-v.x)) (by (try dsimp only); omega) (wrap_i64 (by (try dsimp only); omega)) ?_
   conv=>whnf
   refine arith_in (wrap_i64 (by (try dsimp only); omega)) ?_
   conv=>whnf
   exact ⟨rotF v, ⟨by rw [he]; rfl, ⟨hy2, by show -1000 ≤ -v.x ∧ -v.x ≤ 1000; omega⟩⟩, (Wk.sub ⟨(by first | rfl | (simp only [List.length_map]; rfl) | simp [PX.get]), (by first | rfl | (simp only [List.length_map]; rfl) | simp [PX.get]), (by first | rfl | (simp only [List.length_map]; rfl) | simp [PX.get]), (by first | rfl | (simp only [List.length_map]; rfl) | simp [PX.get]), (by first | rfl | (simp only [List.length_map]; rfl) | simp [PX.get]), trivial⟩ ⟨(by first | rfl | (simp only [List.length_map]; rfl) | simp [PX.get]), (by first | rfl | (simp only [List.length_map]; rfl) | simp [PX.get]), trivial⟩)⟩
  ·rintro v ⟨he, _⟩
   have he : vecF p = v := he
   rw [he]
   conv=>whnf
   refine brk_i (fun h => absurd h (by simp)) (fun _ => ?_)
   conv=>whnf
   exact RetA_view 0 rfl ⟨⟨rfl, rfl⟩, rfl⟩
end Go.PX
namespace Go.PX
open Go.Proofs Go.RowKit Go.ChangeShapes
theorem c3 : Tryz.prog.cellsOf 3 = 1 := by kernel_rfl
theorem c9 : Tryz.prog.cellsOf 9 = 1 := by kernel_rfl
theorem c22 : Tryz.prog.cellsOf 22 = 1 := by kernel_rfl
theorem c23 : Tryz.prog.cellsOf 23 = 1 := by kernel_rfl
theorem c25 : Tryz.prog.cellsOf 25 = 2 := by kernel_rfl
theorem c27 : Tryz.prog.cellsOf 27 = 2 := by kernel_rfl
theorem c46 : Tryz.prog.cellsOf 46 = 2 := by kernel_rfl
theorem c48 : Tryz.prog.cellsOf 48 = 4 := by kernel_rfl
theorem c68 : Tryz.prog.cellsOf 68 = 1 := by kernel_rfl
theorem c70 : Tryz.prog.cellsOf 70 = 6 := by kernel_rfl
theorem c93 : Tryz.prog.cellsOf 93 = 1 := by kernel_rfl
theorem c95 : Tryz.prog.cellsOf 95 = 4 := by kernel_rfl
theorem c103 : Tryz.prog.cellsOf 103 = 2 := by kernel_rfl
section
variable (W : World)
theorem rdInt : Rd Tryz.prog W 3 fun ds => ∃ n, ds = [i64 n] := Rd.int Tryz.underlying3
theorem rdStr : Rd Tryz.prog W 9 fun ds => ∃ s, ds = [.str s] := Rd.str Tryz.underlying9
theorem rdPt : Rd Tryz.prog W 27 fun ds => ∃ p : Pt, ds = p.cells :=
 (Rd.struct Tryz.underlying27 c27 (.cons rfl c3 (rdInt W) (.cons rfl c3 (rdInt W) (.nil _)))).mono fun ds h => by
  obtain ⟨_, _, rfl, ⟨a, rfl⟩, _, _, rfl, ⟨b, rfl⟩, rfl⟩ := h
  exact ⟨⟨a, b⟩, rfl⟩
theorem rdPaint : Rd Tryz.prog W 103 fun ds => ∃ p : Paint, ds = p.cells :=
 (Rd.struct Tryz.underlying103 c103 (.cons rfl c3 (rdInt W) (.cons rfl c3 (rdInt W) (.nil _)))).mono fun ds h => by
  obtain ⟨_, _, rfl, ⟨a, rfl⟩, _, _, rfl, ⟨b, rfl⟩, rfl⟩ := h
  exact ⟨⟨a, b⟩, rfl⟩
theorem rdSpan : Rd Tryz.prog W 46 fun ds => ∃ a b, ds = [i64 a, i64 b] :=
 (Rd.struct Tryz.underlying46 c46 (.cons rfl c3 (rdInt W) (.cons rfl c3 (rdInt W) (.nil _)))).mono fun ds h => by
  obtain ⟨_, _, rfl, ⟨a, rfl⟩, _, _, rfl, ⟨b, rfl⟩, rfl⟩ := h
  exact ⟨a, b, rfl⟩
theorem rdBox : Rd Tryz.prog W 48 fun ds => ∃ b : Box, ds = b.cells :=
 (Rd.struct Tryz.underlying48 c48 (.cons rfl c46 (rdSpan W) (.cons rfl c46 (rdSpan W) (.nil _)))).mono fun ds h => by
  obtain ⟨_, _, rfl, ⟨a, b, rfl⟩, _, _, rfl, ⟨c, d, rfl⟩, rfl⟩ := h
  exact ⟨⟨⟨a, b⟩, ⟨c, d⟩⟩, rfl⟩
theorem rdPaints : Rd Tryz.prog W 93 fun ds => ∃ l : List Paint, ds = [paintsD l] :=
 (Rd.slice Tryz.underlying93 c103 (by omega) (rdPaint W)).mono fun ds h => by
  obtain ⟨es, rfl, he⟩ := h
  obtain ⟨l, rfl⟩ := list_of (f := Paint.cells) (fun _ h => h) he
  exact ⟨l, rfl⟩
theorem rdPts : Rd Tryz.prog W 68 fun ds => ∃ l : List Pt, ds = [ptsD l] :=
 (Rd.slice Tryz.underlying68 c27 (by omega) (rdPt W)).mono fun ds h => by
  obtain ⟨es, rfl, he⟩ := h
  obtain ⟨l, rfl⟩ := list_of (f := Pt.cells) (fun _ h => h) he
  exact ⟨l, rfl⟩
theorem rdMark : Rd Tryz.prog W 95 fun ds => ∃ m : Mark, ds = m.cells :=
 (Rd.struct Tryz.underlying95 c95 (.cons rfl c9 (rdStr W) (.cons rfl c27 (rdPt W) (.cons rfl c93 (rdPaints W) (.nil _))))).mono fun ds h => by
  obtain ⟨_, _, rfl, ⟨a, rfl⟩, _, _, rfl, ⟨b, rfl⟩, _, _, rfl, ⟨c, rfl⟩, rfl⟩ := h
  exact ⟨⟨a, b, c⟩, rfl⟩
theorem rdSand : Rd Tryz.prog W 70 fun ds => ∃ m : Sand, ds = m.cells :=
 (Rd.struct Tryz.underlying70 c70 (.cons rfl c9 (rdStr W) (.cons rfl c68 (rdPts W) (.cons rfl c48 (rdBox W) (.nil _))))).mono fun ds h => by
  obtain ⟨_, _, rfl, ⟨a, rfl⟩, _, _, rfl, ⟨b, rfl⟩, _, _, rfl, ⟨c, rfl⟩, rfl⟩ := h
  exact ⟨⟨a, b, c⟩, rfl⟩
theorem rdMarks : Rd Tryz.prog W 22 fun ds => ∃ l : List Mark, ds = [marksD l] :=
 (Rd.slice Tryz.underlying22 c95 (by omega) (rdMark W)).mono fun ds h => by
  obtain ⟨es, rfl, he⟩ := h
  obtain ⟨l, rfl⟩ := list_of (f := Mark.cells) (fun _ h => h) he
  exact ⟨l, rfl⟩
theorem rdSands : Rd Tryz.prog W 23 fun ds => ∃ l : List Sand, ds = [sandsD l] :=
 (Rd.slice Tryz.underlying23 c70 (by omega) (rdSand W)).mono fun ds h => by
  obtain ⟨es, rfl, he⟩ := h
  obtain ⟨l, rfl⟩ := list_of (f := Sand.cells) (fun _ h => h) he
  exact ⟨l, rfl⟩
theorem rdCht : Rd Tryz.prog W 25 fun ds => ∃ c : Cht, ds = c.cells :=
 (Rd.struct Tryz.underlying25 c25 (.cons rfl c22 (rdMarks W) (.cons rfl c23 (rdSands W) (.nil _)))).mono fun ds h => by
  obtain ⟨_, _, rfl, ⟨a, rfl⟩, _, _, rfl, ⟨b, rfl⟩, rfl⟩ := h
  exact ⟨⟨a, b⟩, rfl⟩
end
end Go.PX
namespace Go.PX
open Go.Proofs
def sideD (x : Pt × Pt) : D := .agg (x.1.cells ++ x.2.cells)
def sideV (x : Pt × Pt) : List V × Heap := ([.d (sideD x)], [])
def sidesL : Pt → List Pt → List (Pt × Pt)
 | _, [] => []
 | a, p :: r => (a, p.sub a) :: sidesL p r
def lastP (l : List Pt) : Pt := (l[l.length - 1]?).getD ⟨0, 0⟩
def sidesF (s : Sand) : List (Pt × Pt) := sidesL (lastP s.corners) s.corners
theorem ch103 (s : Sand) : FnV Tryz.prog 103 [s.d] (.clo 124 [.ref s.cells]) := by
 refine fnV_of mixed tysOk Tryz.func103 rfl (ft := ft103) 1 (by decide +kernel) (by rfl) fun {σ} Y st => ?_
 conv=>whnf
 exact RetA_view 1 rfl ⟨⟨rfl, rfl⟩, rfl⟩
def ft124b : FT := ⟨ft124.ks, cut ft124.tb 4⟩
def rt124 : RT := match get ft124.tb 4 with
 | some r => r
 | none => ⟨[], []⟩
theorem yields124 (s : Sand) (hl : 0 < s.corners.length) (hlm : s.corners.length < 1000000) (hp : ∀ p ∈ s.corners, Pin 1000000000000 p) : Yields Tryz.prog 124 [.ref s.cells] ((sidesF s).map sideV) := by
 intro γ Y g0 Q hit
 refine fnC_of mixed tysOk Tryz.func124 rfl (ft := ft124b) (args := [.yld, .d (.ref s.cells)]) (show fnB ft124b Tryz.f124 2 = true from by decide +kernel) ?_
 replace hit := hit.np
 generalize Y.np = Y at hit ⊢
 obtain ⟨q, hq⟩ : ∃ q, s.corners[s.corners.length - 1]? = some q := ⟨s.corners[s.corners.length - 1]'(by omega), by simp⟩
 conv=>whnf
 refine arith_to ((s.corners.length - 1 : Nat) : Int) (by simp; omega) (wrap_i64 (by omega)) ?_
 conv=>whnf
 refine elemK_nat hq ?_
 conv=>whnf
 have hsf : sidesF s = sidesL q s.corners := by unfold sidesF lastP; rw [hq]; rfl
 rw [hsf] at hit
 have hq1 : Pin 1000000000000 q := hp q (List.mem_of_getElem? hq)
 refine LoopA_p (T := tys) tysOk (by exact drawsB_spec mixed tysOk (by decide +kernel)) (α := Nat × Pt × γ)
  (fun x => ⟨[(0, .yld), (3, .ptr 3 0), (18, .d (ptsD s.corners)), (19, .d (i64 s.corners.length)), (20, .d (i64 x.1))], [(3, .box (.dd x.2.1.cells))], x.2.2⟩)
  (fun x => x.1 ≤ s.corners.length ∧ Pin 1000000000000 x.2.1 ∧ iterate Y ((sidesL x.2.1 (s.corners.drop x.1)).map sideV) x.2.2 Q) (fun x => s.corners.length - x.1) (0, q, g0) ?wk ⟨Nat.zero_le _, hq1, by simpa using hit⟩ ?_
 case wk => exact (Wk.sub ⟨(by first | rfl | (simp only [List.length_map]; rfl) | simp [PX.get]), (by first | rfl | (simp only [List.length_map]; rfl) | simp [PX.get]), (by first | rfl | (simp only [List.length_map]; rfl) | simp [PX.get]), (by first | rfl | (simp only [List.length_map]; rfl) | simp [PX.get]), (by first | rfl | (simp only [List.length_map]; rfl) | simp [PX.get]), trivial⟩ ⟨(by first | rfl | (simp only [List.length_map]; rfl) | simp [PX.get]), trivial⟩)
 clear hit g0
 rintro ⟨i, a, g0⟩ ⟨hi, ha, hit⟩
 simp only at hi ha hit
 conv=>whnf
 refine brk_i (fun h1 => ?_) (fun h1 => ?_)
 ·have h1 : i < s.corners.length := by have := of_decide_eq_true h1; simp at this; omega
  obtain ⟨p, hpi⟩ : ∃ p, s.corners[i]? = some p := ⟨s.corners[i], by simp⟩
  have hpp : Pin 1000000000000 p := hp p (List.mem_of_getElem? hpi)
  have hdr : s.corners.drop i = p :: s.corners.drop (i + 1) := by
   rw [List.drop_eq_getElem_cons h1]
   rw [List.getElem?_eq_getElem h1] at hpi
   rw [Option.some.inj hpi]
  rw [hdr, sidesL, List.map_cons] at hit
  conv=>whnf
  refine elemK_nat hpi ?_
  conv=>whnf
  refine RegionA_seq mixed tysOk rt124 6 (by decide +kernel) (by decide +kernel) ?_
  conv=>whnf
  refine DrawCall_view (ds := [a.d, p.d]) (ch81 a p ha hpp) rfl 1 rfl ?_
  conv=>whnf
  refine YldA_v (ds := [sideD (a, p.sub a)]) hit rfl rfl (fun s' hit' => ?_) (fun s' hq' => ?_)
  ·conv=>whnf
   refine arith_in (wrap_i64 (by (try dsimp only); omega)) ?_
   conv=>whnf
   exact ⟨(i + 1, p, s'), by simp only; omega, ⟨by simp only; omega, hpp, hit'⟩, (Wk.sub ⟨(by first | rfl | (simp only [List.length_map]; rfl) | simp [PX.get]), (by first | rfl | (simp only [List.length_map]; rfl) | simp [PX.get]), (by first | rfl | (simp only [List.length_map]; rfl) | simp [PX.get]), (by first | rfl | (simp only [List.length_map]; rfl) | simp [PX.get]), (by first | rfl | (simp only [List.length_map]; rfl) | simp [PX.get]), trivial⟩ ⟨(by first | rfl | (simp only [List.length_map]; rfl) | simp [PX.get]), trivial⟩)⟩
  ·conv=>whnf
   exact RetA_view 0 rfl ⟨rfl, hq'⟩
 ·have h1 : ¬ i < s.corners.length := by have := of_decide_eq_false h1; simp at this; omega
  rw [List.drop_of_length_le (by omega)] at hit
  conv=>whnf
  exact RetA_view 0 rfl ⟨rfl, hit⟩
end Go.PX
namespace Go.PX
open Go.Proofs
def rightL (x : Pt × Pt) : List Pt → Int → Int
 | [], n => n
 | p :: r, n => rightL x r (if leftF x.2 (p.sub x.1) ≤ 0 then n + 1 else n)
def sideOk (s : Sand) (x : Pt × Pt) : Bool := decide (rightL x s.corners 0 = 2) && !(decide (x.2.x = 0) && decide (x.2.y = 0))
def sandE (s : Sand) : Int :=
 if inB s.corners.length 3 8 then (if (s.corners.any fun p => !withinB 10000 p) then 7 else if boxE 500 s.moves = 0 then (if (sidesF s).all (sideOk s) then 0 else 9) else boxE 500 s.moves) else 3
theorem mem_sidesL {m : Int} : ∀ {l : List Pt} {a : Pt}, Pin m a → (∀ p ∈ l, Pin m p) → ∀ x ∈ sidesL a l, Pin m x.1 ∧ Pin (m + m) x.2
 | [], _, _, _, x, hx => by cases hx
 | p :: r, a, ha, hl, x, hx => by
  rw [sidesL] at hx
  have hp := hl p (by simp)
  rcases List.mem_cons.1 hx with rfl | hx
  ·exact ⟨ha, hp.sub ha⟩
  ·exact mem_sidesL hp (fun q hq => hl q (by simp [hq])) x hx
theorem pin_last {m : Int} {l : List Pt} (h0 : 0 < l.length) (hl : ∀ p ∈ l, Pin m p) : Pin m (lastP l) := by
 unfold lastP
 have h1 : l.length - 1 < l.length := by omega
 rw [List.getElem?_eq_getElem h1]
 exact hl _ (List.getElem_mem h1)
theorem mem_sidesF {m : Int} {s : Sand} (h0 : 0 < s.corners.length) (hl : ∀ p ∈ s.corners, Pin m p) : ∀ x ∈ sidesF s, Pin m x.1 ∧ Pin (m + m) x.2 := mem_sidesL (pin_last h0 hl) hl
set_option maxHeartbeats 1000000 in
theorem ch65 (s : Sand) : FnV Tryz.prog 65 [.agg s.cells] (i64 (sandE s)) := by
 refine fnV_of mixed tysOk Tryz.func65 rfl (ft := ft65) 1 (by decide +kernel) (by rfl) fun {σ} Y st => ?_
 conv=>whnf
 refine CallA_view (fn51_1 3 8 s.corners.length) rfl 1 (by simp; rfl) ?_
 cases h1 : inB (s.corners.length : Int) 3 8 with
 | false =>
  have he : sandE s = 3 := by unfold sandE; rw [h1]; rfl
  rw [he]
  conv=>whnf
  exact RetA_view 0 rfl ⟨⟨rfl, rfl⟩, rfl⟩
 | true =>
  have h1b := h1
  rw [inB_iff] at h1
  conv=>whnf
  refine CallA_v (ch63 10000 s.corners (by omega) (by omega)) rfl rfl ?_
  conv=>whnf
  cases h2 : s.corners.any fun p => !withinB 10000 p with
  | true =>
   have he : sandE s = 7 := by unfold sandE; rw [h1b, h2]; rfl
   rw [he]
   conv=>whnf
   exact RetA_view 0 rfl ⟨⟨rfl, rfl⟩, rfl⟩
  | false =>
   have hp : ∀ p ∈ s.corners, Pin 10000 p := by
    intro p hp
    have := List.any_eq_false.1 h2 p hp
    exact within_iff.1 (by simpa using this)
   conv=>whnf
   refine CallA_v (ch85 s.moves 500 (by omega)) rfl rfl ?_
   conv=>whnf
   refine brk_i (fun h3 => ?_) (fun h3 => ?_)
   ·have h3 : ¬ boxE 500 s.moves = 0 := by simpa using h3
    have he : sandE s = boxE 500 s.moves := by unfold sandE; rw [h1b, h2, if_pos rfl, if_neg (by simp), if_neg h3]
    rw [he]
    conv=>whnf
    exact RetA_view 0 rfl ⟨⟨rfl, rfl⟩, rfl⟩
   ·have h3 : boxE 500 s.moves = 0 := by simpa using h3
    have he : sandE s = if (sidesF s).all (sideOk s) then 0 else 9 := by unfold sandE; rw [h1b, h2, if_pos rfl, if_neg (by simp), if_pos h3]
    rw [he]
    conv=>whnf
    refine CallA_v (ch103 s) rfl rfl ?_
    conv=>whnf
    refine RangeA_list tysOk (by exact drawsB_spec mixed tysOk (by decide +kernel)) (by exact drawsB_spec mixed tysOk (by decide +kernel)) rfl 1500000 1600000 [1, 2, 13] (yields124 s (by omega) (by omega) (fun p h => (hp p h).mono (by omega)))
     (fun (_ : Unit) => ([(1500000, .box (.dd s.cells)), (1500001, .box (.dd [i64 0])), (1500002, .arr 1 (.dd [[i64 (s.corners.map Pt.cells).length]]))], st))
     (fun rest _ => (sidesF s).all (sideOk s) = rest.all (sideOk s) ∧ ∀ x ∈ rest, Pin 10000 x.1 ∧ Pin 20000 x.2) () rfl rfl rfl ⟨rfl, mem_sidesF (by omega) hp⟩ ?_ ?_
    ·rintro ⟨a, b⟩ rest _ ⟨hk, hl⟩ Q hQ1 hQ2
     refine ⟨⟨rfl, rfl⟩, ?_⟩
     obtain ⟨ha, hb⟩ := hl (a, b) (by simp)
     simp only at ha hb
     rw [List.all_cons] at hk
     conv=>whnf
     refine LoopA_i (T := tys) tysOk (by exact drawsB_spec mixed tysOk (by decide +kernel)) s.corners (fun i (n : Int) => ⟨[(1, .ptr 1500000 0), (2, .ptr 1500001 0), (4, .ptr 4 0), (5, .d (i64 n)), (32, .d (ptsD s.corners)), (33, .d (i64 (s.corners.map Pt.cells).length)), (34, .d (i64 i))], [(1500000, .box (.dd s.cells)), (1500001, .box (.dd [i64 0])), (1500002, .arr 1 (.dd [[i64 (s.corners.map Pt.cells).length]])), (4, .box (.dd (a.cells ++ b.cells)))], st⟩) (fun i r n => 0 ≤ n ∧ n ≤ i ∧ rightL (a, b) s.corners 0 = rightL (a, b) r n) 0 (Wk.sub ⟨(by first | rfl | (simp only [List.length_map]; rfl) | simp [PX.get]), (by first | rfl | (simp only [List.length_map]; rfl) | simp [PX.get]), (by first | rfl | (simp only [List.length_map]; rfl) | simp [PX.get]), (by first | rfl | (simp only [List.length_map]; rfl) | simp [PX.get]), (by first | rfl | (simp only [List.length_map]; rfl) | simp [PX.get]), (by first | rfl | (simp only [List.length_map]; rfl) | simp [PX.get]), (by first | rfl | (simp only [List.length_map]; rfl) | simp [PX.get]), trivial⟩ ⟨(by first | rfl | (simp only [List.length_map]; rfl) | simp [PX.get]), (by first | rfl | (simp only [List.length_map]; rfl) | simp [PX.get]), (by first | rfl | (simp only [List.length_map]; rfl) | simp [PX.get]), (by first | rfl | (simp only [List.length_map]; rfl) | simp [PX.get]), trivial⟩) ⟨Int.le_refl _, by simp, rfl⟩ ?_ ?_
     ·rintro i p r n hpi hi hr ⟨hn1, hn2, hn3⟩
      rw [rightL] at hn3
      have hpp := hp p (List.mem_of_getElem? hpi)
      conv=>whnf
      refine brk_i (fun _ => ?_) (fun h => absurd hi (by simpa using h))
      conv=>whnf
      refine elemK_nat hpi ?_
      conv=>whnf
      refine DrawCall_view (ds := [a.d, p.d]) (ch81 a p (ha.mono (by omega)) (hpp.mono (by omega))) rfl 1 rfl ?_
      conv=>whnf
      refine DrawCall_view (ds := [b.d, (p.sub a).d]) (ch104 b (p.sub a) (hb.mono (by omega)) ((hpp.sub ha).mono (by omega))) rfl 1 rfl ?_
      conv=>whnf
      refine brk_i (fun h4 => ?_) (fun h4 => ?_)
      ·rw [if_pos (of_decide_eq_true h4)] at hn3
       conv=>whnf
       refine arith_in (wrap_i64 (by (try dsimp only); omega)) ?_
       conv=>whnf
       conv=>whnf
       refine arith_in (wrap_i64 (by (try dsimp only); omega)) ?_
       conv=>whnf
       exact ⟨n + 1, ⟨by omega, by omega, hn3⟩, (Wk.sub ⟨(by first | rfl | (simp only [List.length_map]; rfl) | simp [PX.get]), (by first | rfl | (simp only [List.length_map]; rfl) | simp [PX.get]), (by first | rfl | (simp only [List.length_map]; rfl) | simp [PX.get]), (by first | rfl | (simp only [List.length_map]; rfl) | simp [PX.get]), (by first | rfl | (simp only [List.length_map]; rfl) | simp [PX.get]), (by first | rfl | (simp only [List.length_map]; rfl) | simp [PX.get]), (by first | rfl | (simp only [List.length_map]; rfl) | simp [PX.get]), trivial⟩ ⟨(by first | rfl | (simp only [List.length_map]; rfl) | simp [PX.get]), (by first | rfl | (simp only [List.length_map]; rfl) | simp [PX.get]), (by first | rfl | (simp only [List.length_map]; rfl) | simp [PX.get]), (by first | rfl | (simp only [List.length_map]; rfl) | simp [PX.get]), trivial⟩)⟩
      ·rw [if_neg (of_decide_eq_false h4)] at hn3
       conv=>whnf
       refine arith_in (wrap_i64 (by (try dsimp only); omega)) ?_
       conv=>whnf
       exact ⟨n, ⟨by omega, by omega, hn3⟩, (Wk.sub ⟨(by first | rfl | (simp only [List.length_map]; rfl) | simp [PX.get]), (by first | rfl | (simp only [List.length_map]; rfl) | simp [PX.get]), (by first | rfl | (simp only [List.length_map]; rfl) | simp [PX.get]), (by first | rfl | (simp only [List.length_map]; rfl) | simp [PX.get]), (by first | rfl | (simp only [List.length_map]; rfl) | simp [PX.get]), (by first | rfl | (simp only [List.length_map]; rfl) | simp [PX.get]), (by first | rfl | (simp only [List.length_map]; rfl) | simp [PX.get]), trivial⟩ ⟨(by first | rfl | (simp only [List.length_map]; rfl) | simp [PX.get]), (by first | rfl | (simp only [List.length_map]; rfl) | simp [PX.get]), (by first | rfl | (simp only [List.length_map]; rfl) | simp [PX.get]), (by first | rfl | (simp only [List.length_map]; rfl) | simp [PX.get]), trivial⟩)⟩
     ·rintro n ⟨hn1, hn2, hn3⟩
      conv=>whnf
      refine brk_i (fun h => absurd h (by simp)) (fun _ => ?_)
      conv=>whnf
      have hbad : sideOk s (a, b) = false → (sidesF s).all (sideOk s) = false := fun h => by rw [hk, h, Bool.false_and]
      have hso : sideOk s (a, b) = (decide (n = 2) && !(decide (b.x = 0) && decide (b.y = 0))) := by
       unfold sideOk
       rw [hn3, rightL]
      cases h5 : decide (n = 2) with
      | false =>
       have h6 := hbad (by rw [hso, h5]; rfl)
       conv=>whnf
       refine ⟨[(1500000, .box (.dd s.cells)), (1500001, .box (.dd [i64 9])), (1500002, .arr 1 (.dd [[i64 (s.corners.map Pt.cells).length]]))], st, (Wk.sub trivial ⟨(by first | rfl | (simp only [List.length_map]; rfl) | simp [PX.get]), (by first | rfl | (simp only [List.length_map]; rfl) | simp [PX.get]), (by first | rfl | (simp only [List.length_map]; rfl) | simp [PX.get]), trivial⟩), rfl, hQ2 _ _ _ ?_⟩
       conv=>whnf
       rw [h6]
       exact RetA_view 0 rfl ⟨⟨rfl, rfl⟩, rfl⟩
      | true =>
       conv=>whnf
       refine brk_i (fun h6 => ?_) (fun h6 => ?_)
       ·have h6 := hbad (by rw [hso, h5]; rw [Bool.and_true] at h6; rw [h6]; rfl)
        conv=>whnf
        refine ⟨[(1500000, .box (.dd s.cells)), (1500001, .box (.dd [i64 9])), (1500002, .arr 1 (.dd [[i64 (s.corners.map Pt.cells).length]]))], st, (Wk.sub trivial ⟨(by first | rfl | (simp only [List.length_map]; rfl) | simp [PX.get]), (by first | rfl | (simp only [List.length_map]; rfl) | simp [PX.get]), (by first | rfl | (simp only [List.length_map]; rfl) | simp [PX.get]), trivial⟩), rfl, hQ2 _ _ _ ?_⟩
        conv=>whnf
        rw [h6]
        exact RetA_view 0 rfl ⟨⟨rfl, rfl⟩, rfl⟩
       ·conv=>whnf
        refine ⟨(), (Wk.sub trivial ⟨(by first | rfl | (simp only [List.length_map]; rfl) | simp [PX.get]), (by first | rfl | (simp only [List.length_map]; rfl) | simp [PX.get]), (by first | rfl | (simp only [List.length_map]; rfl) | simp [PX.get]), trivial⟩), rfl, hQ1 _ ⟨?_, fun x hx => hl x (by simp [hx])⟩⟩
        rw [hk, hso, h5]; rw [Bool.and_true] at h6; rw [h6]; rfl
    ·rintro _ ⟨hk, _⟩
     rw [hk]
     conv=>whnf
     exact RetA_view 0 rfl ⟨⟨rfl, rfl⟩, rfl⟩
end Go.PX
namespace Go.PX
open Go.Proofs
abbrev Nms := List (ByteArray × Int)
def incS (m : Nms) (n : ByteArray) : Nms := putM m n ((getM m n).getD 0 + 1)
def freshE (m : Nms) (n : ByteArray) : Int := if nameF n then (if (getM m n).getD 0 + 1 > 1 then 5 else 0) else 6
def nmsH (m : Nms) : Heap := [(1000000, .box (.vv [.mp 1000001])), (1000001, .map (kvG D.str m))]
theorem same_str (a b : ByteArray) : sameD (.str a) (.str b) = some (decide (a = b)) := rfl
theorem find_inc (m : Nms) (n : ByteArray) : ∃ i, findD (.str n) (kvG D.str (incS m n)) 0 = some (some (i, i64 ((getM m n).getD 0 + 1))) := by
 obtain ⟨i, _, h1, _⟩ := findG_some (kd := D.str) same_str (t := n) (v := (getM m n).getD 0 + 1) (m := incS m n) (by unfold incS; rw [getM_put, if_pos rfl]) 0
 exact ⟨0 + i, h1⟩
theorem ch62 (m : Nms) (n : ByteArray) (hb : ∀ v, getM m n = some v → 0 ≤ v ∧ v < 1000000) : FnU Tryz.prog 62 [.d (.str n), .ptr 1000000 0] (nmsH m) fun v h' => v = .d (i64 (freshE m n)) ∧ h' = nmsH (incS m n) := by
 intro σ Y s
 refine fnC_of mixed tysOk Tryz.func62 rfl (ft := ft62) (args := [.d (.str n), .ptr 1000000 0]) (show fnB ft62 Tryz.f62 2 = true from by decide +kernel) ?_
 conv=>whnf
 cases hg : getM m n with
 | none =>
  have g1 := findG_none (kd := D.str) same_str hg 0
  refine findK.mk _ g1 ?_
  conv=>whnf
  refine arith_in (wrap_i64 (by (try dsimp only); omega)) ?_
  conv=>whnf
  refine findK.mk _ g1 ?_
  conv=>whnf
  have hm2 : kvG D.str m ++ [(D.str n, i64 (0 + 1))] = kvG D.str (incS m n) := (by rw [show i64 (0 + 1) = D.int .i64 1 from rfl, putG_none (kd := D.str) 1 hg, incS, hg]; rfl)
  obtain ⟨j, hj⟩ := find_inc m n
  refine CallA_v (fn47 n) rfl rfl ?_
  conv=>whnf
  cases hn : nameF n with
  | false =>
   have he : freshE m n = 6 := by unfold freshE; rw [hn]; rfl
   rw [he]
   conv=>whnf
   refine RetA_hand [] [.d (i64 6)] (nmsH (incS m n)) rfl ⟨rfl, congrArg (fun z => some (Obj.map z)) hm2, trivial⟩ rfl ⟨⟨rfl, rfl⟩, rfl⟩
  | true =>
   conv=>whnf
   refine findK.mk _ (show findD (.str n) (kvG D.str m ++ [(D.str n, i64 (0 + 1))]) 0 = some (some (j, i64 ((getM m n).getD 0 + 1))) from hm2 ▸ hj) ?_
   conv=>whnf
   refine brk_i (fun h1 => ?_) (fun h1 => ?_)
   ·have he : freshE m n = 5 := by unfold freshE; rw [hn, if_pos rfl, if_pos (of_decide_eq_true h1)]
    rw [he]
    conv=>whnf
    refine RetA_hand [] [.d (i64 5)] (nmsH (incS m n)) rfl ⟨rfl, congrArg (fun z => some (Obj.map z)) hm2, trivial⟩ rfl ⟨⟨rfl, rfl⟩, rfl⟩
   ·have he : freshE m n = 0 := by unfold freshE; rw [hn, if_pos rfl, if_neg (of_decide_eq_false h1)]
    rw [he]
    conv=>whnf
    refine RetA_hand [] [.d (i64 0)] (nmsH (incS m n)) rfl ⟨rfl, congrArg (fun z => some (Obj.map z)) hm2, trivial⟩ rfl ⟨⟨rfl, rfl⟩, rfl⟩
 | some v =>
  obtain ⟨i, _, g1, g3, _⟩ := findG_some (kd := D.str) same_str hg 0
  have := hb v hg
  refine findK.mk _ g1 ?_
  conv=>whnf
  refine arith_in (wrap_i64 (by (try dsimp only); omega)) ?_
  conv=>whnf
  refine findK.mk _ g1 ?_
  conv=>whnf
  have hm2 : (kvG D.str m).set (0 + i) (D.str n, i64 (v + 1)) = kvG D.str (incS m n) := (by rw [Nat.zero_add]; exact (g3 (v + 1)).trans (by rw [incS, hg]; rfl))
  obtain ⟨j, hj⟩ := find_inc m n
  refine CallA_v (fn47 n) rfl rfl ?_
  conv=>whnf
  cases hn : nameF n with
  | false =>
   have he : freshE m n = 6 := by unfold freshE; rw [hn]; rfl
   rw [he]
   conv=>whnf
   refine RetA_hand [] [.d (i64 6)] (nmsH (incS m n)) rfl ⟨rfl, congrArg (fun z => some (Obj.map z)) hm2, trivial⟩ rfl ⟨⟨rfl, rfl⟩, rfl⟩
  | true =>
   conv=>whnf
   refine findK.mk _ (show findD (.str n) ((kvG D.str m).set (0 + i) (D.str n, i64 (v + 1))) 0 = some (some (j, i64 ((getM m n).getD 0 + 1))) from hm2 ▸ hj) ?_
   conv=>whnf
   refine brk_i (fun h1 => ?_) (fun h1 => ?_)
   ·have he : freshE m n = 5 := by unfold freshE; rw [hn, if_pos rfl, if_pos (of_decide_eq_true h1)]
    rw [he]
    conv=>whnf
    refine RetA_hand [] [.d (i64 5)] (nmsH (incS m n)) rfl ⟨rfl, congrArg (fun z => some (Obj.map z)) hm2, trivial⟩ rfl ⟨⟨rfl, rfl⟩, rfl⟩
   ·have he : freshE m n = 0 := by unfold freshE; rw [hn, if_pos rfl, if_neg (of_decide_eq_false h1)]
    rw [he]
    conv=>whnf
    refine RetA_hand [] [.d (i64 0)] (nmsH (incS m n)) rfl ⟨rfl, congrArg (fun z => some (Obj.map z)) hm2, trivial⟩ rfl ⟨⟨rfl, rfl⟩, rfl⟩
def farM (m : Mark) : Bool := !withinB 30000 m.at'
def markE (ns : Nms) (m : Mark) : Int :=
 if freshE ns m.name = 0 then (if farM m then 7 else paintE m.paints) else freshE ns m.name
def marksL : Nms → Int → List Mark → (Int × Int) ⊕ Nms
 | ns, _, [] => .inr ns
 | ns, i, m :: r => if markE ns m = 0 then marksL (incS ns m.name) (i + 1) r else .inl (i, markE ns m)
def sandE' (ns : Nms) (s : Sand) : Int := if freshE ns s.name = 0 then sandE s else freshE ns s.name
def sandsL : Nms → Int → List Sand → Int × Int × Int
 | _, _, [] => (0, 0, 0)
 | ns, i, s :: r => if sandE' ns s = 0 then sandsL (incS ns s.name) (i + 1) r else (2, i, sandE' ns s)
def checkX (c : Cht) : Int × Int × Int :=
 if c.marks.length > 8 then (1, 0, 3) else match marksL [] 0 c.marks with
 | .inl (i, e) => (1, i, e)
 | .inr ns => if c.sands.length > 4 then (2, 0, 3) else sandsL ns 0 c.sands
def NmsOk (ns : Nms) (k : Nat) : Prop := ∀ n v, getM ns n = some v → 0 ≤ v ∧ v ≤ k
theorem NmsOk.inc {ns : Nms} {k : Nat} (h : NmsOk ns k) (n : ByteArray) : NmsOk (incS ns n) (k + 1) := by
 intro u v hv
 unfold incS at hv
 rw [getM_put] at hv
 split at hv
 ·cases hv
  cases hg : getM ns n with
  | none => simp only [Option.getD_none]; omega
  | some w => have := h n w hg; simp only [Option.getD_some]; omega
 ·have := h u v hv; omega
set_option maxHeartbeats 4000000 in
theorem ch20 (c : Cht) : FnV Tryz.prog 20 [c.d] (.tup [i64 (checkX c).1, i64 (checkX c).2.1, i64 (checkX c).2.2]) := by
 refine fnV_of mixed tysOk Tryz.func20 rfl (ft := ft20) 1 (by decide +kernel) (by rfl) fun {σ} Y st => ?_
 conv=>whnf
 refine brk_i (fun h0 => ?_) (fun h0 => ?_)
 ·have h0 : c.marks.length > 8 := by have := of_decide_eq_true h0; simp at this; omega
  have he : checkX c = (1, 0, 3) := by unfold checkX; rw [if_pos h0]
  rw [he]
  conv=>whnf
  exact RetA_view 0 rfl ⟨⟨rfl, rfl⟩, rfl⟩
 have h0 : ¬ c.marks.length > 8 := by have := of_decide_eq_false h0; simp at this; omega
 have he : checkX c = match marksL [] 0 c.marks with
  | .inl (i, e) => (1, i, e)
  | .inr ns => if c.sands.length > 4 then (2, 0, 3) else sandsL ns 0 c.sands := by unfold checkX; rw [if_neg h0]
 conv=>whnf
 refine LoopA_i (T := tys) tysOk (by exact drawsB_spec mixed tysOk (by decide +kernel)) c.marks (fun i (ns : Nms) => ⟨[(1, .ptr 1 0), (6, .clo 62 [.ptr 5 0]), (18, .d (marksD c.marks)), (19, .d (i64 (c.marks.map Mark.cells).length)), (20, .d (i64 i))], [(1, .box (.dd c.cells)), (5, .box (.vv [.mp 11])), (11, .map (kvG D.str ns))], st⟩) (fun i r ns => NmsOk ns i ∧ marksL [] 0 c.marks = marksL ns i r) [] (Wk.sub ⟨(by first | rfl | (simp only [List.length_map]; rfl) | simp [PX.get]), (by first | rfl | (simp only [List.length_map]; rfl) | simp [PX.get]), (by first | rfl | (simp only [List.length_map]; rfl) | simp [PX.get]), (by first | rfl | (simp only [List.length_map]; rfl) | simp [PX.get]), (by first | rfl | (simp only [List.length_map]; rfl) | simp [PX.get]), trivial⟩ ⟨(by first | rfl | (simp only [List.length_map]; rfl) | simp [PX.get]), (by first | rfl | (simp only [List.length_map]; rfl) | simp [PX.get]), (by first | rfl | (simp only [List.length_map]; rfl) | simp [PX.get]), trivial⟩) ⟨fun n v h => by simp [getM] at h, rfl⟩ ?_ ?_
 ·rintro i m r ns hmi hi hr ⟨hns, hk⟩
  rw [marksL] at hk
  conv=>whnf
  refine brk_i (fun _ => ?_) (fun h => absurd hi (by simpa using h))
  conv=>whnf
  refine elemK_nat hmi ?_
  conv=>whnf
  refine CallA_fn (ch62 ns m.name (fun v hv => by have := hns _ v hv; omega)) [5, 11] rfl ⟨_, _, rfl, rfl, _, _, rfl, rfl, rfl⟩ rfl ?_
  conv=>whnf
  by_cases hf : freshE ns m.name = 0
  case neg =>
   have hm : markE ns m = freshE ns m.name := by unfold markE; rw [if_neg hf]
   rw [hm, if_neg hf] at hk
   have he2 : checkX c = (1, (i : Int), freshE ns m.name) := by rw [he, hk]
   rw [he2, decide_eq_false hf]
   conv=>whnf
   refine brk_i (fun h => absurd h (by simp [hf])) (fun _ => ?_)
   conv=>whnf
   refine brk_i (fun _ => ?_) (fun h => absurd h (by simp [hf]))
   conv=>whnf
   exact RetA_view 0 rfl ⟨⟨rfl, rfl⟩, rfl⟩
  rw [decide_eq_true hf]
  conv=>whnf
  refine CallA_view (ds := [i64 30000, ptsD [m.at']]) (ch63 30000 [m.at'] (by omega) (by simp)) rfl 1 rfl ?_
  have hfar : ([m.at'].any fun p => !withinB 30000 p) = farM m := by simp [farM]
  rw [hfar]
  cases hfm : farM m with
  | true =>
   have hm : markE ns m = 7 := by unfold markE; rw [if_pos hf, hfm]; rfl
   rw [hm, if_neg (by simp)] at hk
   have he2 : checkX c = (1, (i : Int), 7) := by rw [he, hk]
   rw [he2]
   conv=>whnf
   exact RetA_view 0 rfl ⟨⟨rfl, rfl⟩, rfl⟩
  | false =>
   have hm : markE ns m = paintE m.paints := by unfold markE; rw [if_pos hf, hfm]; rfl
   rw [hm] at hk
   conv=>whnf
   refine brk_i (fun _ => ?_) (fun h => absurd h (by simp [hf]))
   conv=>whnf
   refine CallA_v (ch64 m.paints) rfl rfl ?_
   conv=>whnf
   refine brk_i (fun hp => ?_) (fun hp => ?_)
   ·have hp : ¬ paintE m.paints = 0 := by simpa using hp
    rw [if_neg hp] at hk
    have he2 : checkX c = (1, (i : Int), paintE m.paints) := by rw [he, hk]
    rw [he2]
    conv=>whnf
    exact RetA_view 0 rfl ⟨⟨rfl, rfl⟩, rfl⟩
   ·have hp : paintE m.paints = 0 := by simpa using hp
    rw [if_pos hp] at hk
    conv=>whnf
    refine arith_in (wrap_i64 (by (try dsimp only); omega)) ?_
    conv=>whnf
    exact ⟨incS ns m.name, ⟨hns.inc _, hk⟩, (Wk.sub ⟨(by first | rfl | (simp only [List.length_map]; rfl) | simp [PX.get]), (by first | rfl | (simp only [List.length_map]; rfl) | simp [PX.get]), (by first | rfl | (simp only [List.length_map]; rfl) | simp [PX.get]), (by first | rfl | (simp only [List.length_map]; rfl) | simp [PX.get]), (by first | rfl | (simp only [List.length_map]; rfl) | simp [PX.get]), trivial⟩ ⟨(by first | rfl | (simp only [List.length_map]; rfl) | simp [PX.get]), (by first | rfl | (simp only [List.length_map]; rfl) | simp [PX.get]), (by first | rfl | (simp only [List.length_map]; rfl) | simp [PX.get]), trivial⟩)⟩
 ·rintro ns ⟨hns, hk⟩
  have he2 : checkX c = if c.sands.length > 4 then (2, 0, 3) else sandsL ns 0 c.sands := by rw [he, hk, marksL]
  conv=>whnf
  refine brk_i (fun h => absurd h (by simp)) (fun _ => ?_)
  conv=>whnf
  refine brk_i (fun h1 => ?_) (fun h1 => ?_)
  ·have h1 : c.sands.length > 4 := by have := of_decide_eq_true h1; simp at this; omega
   rw [if_pos h1] at he2
   rw [he2]
   conv=>whnf
   exact RetA_view 0 rfl ⟨⟨rfl, rfl⟩, rfl⟩
  have h1 : ¬ c.sands.length > 4 := by have := of_decide_eq_false h1; simp at this; omega
  rw [if_neg h1] at he2
  conv=>whnf
  refine LoopA_i (T := tys) tysOk (by exact drawsB_spec mixed tysOk (by decide +kernel)) c.sands (fun i (ns : Nms) => ⟨[(1, .ptr 1 0), (6, .clo 62 [.ptr 5 0]), (52, .d (sandsD c.sands)), (53, .d (i64 (c.sands.map Sand.cells).length)), (54, .d (i64 i))], [(1, .box (.dd c.cells)), (5, .box (.vv [.mp 11])), (11, .map (kvG D.str ns))], st⟩) (fun i r ns => NmsOk ns (8 + i) ∧ checkX c = sandsL ns i r) ns (Wk.sub ⟨(by first | rfl | (simp only [List.length_map]; rfl) | simp [PX.get]), (by first | rfl | (simp only [List.length_map]; rfl) | simp [PX.get]), (by first | rfl | (simp only [List.length_map]; rfl) | simp [PX.get]), (by first | rfl | (simp only [List.length_map]; rfl) | simp [PX.get]), (by first | rfl | (simp only [List.length_map]; rfl) | simp [PX.get]), trivial⟩ ⟨(by first | rfl | (simp only [List.length_map]; rfl) | simp [PX.get]), (by first | rfl | (simp only [List.length_map]; rfl) | simp [PX.get]), (by first | rfl | (simp only [List.length_map]; rfl) | simp [PX.get]), trivial⟩) ⟨fun n v h => by have := hns n v h; omega, he2⟩ ?_ ?_
  ·rintro i m r ns hmi hi hr ⟨hns, hk⟩
   rw [sandsL] at hk
   conv=>whnf
   refine brk_i (fun _ => ?_) (fun h => absurd hi (by simpa using h))
   conv=>whnf
   refine elemK_nat hmi ?_
   conv=>whnf
   refine CallA_fn (ch62 ns m.name (fun v hv => by have := hns _ v hv; omega)) [5, 11] rfl ⟨_, _, rfl, rfl, _, _, rfl, rfl, rfl⟩ rfl ?_
   conv=>whnf
   by_cases hf : freshE ns m.name = 0
   case neg =>
    have hm : sandE' ns m = freshE ns m.name := by unfold sandE'; rw [if_neg hf]
    rw [hm, if_neg hf] at hk
    rw [hk, decide_eq_false hf]
    conv=>whnf
    refine brk_i (fun _ => ?_) (fun h => absurd h (by simp [hf]))
    conv=>whnf
    exact RetA_view 0 rfl ⟨⟨rfl, rfl⟩, rfl⟩
   have hm : sandE' ns m = sandE m := by unfold sandE'; rw [if_pos hf]
   rw [hm] at hk
   rw [decide_eq_true hf]
   conv=>whnf
   refine CallA_v (ch65 m) rfl rfl ?_
   conv=>whnf
   refine brk_i (fun hp => ?_) (fun hp => ?_)
   ·have hp : ¬ sandE m = 0 := by simpa using hp
    rw [if_neg hp] at hk
    rw [hk]
    conv=>whnf
    exact RetA_view 0 rfl ⟨⟨rfl, rfl⟩, rfl⟩
   ·have hp : sandE m = 0 := by simpa using hp
    rw [if_pos hp] at hk
    conv=>whnf
    refine arith_in (wrap_i64 (by (try dsimp only); omega)) ?_
    conv=>whnf
    exact ⟨incS ns m.name, ⟨hns.inc _, hk⟩, (Wk.sub ⟨(by first | rfl | (simp only [List.length_map]; rfl) | simp [PX.get]), (by first | rfl | (simp only [List.length_map]; rfl) | simp [PX.get]), (by first | rfl | (simp only [List.length_map]; rfl) | simp [PX.get]), (by first | rfl | (simp only [List.length_map]; rfl) | simp [PX.get]), (by first | rfl | (simp only [List.length_map]; rfl) | simp [PX.get]), trivial⟩ ⟨(by first | rfl | (simp only [List.length_map]; rfl) | simp [PX.get]), (by first | rfl | (simp only [List.length_map]; rfl) | simp [PX.get]), (by first | rfl | (simp only [List.length_map]; rfl) | simp [PX.get]), trivial⟩)⟩
  ·rintro ns ⟨hns, hk⟩
   rw [sandsL] at hk
   rw [hk]
   conv=>whnf
   refine brk_i (fun h => absurd h (by simp)) (fun _ => ?_)
   conv=>whnf
   exact RetA_view 0 rfl ⟨⟨rfl, rfl⟩, rfl⟩
end Go.PX
namespace Go.PX
open Go.Proofs
def openX (c : Cht) (p : Pt) : Int := if (checkX c).2.2 = 0 then (if withinB 10000 p then 0 else 7) else (checkX c).2.2
theorem ch70 (c : Cht) (p : Pt) : FnV Tryz.prog 70 [c.d, p.d] (i64 (openX c p)) := by
 refine fnV_of mixed tysOk Tryz.func70 rfl (ft := ft70) 2 (by decide +kernel) (by rfl) fun {σ} Y st => ?_
 conv=>whnf
 refine CallA_v (ch20 c) rfl rfl ?_
 conv=>whnf
 by_cases h0 : (checkX c).2.2 = 0
 case neg =>
  have he : openX c p = (checkX c).2.2 := by unfold openX; rw [if_neg h0]
  rw [he, decide_eq_false h0]
  conv=>whnf
  exact RetA_view 0 rfl ⟨⟨rfl, rfl⟩, rfl⟩
 have he : openX c p = if withinB 10000 p then 0 else 7 := by unfold openX; rw [if_pos h0]
 rw [he, decide_eq_true h0]
 conv=>whnf
 refine CallA_view (ds := [i64 10000, ptsD [p]]) (ch63 10000 [p] (by omega) (by simp)) rfl 1 rfl ?_
 have hfar : ([p].any fun p => !withinB 10000 p) = !withinB 10000 p := by simp
 rw [hfar]
 cases withinB 10000 p with
 | true =>
  conv=>whnf
  rw [h0]
  exact RetA_view 0 rfl ⟨⟨rfl, rfl⟩, rfl⟩
 | false =>
  conv=>whnf
  exact RetA_view 0 rfl ⟨⟨rfl, rfl⟩, rfl⟩
theorem floor_eq {n b : Int} (hb : 0 < b) : (if n.tmod b < 0 then n.tdiv b - 1 else n.tdiv b) = n / b := by
 rcases Int.lt_or_le n 0 with hn | hn
 ·have h1 := Int.mul_tdiv_add_tmod n b
  have h2 : -b < n.tmod b := by
   have := Int.tmod_lt_of_pos (-n) hb
   rw [Int.neg_tmod] at this; omega
  have h3 : n.tmod b ≤ 0 := by
   have := Int.tmod_nonneg b (show (0 : Int) ≤ -n by omega)
   rw [Int.neg_tmod] at this; omega
  split
  ·rename_i h4
   refine Int.le_antisymm ?_ ?_
   ·rw [Int.le_ediv_iff_mul_le hb, Int.sub_mul, Int.mul_comm]; omega
   ·have : n / b < n.tdiv b := by
     rw [Int.ediv_lt_iff_lt_mul hb, Int.mul_comm]; omega
    omega
  ·rename_i h4
   have h5 : n.tmod b = 0 := by omega
   refine Int.le_antisymm ?_ ?_
   ·rw [Int.le_ediv_iff_mul_le hb, Int.mul_comm]; omega
   ·have : n / b < n.tdiv b + 1 := by
     rw [Int.ediv_lt_iff_lt_mul hb, Int.add_mul, Int.mul_comm]; omega
    omega
 ·rw [Int.tdiv_eq_ediv_of_nonneg hn, Int.tmod_eq_emod_of_nonneg hn, if_neg (by have := Int.emod_nonneg n (show b ≠ 0 by omega); omega)]
theorem ch125 (n b : Int) (hb : 0 < b) (hn : -4000000000000000000 ≤ n ∧ n ≤ 4000000000000000000) : FnV Tryz.prog 125 [i64 n, i64 b] (i64 (n / b)) := by
 refine fnV_of mixed tysOk Tryz.func125 rfl (ft := ft125) 2 (by decide +kernel) (by rfl) fun {σ} Y st => ?_
 conv=>whnf
 have hq := floor_eq (n := n) hb
 have hq1 : -4000000000000000000 ≤ n / b := by
  rw [Int.le_ediv_iff_mul_le hb]
  have : -4000000000000000000 * b ≤ -4000000000000000000 * 1 := by omega
  omega
 have hq2 : n / b ≤ 4000000000000000000 := by
  have : n / b < 4000000000000000001 := by
   rw [Int.ediv_lt_iff_lt_mul hb]; omega
  omega
 refine chk_i (by simp; omega) ?_
 by_cases h1 : n.tmod b < 0
 ·rw [if_pos h1] at hq
  refine arith_to (n.tdiv b) rfl (wrap_i64 (by omega)) ?_
  conv=>whnf
  refine chk_i (by simp; omega) ?_
  conv=>whnf
  refine brk_i (fun _ => ?_) (fun h => absurd h (by simp [h1]))
  conv=>whnf
  refine arith_in (wrap_i64 (by (try dsimp only); omega)) ?_
  conv=>whnf
  conv=>whnf
  rw [hq]
  exact RetA_view 0 rfl ⟨⟨rfl, rfl⟩, rfl⟩
 ·rw [if_neg h1] at hq
  refine arith_to (n.tdiv b) rfl (wrap_i64 (by omega)) ?_
  conv=>whnf
  refine chk_i (by simp; omega) ?_
  conv=>whnf
  refine brk_i (fun h => absurd h (by simp [h1])) (fun _ => ?_)
  conv=>whnf
  rw [hq]
  exact RetA_view 0 rfl ⟨⟨rfl, rfl⟩, rfl⟩
def cutF (l : Span) (f n : Int) : Span :=
 if 0 < f then ⟨max l.lo (-((-n) / f)), l.hi⟩ else if f < 0 then ⟨l.lo, min l.hi ((-n) / (-f))⟩ else if 0 < n then ⟨l.lo, l.lo - 1⟩ else l
theorem ch107 (l : Span) (f n : Int) (hl : -4000000000000000000 ≤ l.lo ∧ l.lo ≤ 4000000000000000000) (hf : -1000000 ≤ f ∧ f ≤ 1000000) (hn : -4000000000000000000 ≤ n ∧ n ≤ 4000000000000000000) : FnV Tryz.prog 107 [.agg (Span.cells l), i64 f, i64 n] (.agg (Span.cells (cutF l f n))) := by
 refine fnV_of mixed tysOk Tryz.func107 rfl (ft := ft107) 3 (by decide +kernel) (by rfl) fun {σ} Y st => ?_
 conv=>whnf
 unfold cutF
 refine brk_i (fun h1 => ?_) (fun h1 => ?_)
 ·have h1 : 0 < f := of_decide_eq_true h1
  rw [if_pos h1]
  have hq1 : -4000000000000000000 ≤ (-n) / f := by
   rw [Int.le_ediv_iff_mul_le h1]; omega
  have hq2 : (-n) / f ≤ 4000000000000000000 := by
   have : (-n) / f < 4000000000000000001 := by
    rw [Int.ediv_lt_iff_lt_mul h1]; omega
   omega
  conv=>whnf
  refine arith_to ((-n)) (by (try dsimp only); omega) (wrap_i64 (by (try dsimp only); omega)) ?_
  conv=>whnf
  refine DrawCall_view (ds := [i64 (-n), i64 f]) (ch125 (-n) f h1 (by omega)) rfl 1 rfl ?_
  conv=>whnf
  refine arith_to ((-((-n) / f))) (by (try dsimp only); omega) (wrap_i64 (by (try dsimp only); omega)) ?_
  conv=>whnf
  exact RetA_view 0 rfl ⟨⟨rfl, rfl⟩, rfl⟩
 ·have h1 : ¬ 0 < f := of_decide_eq_false h1
  rw [if_neg h1]
  conv=>whnf
  refine brk_i (fun h2 => ?_) (fun h2 => ?_)
  ·have h2 : f < 0 := of_decide_eq_true h2
   have h3 : 0 < -f := by omega
   rw [if_pos h2]
   have hq1 : -4000000000000000000 ≤ (-n) / (-f) := by
    rw [Int.le_ediv_iff_mul_le h3]; omega
   have hq2 : (-n) / (-f) ≤ 4000000000000000000 := by
    have : (-n) / (-f) < 4000000000000000001 := by
     rw [Int.ediv_lt_iff_lt_mul h3]; omega
    omega
   conv=>whnf
   refine arith_to ((-n)) (by (try dsimp only); omega) (wrap_i64 (by (try dsimp only); omega)) ?_
   conv=>whnf
   refine arith_to ((-f)) (by (try dsimp only); omega) (wrap_i64 (by (try dsimp only); omega)) ?_
   conv=>whnf
   refine DrawCall_view (ds := [i64 (-n), i64 (-f)]) (ch125 (-n) (-f) h3 (by omega)) rfl 1 rfl ?_
   conv=>whnf
   exact RetA_view 0 rfl ⟨⟨rfl, rfl⟩, rfl⟩
  ·rw [if_neg (of_decide_eq_false h2)]
   conv=>whnf
   refine brk_i (fun h2 => ?_) (fun h2 => ?_)
   ·rw [if_pos (of_decide_eq_true h2)]
    conv=>whnf
    refine arith_in (wrap_i64 (by (try dsimp only); omega)) ?_
    conv=>whnf
    conv=>whnf
    exact RetA_view 0 rfl ⟨⟨rfl, rfl⟩, rfl⟩
   ·rw [if_neg (of_decide_eq_false h2)]
    conv=>whnf
    exact RetA_view 0 rfl ⟨⟨rfl, rfl⟩, rfl⟩
theorem cutF_bd {l : Span} {f n : Int} (hl : -4000000000000000000 ≤ l.lo ∧ l.lo ≤ 4000000000000000000) (hn : -4000000000000000000 ≤ n ∧ n ≤ 4000000000000000000) : -4000000000000000000 ≤ (cutF l f n).lo ∧ (cutF l f n).lo ≤ 4000000000000000000 := by
 unfold cutF
 split
 ·rename_i h1
  have hq1 : -4000000000000000000 ≤ (-n) / f := by
   rw [Int.le_ediv_iff_mul_le h1]; omega
  have hq2 : (-n) / f ≤ 4000000000000000000 := by
   have : (-n) / f < 4000000000000000001 := by
    rw [Int.ediv_lt_iff_lt_mul h1]; omega
   omega
  simp only
  omega
 ·split
  ·exact hl
  ·split
   ·exact hl
   ·exact hl
structure SandR (s : Sand) : Prop where
 len : 3 ≤ s.corners.length ∧ s.corners.length ≤ 8
 pin : ∀ p ∈ s.corners, Pin 10000 p
 x : -500 ≤ s.moves.x.lo ∧ s.moves.x.lo ≤ s.moves.x.hi ∧ s.moves.x.hi ≤ 500 ∧ s.moves.x.hi - s.moves.x.lo ≤ 40
 y : -500 ≤ s.moves.y.lo ∧ s.moves.y.lo ≤ s.moves.y.hi ∧ s.moves.y.hi ≤ 500 ∧ s.moves.y.hi - s.moves.y.lo ≤ 40
 sides : ∀ x ∈ sidesF s, sideOk s x = true
theorem sandE_ok {s : Sand} (h : sandE s = 0) : SandR s := by
 unfold sandE at h
 split at h
 case isFalse => cases h
 rename_i h1
 split at h
 ·cases h
 rename_i h2
 split at h
 case isFalse => rename_i h3; exact absurd h h3
 rename_i h3
 split at h
 case isFalse => cases h
 rename_i h4
 rw [inB_iff] at h1
 unfold boxE at h3
 split at h3
 case isFalse => cases h3
 rename_i h5
 split at h3
 case isFalse => cases h3
 rename_i h6
 simp only [Bool.and_eq_true, inB_iff] at h5 h6
 refine ⟨by omega, fun p hp => ?_, by omega, by omega, fun x hx => List.all_eq_true.1 h4 x hx⟩
 have := List.any_eq_false.1 (by simpa using h2 : (s.corners.any fun p => !withinB 10000 p) = false) p hp
 exact within_iff.1 (by simpa using this)
def rowStep (x : Int) (p : Pt) (l : Span) (z : Pt × Pt) : Span := cutF l (-z.2.x) (z.2.y * ((p.x - z.1.x) - x) - z.2.x * (p.y - z.1.y))
def rowsX (s : Sand) (x : Int) (p : Pt) : Span := (sidesF s).foldl (rowStep x p) s.moves.y
set_option maxHeartbeats 1000000 in
theorem ch71 (s : Sand) (hR : SandR s) (x : Int) (hx : -500 ≤ x ∧ x ≤ 500) (p : Pt) (hp : Pin 10000 p) : FnV Tryz.prog 71 [.agg s.cells, i64 x, p.d] (.agg (rowsX s x p).cells) := by
 refine fnV_of mixed tysOk Tryz.func71 rfl (ft := ft71) 3 (by decide +kernel) (by rfl) fun {σ} Y st => ?_
 conv=>whnf
 have hlen := hR.len
 refine CallA_v (ch103 s) rfl rfl ?_
 conv=>whnf
 refine RangeA_list tysOk (by exact drawsB_spec mixed tysOk (by decide +kernel)) (by exact drawsB_spec mixed tysOk (by decide +kernel)) rfl 1500000 1600000 [3, 4, 5, 6, 7] (yields124 s (by omega) (by omega) (fun p h => (hR.pin p h).mono (by omega)))
  (fun (l : Span) => ([(1500000, .box (.dd s.cells)), (1500001, .box (.dd [i64 x])), (1500002, .box (.dd p.cells)), (1500003, .box (.dd [i64 0, i64 0])), (1500004, .box (.dd l.cells))], st))
  (fun rest l => rowsX s x p = rest.foldl (rowStep x p) l ∧ (∀ x ∈ rest, Pin 10000 x.1 ∧ Pin 20000 x.2) ∧ -4000000000000000000 ≤ l.lo ∧ l.lo ≤ 4000000000000000000) s.moves.y rfl rfl rfl ⟨rfl, mem_sidesF (by omega) hR.pin, by have := hR.y; omega⟩ ?_ ?_
 ·rintro ⟨a, b⟩ rest l ⟨hk, hl, hlo⟩ Q hQ1 -
  refine ⟨⟨rfl, rfl⟩, ?_⟩
  obtain ⟨ha, hb⟩ := hl (a, b) (by simp)
  simp only at ha hb
  rw [List.foldl_cons] at hk
  have hto := hp.sub ha
  conv=>whnf
  refine CallA_view (ds := [a.d, p.d]) (ch81 a p (ha.mono (by omega)) (hp.mono (by omega))) rfl 1 rfl ?_
  have ht1 := hto.x
  have ht2 := hto.y
  have hb1 := hb.x
  have hb2 := hb.y
  have hm1 := mul_big (a := b.y) (b := (p.sub a).x - x) (by omega) (by omega)
  have hm2 := mul_big (a := b.x) (b := (p.sub a).y) (by omega) (by omega)
  conv=>whnf
  refine arith_to ((-b.x)) (by (try dsimp only); omega) (wrap_i64 (by (try dsimp only); omega)) ?_
  conv=>whnf
  refine arith_in (wrap_i64 (by (try dsimp only); omega)) ?_
  conv=>whnf
  refine arith_in (wrap_i64 (by (try dsimp only); omega)) ?_
  conv=>whnf
  refine arith_in (wrap_i64 (by (try dsimp only); omega)) ?_
  conv=>whnf
  refine arith_in (wrap_i64 (by (try dsimp only); omega)) ?_
  conv=>whnf
  refine CallA_view (ds := [.agg l.cells, i64 (-b.x), i64 (b.y * ((p.sub a).x - x) - b.x * (p.sub a).y)]) (ch107 l (-b.x) (b.y * ((p.sub a).x - x) - b.x * (p.sub a).y) hlo (by omega) (by omega)) rfl 1 rfl ?_
  conv=>whnf
  exact ⟨rowStep x p l (a, b), (Wk.sub trivial ⟨(by first | rfl | (simp only [List.length_map]; rfl) | simp [PX.get]), (by first | rfl | (simp only [List.length_map]; rfl) | simp [PX.get]), (by first | rfl | (simp only [List.length_map]; rfl) | simp [PX.get]), (by first | rfl | (simp only [List.length_map]; rfl) | simp [PX.get]), (by first | rfl | (simp only [List.length_map]; rfl) | simp [PX.get]), trivial⟩), rfl, hQ1 _ ⟨hk, fun x hx => hl x (by simp [hx]), cutF_bd hlo (by show -4000000000000000000 ≤ b.y * ((p.sub a).x - x) - b.x * (p.sub a).y ∧ b.y * ((p.sub a).x - x) - b.x * (p.sub a).y ≤ 4000000000000000000; omega)⟩⟩
 ·rintro l ⟨hk, _⟩
  rw [List.foldl_nil] at hk
  rw [hk]
  conv=>whnf
  exact RetA_view 0 rfl ⟨⟨rfl, rfl⟩, rfl⟩
end Go.PX
