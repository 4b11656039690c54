import Derived.Test.YtboaolnlajoanaaGreatDoorPxJ
import Derived.Test.YtboaolnlajoanaaGreatDoorPxI
import Derived.Shelf.Strings.Builder1
import Derived.Shelf.Strconv.Itoa3
import Derived.Shelf.Strconv.AtoiAll
import Derived.Shelf.Strings.Split
import Derived.Shelf.Strings.Cut
import Derived.Lib.ItoaNum
import Derived.Lib.SplitLaws
import Derived.Lib.IndexBytes
set_option linter.all false
set_option maxRecDepth 10000
namespace Go.PX
open Go.RowKit
def stepAt {σ : Type} (P : Program) (T : Tys) (Y : Hd σ) (ops : List Oper) (o : Option Oper) (e : Env) (h : Heap) (s : σ) (go : Env → Heap → σ → Prop) : Prop :=
 match o with
 | some ⟨dst, op, _, _, _, guard⟩ => guardK ops e guard (fun w => applyK w e h fun e h => stepK P T Y dst op e h s go) (fun w => applyK w e h fun e h => applyK (wset dst (.d (.tup []))) e h fun e h => go e h s)
 | none => False
def isTrue : List Bool → Nat → Bool
 | [], _ => true
 | b :: _, 0 => b
 | _ :: r, n + 1 => isTrue r n
def allTrue (ls : List Bool) : List Nat → Bool
 | [] => true
 | i :: r => isTrue ls i && allTrue ls r
def readyL (ls : List Bool) : Nat → List (List Nat) → List Bool → List Nat
 | _, [], _ => []
 | _, _, [] => []
 | i, d :: ds, b :: bs => match b, allTrue ls d with
  | false, true => i :: readyL ls (i + 1) ds bs
  | _, _ => readyL ls (i + 1) ds bs
def setT : List Bool → Nat → List Bool
 | [], _ => []
 | _ :: r, 0 => true :: r
 | b :: r, n + 1 => b :: setT r n
noncomputable def allR (l : List Nat) (f : Nat → Prop) : Prop :=
 List.rec (motive := fun _ => Prop) True (fun i _ ih => f i ∧ ih) l
theorem allR_iff {f : Nat → Prop} : ∀ {l : List Nat}, allR l f ↔ ∀ i ∈ l, f i
 | [] => by simp [allR]
 | i :: r => by
  have := allR_iff (f := f) (l := r)
  simp only [allR] at this ⊢
  rw [this]
  simp
noncomputable def wpAnyA {σ : Type} (P : Program) (T : Tys) (Y : Hd σ) (ops : List Oper) (deps : List (List Nat)) (n : Nat) : List Bool → Env → Heap → σ → (Env → Heap → σ → Prop) → Prop :=
 Nat.rec (motive := fun _ => List Bool → Env → Heap → σ → (Env → Heap → σ → Prop) → Prop) (fun _ e h s K => K e h s)
  (fun _ ih ls e h s K => allR (readyL ls 0 deps ls) fun i => stepAt P T Y ops ops[i]? e h s fun e h s => ih (setT ls i) e h s K) n
def depsOk : List Oper → List (List Nat) → Bool
 | [], [] => true
 | o :: r, d :: ds => d.all (fun i => o.after.toList.any fun e => Region.binds .any e && Nat.beq e.on i) && depsOk r ds
 | _, _ => false
theorem depsOk_spec : ∀ {l : List Oper} {ds : List (List Nat)}, depsOk l ds = true → l.length = ds.length ∧ ∀ (i : Nat) (o : Oper) (d : List Nat), l[i]? = some o → ds[i]? = some d → ∀ j ∈ d, ∃ e ∈ o.after, Region.binds .any e = true ∧ e.on = j
 | [], [], _ => ⟨rfl, fun i o d h => by simp at h⟩
 | [], _ :: _, h => by simp [depsOk] at h
 | _ :: _, [], h => by simp [depsOk] at h
 | o :: r, d :: ds, h => by
  simp only [depsOk, Bool.and_eq_true, List.all_eq_true] at h
  obtain ⟨h1, h2⟩ := depsOk_spec h.2
  refine ⟨by simp [h1], fun i o' d' ho hd j hj => ?_⟩
  cases i with
  | zero =>
   simp at ho hd
   subst ho; subst hd
   have := h.1 j hj
   simp only [List.any_eq_true, Bool.and_eq_true] at this
   obtain ⟨e, he, hb, hq⟩ := this
   exact ⟨e, by simpa using he, hb, Nat.eq_of_beq_eq_true hq⟩
  | succ i => exact h2 i o' d' (by simpa using ho) (by simpa using hd) j hj
theorem isTrue_iff : ∀ {ls : List Bool} {i : Nat}, isTrue ls i = ls.toArray.getD i true
 | [], i => by simp [isTrue, Array.getD_eq_getD_getElem?]
 | b :: r, 0 => by simp [isTrue, Array.getD_eq_getD_getElem?]
 | b :: r, n + 1 => by
  have := isTrue_iff (ls := r) (i := n)
  simp only [isTrue, this, Array.getD_eq_getD_getElem?]
  simp
theorem allTrue_of {ls : List Bool} : ∀ {d : List Nat}, (∀ j ∈ d, isTrue ls j = true) → allTrue ls d = true
 | [], _ => rfl
 | i :: r, h => by
  have h1 := allTrue_of (ls := ls) (d := r) fun j hj => h j (List.mem_cons_of_mem _ hj)
  simp [allTrue, h i (by simp), h1]
theorem mem_readyL {ls : List Bool} : ∀ {ds : List (List Nat)} {bs : List Bool} {k i : Nat} {d : List Nat}, ds[i]? = some d → bs[i]? = some false → allTrue ls d = true → k + i ∈ readyL ls k ds bs
 | [], _, _, i, d, h, _, _ => by simp at h
 | _ :: _, [], _, i, d, _, h, _ => by simp at h
 | x :: ds, b :: bs, k, i, d, hd, hb, ha => by
  cases i with
  | zero =>
   simp at hd hb
   subst hd; subst hb
   simp [readyL, ha]
  | succ i =>
   have := mem_readyL (ls := ls) (ds := ds) (bs := bs) (k := k + 1) (i := i) (by simpa using hd) (by simpa using hb) ha
   rw [show k + (i + 1) = k + 1 + i by omega]
   simp only [readyL]
   split
   ·exact List.mem_cons_of_mem _ this
   ·exact this
theorem setT_eq : ∀ {ls : List Bool} {i : Nat}, setT ls i = ls.set i true
 | [], i => by simp [setT]
 | b :: r, 0 => rfl
 | b :: r, n + 1 => by simp [setT, setT_eq (ls := r)]
def unl : List Bool → Nat
 | [] => 0
 | true :: r => unl r
 | false :: r => unl r + 1
theorem unl_set : ∀ {ls : List Bool} {i : Nat}, ls[i]? = some false → unl (ls.set i true) + 1 = unl ls
 | [], i, h => by simp at h
 | b :: r, 0, h => by
  simp at h; subst h
  simp [unl]
 | b :: r, i + 1, h => by
  have := unl_set (ls := r) (i := i) (by simpa using h)
  cases b <;> simp [unl, this]
theorem unl_pos : ∀ {ls : List Bool}, 0 < unl ls → ∃ i : Nat, ls[i]? = some false ∧ ∀ j : Nat, j < i → ls[j]? = some true
 | [], h => by simp [unl] at h
 | false :: r, _ => ⟨0, rfl, fun j hj => by omega⟩
 | true :: r, h => by
  obtain ⟨i, h1, h2⟩ := unl_pos (ls := r) (by simpa [unl] using h)
  refine ⟨i + 1, by simpa using h1, fun j hj => ?_⟩
  cases j with
  | zero => rfl
  | succ j => simpa using h2 j (by omega)
theorem unl_zero : ∀ {ls : List Bool}, unl ls = 0 → ∀ i : Nat, ls[i]? ≠ some false
 | [], _, i => by simp
 | false :: r, h, i => by simp [unl] at h
 | true :: r, h, i => by
  cases i with
  | zero => simp
  | succ i => simpa using unl_zero (ls := r) (by simpa [unl] using h) i
section
variable {P : Program} {T : Tys} {σ : Type} {Y : Hd σ} {cx : Cx σ} {r : Option Nat} {m : List Nat}
theorem getD_true_at {ls : List Bool} {i : Nat} : ls.toArray.getD i true = false ↔ ls[i]? = some false := by
 rw [Array.getD_eq_getD_getElem?]
 simp only [List.getElem?_toArray]
 cases ls[i]? with
 | none => simp
 | some b => simp
theorem getD_false_at {ls : List Bool} {i : Nat} : ls.toArray.getD i false = true ↔ ls[i]? = some true := by
 rw [Array.getD_eq_getD_getElem?]
 simp only [List.getElem?_toArray]
 cases ls[i]? with
 | none => simp
 | some b => simp
theorem wpAnyA_sound (hT : TysOk P T) (hY : Handles P Y cx) {ops : Array Oper} {deps : List (List Nat)} (hback : okBack 0 ops.toList = true) (hdeps : depsOk ops.toList deps = true) {F0 : Nat → Nat} {w0 : World} {n0 : Nat} (hd : ∀ o ∈ ops.toList, ∀ d, o.dst = some d → d < n0) {K : Env → Heap → σ → Prop} :
  ∀ (n : Nat) {ls : List Bool} {e : Env} {h : Heap} {s : σ} {L : Loc} {F : Nat → Nat} {a : Act} {w : World}, ls.length = ops.size → unl ls = n → Good cx r m L F ⟨e, h, s⟩ a w → a.tmps.size = n0 → Tr F0 w0 F w →
   wpAnyA P T Y ops.toList deps n ls e h s K → wpAnyIn (fr r) 0 P .any ops (OpsPostP Y cx r m F0 w0 n0 K) n ls.toArray a w := by
 obtain ⟨hdl, hds⟩ := depsOk_spec hdeps
 have hdl : ops.size = deps.length := by simpa using hdl
 intro n
 induction n with
 | zero =>
  intro ls e h s L F a w hl hu hg hs tr hk
  refine ⟨?_, .inl ⟨e, h, s, L, F, rfl, hk, hg, tr, hs⟩⟩
  cases hr : Region.ready .any ops ls.toArray with
  | nil => rfl
  | cons i _ =>
   have : i ∈ Region.ready .any ops ls.toArray := by rw [hr]; exact List.mem_cons_self ..
   have := getD_true_at.1 (mem_ready.1 this).1
   exact absurd this (unl_zero hu i)
 | succ n ih =>
  intro ls e h s L F a w hl hu hg hs tr hk
  refine ⟨fun hr => ?_, fun i hi => ?_⟩
  ·exfalso
   obtain ⟨i, h1, h2⟩ := unl_pos (ls := ls) (by omega)
   have his : i < ops.size := by rw [← hl]; exact (List.getElem?_eq_some_iff.1 h1).1
   have : i ∈ Region.ready .any ops ls.toArray := by
    rw [mem_ready]
    refine ⟨getD_true_at.2 h1, ops[i], Array.getElem?_eq_getElem his, fun e he hb => ?_⟩
    have hlt := okBack_spec hback i ops[i] (by simp) e he hb
    exact getD_false_at.2 (h2 e.on (by omega))
   rw [hr] at this
   cases this
  ·obtain ⟨hjl, oj, hoj, hedges⟩ := mem_ready.1 hi
   have his : i < ops.size := (Array.getElem?_eq_some_iff.1 hoj).1
   have hli := getD_true_at.1 hjl
   have hk : allR (readyL ls 0 deps ls) fun i => stepAt P T Y ops.toList ops.toList[i]? e h s fun e h s => wpAnyA P T Y ops.toList deps n (setT ls i) e h s K := hk
   have hdi : deps[i]? = some (deps[i]'(by omega)) := List.getElem?_eq_getElem _
   have hki := allR_iff.1 hk i (by
    have := mem_readyL (ls := ls) (ds := deps) (bs := ls) (k := 0) (i := i) hdi hli (allTrue_of fun j hj => by
     obtain ⟨e, he, hb, rfl⟩ := hds i oj _ (by simpa using hoj) hdi j hj
     have := hedges e he hb
     rw [isTrue_iff]
     have := getD_false_at.1 this
     rw [Array.getD_eq_getD_getElem?]
     simp [this])
    simpa using this)
   have hot : ops.toList[i]? = some oj := by simpa using hoj
   rw [hot] at hki
   obtain ⟨dst, op, ty, pos, after, guard⟩ := oj
   refine wpOp_sound hT hY hoj hg (fun d hdst => by rw [hs]; exact hd _ (List.mem_of_getElem? hot) d hdst) hki (fun e' h' s' L' F' a' w' hg' hs' tr' hk' => ?_) fun e' a' w' hp => .inr (hp.trans tr hs)
   have hset : ls.toArray.setIfInBounds i true = (setT ls i).toArray := by rw [setT_eq]; simp
   rw [hset]
   refine ih (by rw [setT_eq]; simpa using hl) ?_ hg' (hs'.trans hs) (Tr.trans tr tr') hk'
   rw [setT_eq]
   have := unl_set hli
   omega
variable {ft : FT}
theorem RegionA_all (hm : P.follows .mixedOrders = true) (hT : TysOk P T) (deps : List (List Nat)) {id : Nat} {ops : Array Oper} (hst : (okBack 0 ops.toList && depsOk ops.toList deps) = true) {e : Env} {h : Heap} {s : σ} {K : AExit → St σ → Prop}
  (hk : wpAnyA P T Y ops.toList deps deps.length (deps.map fun _ => false) e h s fun e h s => forceE (keepT ft.ks e) fun e => K .normal ⟨e, h, s⟩) : RegionA P ft Y id ops ⟨e, h, s⟩ K := by
 refine ⟨fun cx hY r m L F a w hg hc => ?_⟩
 rw [Bool.and_eq_true] at hst
 obtain ⟨hdl, _⟩ := depsOk_spec hst.2
 have hdl : ops.size = deps.length := by simpa using hdl
 refine wpIn_mono (wpIn_region_any (id := id) (Q := OpsPostP Y cx r m F w a.tmps.size (fun e h s => forceE (keepT ft.ks e) fun e => K .normal ⟨e, h, s⟩)) hm ?_) fun ex a' w' hq => ?_
 ·have hrep : Array.replicate ops.size false = (deps.map fun _ => false).toArray := by
   rw [hdl]
   have : ∀ l : List (List Nat), (l.map fun _ => false) = List.replicate l.length false := by
    intro l
    induction l with
    | nil => rfl
    | cons x r ih => rw [List.map_cons, ih]; rfl
   rw [this]; simp
  have hunl : ∀ l : List (List Nat), unl (l.map fun _ => false) = l.length := by
   intro l
   induction l with
   | nil => rfl
   | cons x r ih => simp [unl, ih]
  rw [hrep, hdl]
  exact wpAnyA_sound hT hY hst.1 hst.2 (opsOk_of hc) deps.length (by simp [hdl]) (hunl deps) (hg.same (w' := { w with drawn := w.drawn + 1 }) rfl rfl rfl rfl) rfl (Tr.drew _) hk
 ·rcases hq with ⟨e', h', s', L', F', hex, hk, hg', tr, hs⟩ | hp
  case inr => exact .inr hp
  rw [forceE_eq] at hk
  exact .inl ⟨.normal, _, m, L', F', hex, hk, hg'.sub (sub_keepT ft.ks e') (fun _ _ h => h), tr, hs⟩
end
end Go.PX
namespace Go.PX
mutual
def relax : D → D
 | .agg cs => .agg (relaxL cs)
 | .tup cs => .tup (relaxL cs)
 | .vs es => .vs (relaxE es)
 | .nils => .vs []
 | .ref cs => .ref (relaxL cs)
 | .bool b => .bool b
 | .int k n => .int k n
 | .str s => .str s
 | .nilp => .nilp
 | .mv kvs => .mv kvs
 | .nilm => .nilm
 | .clo f caps => .clo f caps
 | .mth f first => .mth f first
 | .nilf => .nilf
 | .ifc t v => .ifc t v
 | .nili => .nili
def relaxL : List D → List D
 | [] => []
 | c :: r => relax c :: relaxL r
def relaxE : List (List D) → List (List D)
 | [] => []
 | c :: r => relaxL c :: relaxE r
end
theorem relaxL_length : ∀ l : List D, (relaxL l).length = l.length
 | [] => rfl
 | c :: r => by simp only [relaxL, List.length_cons, relaxL_length r]
theorem relaxE_length : ∀ l : List (List D), (relaxE l).length = l.length
 | [] => rfl
 | c :: r => by simp only [relaxE, List.length_cons, relaxE_length r]
mutual
theorem RepD.relax {F : Nat → Nat} {w : World} : ∀ (a : D) (v : Value), RepD F w a v → RepD F w (relax a) v
 | .agg cs, _, hr => by
  obtain ⟨l, rfl, hl⟩ := hr
  exact ⟨l, rfl, RepDL.relax cs _ hl⟩
 | .tup cs, _, hr => by
  obtain ⟨l, rfl, hl⟩ := hr
  exact ⟨l, rfl, RepDL.relax cs _ hl⟩
 | .vs es, _, hr => by
  obtain ⟨a, len, cap, rfl, hl, hc, he⟩ := hr
  refine ⟨a, len, cap, rfl, by rw [relaxE_length]; exact hl, hc, fun hne => ?_⟩
  obtain ⟨b, off, sz, ha, hs, hes⟩ := he (by rintro rfl; exact hne rfl)
  exact ⟨b, off, sz, ha, hs, RepEs.relax es b off sz hes⟩
 | .nils, _, hr => by
  have hx : _ = Value.slice none 0 0 := hr
  subst hx
  exact ⟨none, 0, 0, rfl, rfl, Nat.le_refl _, fun h => absurd rfl h⟩
 | .ref cs, _, hr => by
  obtain ⟨b, off, rfl, hc⟩ := hr
  exact ⟨b, off, rfl, RepAt.relax cs b off hc⟩
 | .bool _, _, hr => hr
 | .int _ _, _, hr => hr
 | .str _, _, hr => hr
 | .nilp, _, hr => hr
 | .mv _, _, hr => hr
 | .nilm, _, hr => hr
 | .clo _ _, _, hr => hr
 | .mth _ _, _, hr => hr
 | .nilf, _, hr => hr
 | .ifc _ _, _, hr => hr
 | .nili, _, hr => hr
theorem RepDL.relax {F : Nat → Nat} {w : World} : ∀ (cs : List D) (l : List Value), RepDL F w cs l → RepDL F w (relaxL cs) l
 | [], _, hr => hr
 | c :: r, _, hr => by
  obtain ⟨x, l', rfl, hc, hl⟩ := hr
  exact ⟨x, l', rfl, RepD.relax c x hc, RepDL.relax r l' hl⟩
theorem RepAt.relax {F : Nat → Nat} {w : World} : ∀ (cs : List D) (b off : Nat), RepAt F w b off cs → RepAt F w b off (relaxL cs)
 | [], _, _, _ => trivial
 | c :: r, b, off, hr => by
  obtain ⟨hf, ⟨x, hx, hc⟩, hl⟩ := hr
  exact ⟨hf, ⟨x, hx, RepD.relax c x hc⟩, RepAt.relax r b (off + 1) hl⟩
theorem RepEs.relax {F : Nat → Nat} {w : World} : ∀ (es : List (List D)) (b off sz : Nat), RepEs F w b off sz es → RepEs F w b off sz (relaxE es)
 | [], _, _, _, _ => trivial
 | e :: r, b, off, sz, hr => by
  obtain ⟨hn, he, hl⟩ := hr
  exact ⟨by rw [relaxL_length]; exact hn, RepAt.relax e b off he, RepEs.relax r b (off + sz) sz hl⟩
end
theorem FnV.relax {P : Program} {f : FuncId} {ds : List D} {r : D} (h : FnV P f ds r) {r' : D} (hr : PX.relax r = r') : FnV P f ds r' := by
 subst hr
 intro σ Y s
 obtain ⟨h1, h2⟩ := h Y s
 refine ⟨h1, fun cx hY L F vals w hh hv => (h2 cx hY L F vals w hh hv).mono ?_⟩
 rintro e w' ⟨x, rfl, v, h', s', L', F', ⟨⟨rfl, rfl⟩, rfl⟩, hh', hx, tr, hp⟩
 exact ⟨x, rfl, _, _, _, L', F', ⟨⟨rfl, rfl⟩, rfl⟩, hh', RepD.relax r x hx, tr, hp⟩
section
variable {P : Program} {σ : Type} {Y : Hd σ}
end
def FT.less (ft : FT) (id : Nat) : FT := ⟨ft.ks, cut ft.tb id⟩
theorem forceN_to {l : List Nat} {K : List Nat → Prop} (l' : List Nat) (h : l = l') (k : forceN l' K) : forceN l K := by subst h; exact k
theorem namesOfL_inj : ∀ l : List D, namesOfL (inj l) = []
 | [] => rfl
 | x :: r => by simp only [inj, namesOfL, namesOf, namesOfL_inj r]; rfl
theorem namesOfL_app : ∀ a b : List V, namesOfL (a ++ b) = namesOfL a ++ namesOfL b
 | [], b => rfl
 | x :: r, b => by simp only [List.cons_append, namesOfL, namesOfL_app r b, List.append_assoc]
theorem namesOfL_injL (l : List (List D)) (vs : List (List V)) : namesOfL (injL l ++ vs).flatten = namesOfL vs.flatten := by
 rw [List.flatten_append, namesOfL_app, injL_flatten, namesOfL_inj]; rfl
theorem get_enterE : ∀ (l : List V) (i k : Nat) (v : V), l[k]? = some v → get (enterE i l) (i + k) = some v
 | [], _, k, v, h => by simp at h
 | a :: r, i, 0, v, h => by
  simp at h
  subst h
  simp [enterE, get]
 | a :: r, i, k + 1, v, h => by
  have hne : Nat.beq i (i + (k + 1)) = false := by
   rw [Bool.eq_false_iff]; intro e
   have := Nat.eq_of_beq_eq_true e; omega
  simp only [enterE, get, hne]
  rw [show i + (k + 1) = i + 1 + k by omega]
  exact get_enterE r (i + 1) k v (by simpa using h)
theorem RepVL.of {yv : Option Nat} {L : Loc} {F : Nat → Nat} {w : World} : ∀ {l : List V} {vals : List Value}, l.length = vals.length → (∀ (k : Nat) (v : V), l[k]? = some v → ∃ x, vals[k]? = some x ∧ RepV yv L F w v x) → RepVL yv L F w l vals
 | [], [], _, _ => rfl
 | [], _ :: _, h, _ => by simp at h
 | _ :: _, [], h, _ => by simp at h
 | v :: l, x :: vals, h, hk => by
  obtain ⟨y, hy, hr⟩ := hk 0 v rfl
  simp at hy
  subst hy
  exact ⟨x, vals, rfl, hr, RepVL.of (by simpa using h) fun k u hu => by simpa using hk (k + 1) u (by simpa using hu)⟩
theorem RetA_wk {σ : Type} {l l' : List V} {h h' : Heap} {s : σ} {Q : V → Heap → σ → Prop} (hw : Wk (⟨enterE 0 l, h, s⟩ : St σ) ⟨enterE 0 l', h', s⟩) (hlen : l'.length = l.length) (hl : Nat.ble l.length 1000 = true) (hr : RetA l' h' s Q) : RetA l h s Q := by
 obtain ⟨hr⟩ := hr
 refine ⟨fun cx L F vals w hh hv => ?_⟩
 have hvl : vals.length = l.length := by simpa using hv.length
 have hl := Nat.le_of_ble_eq_true hl
 have hg : Good { cx with pρ := L.ρ, pκ := L.κ, base := [] } none [] L F ⟨enterE 0 l, h, s⟩ { tmps := vals.toArray, defers := [] } w := by
  refine ⟨⟨hh.hg, hh.csz, hh.fresh, hh.obj, hh.own, hh.inj⟩, fun t v ht => ?_, rfl, (fun b hb => by cases hb), List.nodup_nil, (fun l hl => by cases hl), fun _ _ => ⟨rfl, rfl⟩, by simp; omega⟩
  obtain ⟨k, hk, hv'⟩ := get_enter ht
  rw [Nat.zero_add] at hk; subst hk
  obtain ⟨x, hx, hrx⟩ := hv.get t hv'
  exact ⟨x, by simpa using hx, hrx⟩
 obtain ⟨L1, F1, hg1, tr⟩ := hw _ _ _ _ _ _ _ hg
 have hv1 : RepVL cx.yv L1 F1 w l' vals := by
  refine RepVL.of (by omega) fun k v hk => ?_
  obtain ⟨x, hx, hrx⟩ := hg1.env k v (by simpa using get_enterE l' 0 k v hk)
  exact ⟨x, by simpa using hx, hrx⟩
 have hh1 : HeapOk cx L1 F1 h' s w := ⟨hg1.heap.hg, hg1.heap.csz, hg1.heap.fresh, hg1.heap.obj, hg1.heap.own, hg1.heap.inj⟩
 obtain ⟨v, h2, L2, F2, q1, q2, q3, q4, q5⟩ := hr cx L1 F1 vals w hh1 hv1
 refine ⟨v, h2, L2, F2, q1, q2, q3, Tr.trans tr q4, fun i hi => ?_⟩
 obtain ⟨p1, p2⟩ := q5 i hi
 obtain ⟨p3, p4⟩ := hg1.pin i hi
 exact ⟨p1.trans p3, p2.trans p4⟩
theorem Good.frzPart2 {σ : Type} {cx : Cx σ} {r : Option Nat} {m : List Nat} {L : Loc} {F : Nat → Nat} {st : St σ} {a : Act} {w : World} (hg : Good cx r m L F st a w) {h : Heap} (hsub : SubT h st.heap) (n : Nat) :
  ∃ F1, Good cx r m L F1 (applyWs st (delL (keysOf h))) a w ∧ Tr F w F1 w ∧ ∀ args vals, RepVL cx.yv L F w args vals → RepVL cx.yv L F1 w (replL (objD h n) args) vals := by
 have hok : HeapOk cx L F h st.s w := (hg.sub (e := st.env) (h := h) (fun _ _ h => h) hsub).heap
 have tr := frzAll_tr hok
 have hF1C : ∀ b, cx.C st.s b → frzAll L F h w b = F b := fun b hb => frzAll_C hok hb
 have hF1o : ∀ id o, get st.heap id = some o → id ∉ keysOf h → Backed L id o → frzAll L F h w (L.ρ id) = F (L.ρ id) := by
  intro id o hi hn hb
  refine frzAll_other ?_
  rintro ⟨j, p, hj, hbj, hij⟩
  have := hg.heap.inj j id p o (hsub j p hj) hi hbj hb hij
  subst this
  exact hn (keysOf_mem hj)
 have hfr := frzAll_fresh hok
 have hobj := objD_t hok n
 generalize frzAll L F h w = F1 at tr hF1C hF1o hfr hobj
 rw [applyWs_delL]
 have hget : ∀ i o, get (cutL st.heap (keysOf h)) i = some o → i ∉ keysOf h ∧ get st.heap i = some o := by
  intro i o hi
  rw [get_cutL] at hi
  split at hi
  ·cases hi
  ·rename_i hn; exact ⟨hn, hi⟩
 refine ⟨F1, ⟨⟨cx.stable hg.heap.hg tr hfr fun b hb => ⟨rfl, hF1C b hb⟩, hg.heap.csz, hfr, ?_, ?_, ?_⟩, ?_, hg.dfr, hg.mks, hg.mnd, hg.lk, hg.pin, hg.tsz⟩, tr, fun args vals hr => RepVL.repl tr hobj args vals hr⟩
 ·intro i o hi
  exact RepO.mono tr i o (fun _ _ => ⟨rfl, rfl⟩) ⟨rfl, rfl⟩ (fun _ => rfl) (hg.heap.obj i o (hget i o hi).2)
 ·intro i o hi hb
  obtain ⟨hn, h0⟩ := hget i o hi
  rw [hF1o i o h0 hn hb]
  exact hg.heap.own i o h0 hb
 ·intro i j o p hi hj hbi hbj he
  exact hg.heap.inj i j o p (hget i o hi).2 (hget j p hj).2 hbi hbj he
 ·intro t v ht
  obtain ⟨x, hx, hr⟩ := hg.env t v ht
  exact ⟨x, hx, RepV.mono tr v x (fun _ _ => ⟨rfl, rfl⟩) hr⟩
end Go.PX
namespace Go.PX
open Go.RowKit
section
variable {κ : Type} [DecidableEq κ] (kd : κ → D)
def kvG (m : List (κ × Int)) : List (D × D) := m.map fun p => (kd p.1, .int .i64 p.2)
def getM : List (κ × Int) → κ → Option Int
 | [], _ => none
 | (u, x) :: r, t => if t = u then some x else getM r t
def putM : List (κ × Int) → κ → Int → List (κ × Int)
 | [], t, v => [(t, v)]
 | (u, x) :: r, t, v => if t = u then (t, v) :: r else (u, x) :: putM r t v
variable {kd}
theorem findG_none (hs : ∀ a b, sameD (kd a) (kd b) = some (decide (a = b))) {t : κ} : ∀ {m : List (κ × Int)}, getM m t = none → ∀ n, findD (kd t) (kvG kd m) n = some none
 | [], _, n => rfl
 | (u, x) :: r, h, n => by
  rw [getM] at h
  split at h
  ·cases h
  ·rename_i hu
   show (match sameD (kd t) (kd u) with
    | some true => some (some (n, D.int .i64 x))
    | some false => findD (kd t) (kvG kd r) (n + 1)
    | none => none) = _
   rw [hs, decide_eq_false hu]
   exact findG_none hs h (n + 1)
theorem findG_some (hs : ∀ a b, sameD (kd a) (kd b) = some (decide (a = b))) {t : κ} {v : Int} : ∀ {m : List (κ × Int)}, getM m t = some v → ∀ n, ∃ i, i < m.length ∧ findD (kd t) (kvG kd m) n = some (some (n + i, .int .i64 v)) ∧ (∀ y, (kvG kd m).set i (kd t, .int .i64 y) = kvG kd (putM m t y)) ∧ setKey (kvG kd m) i (kd t) = kvG kd m ∧ ∀ y, setVal (kvG kd m) i (.int .i64 y) = kvG kd (putM m t y)
 | [], h, n => by cases h
 | (u, x) :: r, h, n => by
  rw [getM] at h
  split at h
  ·rename_i hu
   cases h
   subst hu
   refine ⟨0, by simp, ?_, fun y => ?_, rfl, fun y => ?_⟩
   ·show (match sameD (kd t) (kd t) with
     | some true => some (some (n, D.int .i64 v))
     | some false => findD (kd t) (kvG kd r) (n + 1)
     | none => none) = _
    rw [hs, decide_eq_true rfl]; rfl
   ·rw [putM, if_pos rfl]; rfl
   ·rw [putM, if_pos rfl]; rfl
  ·rename_i hu
   obtain ⟨i, h0, h1, h2, h3, h4⟩ := findG_some hs h (n + 1)
   refine ⟨i + 1, by simp; omega, ?_, fun y => ?_, ?_, fun y => ?_⟩
   ·show (match sameD (kd t) (kd u) with
     | some true => some (some (n, D.int .i64 x))
     | some false => findD (kd t) (kvG kd r) (n + 1)
     | none => none) = _
    rw [hs, decide_eq_false hu]
    show findD (kd t) (kvG kd r) (n + 1) = _
    rw [h1, show n + 1 + i = n + (i + 1) by omega]
   ·rw [putM, if_neg hu]
    show (kd u, D.int .i64 x) :: (kvG kd r).set i (kd t, .int .i64 y) = (kd u, D.int .i64 x) :: kvG kd (putM r t y)
    rw [h2 y]
   ·show (kd u, D.int .i64 x) :: setKey (kvG kd r) i (kd t) = _
    rw [h3]; rfl
   ·rw [putM, if_neg hu]
    show (kd u, D.int .i64 x) :: setVal (kvG kd r) i (.int .i64 y) = (kd u, D.int .i64 x) :: kvG kd (putM r t y)
    rw [h4 y]
theorem putG_none {t : κ} (y : Int) : ∀ {m : List (κ × Int)}, getM m t = none → kvG kd m ++ [(kd t, .int .i64 y)] = kvG kd (putM m t y)
 | [], _ => rfl
 | (u, x) :: r, h => by
  rw [getM] at h
  split at h
  ·cases h
  ·rename_i hu
   rw [putM, if_neg hu]
   show (kd u, D.int .i64 x) :: (kvG kd r ++ [(kd t, .int .i64 y)]) = _
   rw [putG_none y h]; rfl
theorem getM_put (m : List (κ × Int)) (t u : κ) (y : Int) : getM (putM m t y) u = if u = t then some y else getM m u := by
 induction m with
 | nil => rfl
 | cons p r ih =>
  obtain ⟨w, x⟩ := p
  rw [putM]
  split
  ·rename_i h
   subst h
   simp only [getM]
   split <;> rfl
  ·rename_i h
   simp only [getM]
   split
   ·rename_i h2
    subst h2
    rw [if_neg (fun e => h e.symm)]
   ·exact ih
end
end Go.PX
namespace Go.PX
open Go.RowKit
section
variable {P : Program} {T : Tys} {σ : Type} {Y : Hd σ} {cx : Cx σ} {r : Option Nat} {m : List Nat}
variable {ft : FT}
end
end Go.PX
namespace Go.PX
open Go.RowKit
section
variable {σ : Type} {cx : Cx σ} {L : Loc} {F : Nat → Nat} {s : σ} {w : World}
end
section
variable {P : Program} {T : Tys} {ft : FT} {α σ : Type} {Y : Hd σ}
end
end Go.PX
namespace Go.PX
open Go.RowKit
section
variable {P : Program} {T : Tys} {ft : FT} {α σ : Type} {Y : Hd σ}
end
end Go.PX
namespace Go.PX
open Go.Proofs
structure Pt where
 x : Int
 y : Int
def Pt.sub (a b : Pt) : Pt := ⟨a.x - b.x, a.y - b.y⟩
def leftF (o w : Pt) : Int := o.x * w.y - o.y * w.x
def dotF (a b : Pt) : Int := a.x * b.x + a.y * b.y
end Go.PX
namespace Go.PX
open Go.Proofs
def Pt.cells (p : Pt) : List D := [i64 p.x, i64 p.y]
def Pt.d (p : Pt) : D := .agg p.cells
def ptsD (l : List Pt) : D := .vs (l.map Pt.cells)
structure Pin (m : Int) (p : Pt) : Prop where
 x : -m ≤ p.x ∧ p.x ≤ m
 y : -m ≤ p.y ∧ p.y ≤ m
theorem Pin.mono {m n : Int} {p : Pt} (h : Pin m p) (hmn : m ≤ n) : Pin n p := ⟨by have := h.x; omega, by have := h.y; omega⟩
theorem Pin.sub {m n : Int} {a b : Pt} (ha : Pin m a) (hb : Pin n b) : Pin (m + n) (a.sub b) := by
 have h1 := ha.x
 have h2 := ha.y
 have h3 := hb.x
 have h4 := hb.y
 exact ⟨by show -(m + n) ≤ a.x - b.x ∧ a.x - b.x ≤ m + n; omega, by show -(m + n) ≤ a.y - b.y ∧ a.y - b.y ≤ m + n; omega⟩
theorem mul_big {a b : Int} (ha : -1000000000 ≤ a ∧ a ≤ 1000000000) (hb : -1000000000 ≤ b ∧ b ≤ 1000000000) : -1000000000000000000 ≤ a * b ∧ a * b ≤ 1000000000000000000 := by
 have := mul_bd (a := a) (b := b) 1000000000 1000000000 (by omega) (by omega)
 simpa using this
theorem ch81 (a b : Pt) (ha : Pin 1000000000000 a) (hb : Pin 1000000000000 b) : FnV Tryz.prog 81 [a.d, b.d] (b.sub a).d := by
 refine fnV_of mixed tysOk Tryz.func81 rfl (ft := ft81) 2 (by decide +kernel) (by rfl) fun {σ} Y st => ?_
 conv=>whnf
 have h1 := ha.x
 have h2 := ha.y
 have h3 := hb.x
 have h4 := hb.y
 refine arith_in (wrap_i64 (by (try dsimp only); omega)) ?_
 conv=>whnf
 refine arith_in (wrap_i64 (by (try dsimp only); omega)) ?_
 conv=>whnf
 exact RetA_view 0 rfl ⟨⟨rfl, rfl⟩, rfl⟩
theorem ch104 (o w : Pt) (ho : Pin 1000000000 o) (hw : Pin 1000000000 w) : FnV Tryz.prog 104 [o.d, w.d] (i64 (leftF o w)) := by
 refine fnV_of mixed tysOk Tryz.func104 rfl (ft := ft104) 2 (by decide +kernel) (by rfl) fun {σ} Y st => ?_
 conv=>whnf
 have h1 := mul_big ho.x hw.y
 have h2 := mul_big ho.y hw.x
 refine arith_in (wrap_i64 (by (try dsimp only); omega)) ?_
 conv=>whnf
 refine arith_in (wrap_i64 (by (try dsimp only); omega)) ?_
 conv=>whnf
 refine arith_in (wrap_i64 (by (try dsimp only); omega)) ?_
 conv=>whnf
 exact RetA_view 0 rfl ⟨⟨rfl, rfl⟩, rfl⟩
theorem ch126 (o w : Pt) (ho : Pin 1000000000 o) (hw : Pin 1000000000 w) : FnV Tryz.prog 126 [o.d, w.d] (i64 (dotF o w)) := by
 refine fnV_of mixed tysOk Tryz.func126 rfl (ft := ft126) 2 (by decide +kernel) (by rfl) fun {σ} Y st => ?_
 conv=>whnf
 have h1 := mul_big ho.x hw.x
 have h2 := mul_big ho.y hw.y
 refine arith_in (wrap_i64 (by (try dsimp only); omega)) ?_
 conv=>whnf
 refine arith_in (wrap_i64 (by (try dsimp only); omega)) ?_
 conv=>whnf
 refine arith_in (wrap_i64 (by (try dsimp only); omega)) ?_
 conv=>whnf
 exact RetA_view 0 rfl ⟨⟨rfl, rfl⟩, rfl⟩
theorem ch123 (l : List Pt) (g : FuncId) (caps : List D) (p : Pt → Bool) (hl : l.length < 4000000000000000000) (hp : ∀ x ∈ l, FnV Tryz.prog g (.agg x.cells :: caps) (.bool (p x))) :
  FnV Tryz.prog 123 [ptsD l, .clo g caps] (i64 (indexOf p l 0)) := by
 refine fnV_of mixed tysOk Tryz.func123 rfl (ft := ft123) 2 (by decide +kernel) (by rfl) fun {σ} Y st => ?_
 conv=>whnf
 refine LoopA_i (T := tys) tysOk (by exact drawsB_spec mixed tysOk (by decide +kernel)) l (fun i (_ : Unit) => ⟨[(0, .d (ptsD l)), (1, .d (.clo g caps)), (7, .d (i64 l.length)), (8, .d (i64 i))], [], st⟩) (fun i r _ => indexOf p l 0 = indexOf p r i) () (Wk.sub ⟨(by first | rfl | (simp only [List.length_map]; rfl) | simp [PX.get]), (by first | rfl | (simp only [List.length_map]; rfl) | simp [PX.get]), (by first | rfl | (simp only [List.length_map]; rfl) | simp [PX.get]), (by first | rfl | (simp only [List.length_map]; rfl) | simp [PX.get]), trivial⟩ trivial) rfl ?_ ?_
 ·intro i x r _ hx hi hr he
  rw [indexOf] at he
  conv=>whnf
  refine brk_i (fun _ => ?_) (fun h => absurd hi (by simpa using h))
  conv=>whnf
  refine elemK_nat hx ?_
  conv=>whnf
  refine CallA_v (hp x (List.mem_of_getElem? hx)) rfl rfl ?_
  conv=>whnf
  refine brk_i (fun h1 => ?_) (fun h1 => ?_)
  ·conv=>whnf
   rw [he, if_pos h1]
   exact RetA_view 0 rfl ⟨⟨rfl, rfl⟩, rfl⟩
  ·rw [if_neg (by simp [h1])] at he
   conv=>whnf
   refine arith_in (wrap_i64 (by (try dsimp only); omega)) ?_
   conv=>whnf
   exact ⟨(), he, (Wk.sub ⟨(by first | rfl | (simp only [List.length_map]; rfl) | simp [PX.get]), (by first | rfl | (simp only [List.length_map]; rfl) | simp [PX.get]), (by first | rfl | (simp only [List.length_map]; rfl) | simp [PX.get]), (by first | rfl | (simp only [List.length_map]; rfl) | simp [PX.get]), trivial⟩ trivial)⟩
 ·intro _ he
  conv=>whnf
  refine brk_i (fun h => absurd h (by simp)) (fun _ => ?_)
  conv=>whnf
  rw [he]
  exact RetA_view 0 rfl ⟨⟨rfl, rfl⟩, rfl⟩
theorem ch101 (l : List Pt) (g : FuncId) (caps : List D) (p : Pt → Bool) (hl : l.length < 4000000000000000000) (hp : ∀ x ∈ l, FnV Tryz.prog g (.agg x.cells :: caps) (.bool (p x))) :
  FnV Tryz.prog 101 [ptsD l, .clo g caps] (.bool (l.any p)) := by
 refine fnV_of mixed tysOk Tryz.func101 rfl (ft := ft101) 2 (by decide +kernel) (by rfl) fun {σ} Y st => ?_
 conv=>whnf
 refine CallA_v (ch123 l g caps p hl hp) rfl rfl ?_
 conv=>whnf
 refine RetA_view 0 rfl ⟨⟨?_, rfl⟩, rfl⟩
 rw [← indexOf_any p l 0 (by omega)]; rfl
theorem fn51_4 (lo hi a b c d : Int) : FnV Tryz.prog 58 [i64 lo, i64 hi, .vs [[i64 a], [i64 b], [i64 c], [i64 d]]] (.bool (!((inB a lo hi && inB b lo hi) && (inB c lo hi && inB d lo hi)))) := by
 exact FnV.cast (fn51 lo hi [a, b, c, d] (by simp)) (by simp only [List.any_cons, List.any_nil, out_eq]; cases inB a lo hi <;> cases inB b lo hi <;> cases inB c lo hi <;> cases inB d lo hi <;> rfl)
def withinB (m : Int) (p : Pt) : Bool := inB p.x (-m) m && inB p.y (-m) m
theorem within_iff {m : Int} {p : Pt} : withinB m p = true ↔ Pin m p := by
 unfold withinB
 rw [Bool.and_eq_true, inB_iff, inB_iff]
 exact ⟨fun ⟨a, b⟩ => ⟨a, b⟩, fun ⟨a, b⟩ => ⟨a, b⟩⟩
theorem ch102 (p : Pt) (m : Int) (hm : 0 ≤ m ∧ m ≤ 1000000000) : FnV Tryz.prog 102 [.agg p.cells, .ref [i64 m]] (.bool (!withinB m p)) := by
 refine fnV_of mixed tysOk Tryz.func102 rfl (ft := ft102) 2 (by decide +kernel) (by rfl) fun {σ} Y st => ?_
 conv=>whnf
 refine arith_to ((-m)) (by (try dsimp only); omega) (wrap_i64 (by (try dsimp only); omega)) ?_
 conv=>whnf
 refine CallA_view (fn51_2 (-m) m p.x p.y) rfl 1 rfl ?_
 conv=>whnf
 exact RetA_view 0 rfl ⟨⟨rfl, rfl⟩, rfl⟩
theorem ch63 (m : Int) (l : List Pt) (hm : 0 ≤ m ∧ m ≤ 1000000000) (hl : l.length < 4000000000000000000) : FnV Tryz.prog 63 [i64 m, ptsD l] (.bool (l.any fun p => !withinB m p)) := by
 refine fnV_of mixed tysOk Tryz.func63 rfl (ft := ft63) 2 (by decide +kernel) (by rfl) fun {σ} Y st => ?_
 conv=>whnf
 refine CallA_view (ds := [ptsD l, .clo 102 [.ref [i64 m]]]) (ch101 l 102 [.ref [i64 m]] (fun p => !withinB m p) hl fun p _ => ch102 p m hm) rfl 2 rfl ?_
 conv=>whnf
 exact RetA_view 0 rfl ⟨⟨rfl, rfl⟩, rfl⟩
structure Box where
 x : Span
 y : Span
 deriving DecidableEq
def Box.cells (b : Box) : List D := [i64 b.x.lo, i64 b.x.hi, i64 b.y.lo, i64 b.y.hi]
def Box.d (b : Box) : D := .agg b.cells
def boxE (m : Int) (b : Box) : Int :=
 if (inB b.x.lo (-m) m && inB b.x.hi (-m) m) && (inB b.y.lo (-m) m && inB b.y.hi (-m) m) then (if inB (b.x.hi - b.x.lo) 0 40 && inB (b.y.hi - b.y.lo) 0 40 then 0 else 2) else 7
theorem ch85 (b : Box) (m : Int) (hm : 0 ≤ m ∧ m ≤ 1000000000) : FnV Tryz.prog 85 [b.d, i64 m] (i64 (boxE m b)) := by
 refine fnV_of mixed tysOk Tryz.func85 rfl (ft := ft85) 2 (by decide +kernel) (by rfl) fun {σ} Y st => ?_
 conv=>whnf
 refine arith_to ((-m)) (by (try dsimp only); omega) (wrap_i64 (by (try dsimp only); omega)) ?_
 conv=>whnf
 refine CallA_view (fn51_4 (-m) m b.x.lo b.x.hi b.y.lo b.y.hi) rfl 1 rfl ?_
 conv=>whnf
 unfold boxE
 cases h1 : (inB b.x.lo (-m) m && inB b.x.hi (-m) m) && (inB b.y.lo (-m) m && inB b.y.hi (-m) m) with
 | false =>
  conv=>whnf
  exact RetA_view 0 rfl ⟨⟨rfl, rfl⟩, rfl⟩
 | true =>
  simp only [Bool.and_eq_true, inB_iff] at h1
  conv=>whnf
  refine arith_in (wrap_i64 (by (try dsimp only); omega)) ?_
  conv=>whnf
  refine arith_in (wrap_i64 (by (try dsimp only); omega)) ?_
  conv=>whnf
  refine CallA_view (fn51_2 0 40 (b.x.hi - b.x.lo) (b.y.hi - b.y.lo)) rfl 1 rfl ?_
  cases h2 : inB (b.x.hi - b.x.lo) 0 40 && inB (b.y.hi - b.y.lo) 0 40 with
  | false =>
   conv=>whnf
   exact RetA_view 0 rfl ⟨⟨rfl, rfl⟩, rfl⟩
  | true =>
   conv=>whnf
   exact RetA_view 0 rfl ⟨⟨rfl, rfl⟩, rfl⟩
end Go.PX
namespace Go.PX
open Go.Proofs
structure Paint where
 day : Int
 colour : Int
 deriving DecidableEq
def Paint.cells (p : Paint) : List D := [i64 p.day, i64 p.colour]
def paintsD (l : List Paint) : D := .vs (l.map Paint.cells)
structure Mark where
 name : ByteArray
 at' : Pt
 paints : List Paint
def Mark.cells (m : Mark) : List D := [.str m.name, i64 m.at'.x, i64 m.at'.y, paintsD m.paints]
def Mark.d (m : Mark) : D := .agg m.cells
def marksD (l : List Mark) : D := .vs (l.map Mark.cells)
structure Sand where
 name : ByteArray
 corners : List Pt
 moves : Box
def Sand.cells (s : Sand) : List D := [.str s.name, ptsD s.corners, i64 s.moves.x.lo, i64 s.moves.x.hi, i64 s.moves.y.lo, i64 s.moves.y.hi]
def Sand.d (s : Sand) : D := .agg s.cells
def sandsD (l : List Sand) : D := .vs (l.map Sand.cells)
structure Cht where
 marks : List Mark
 sands : List Sand
def Cht.cells (c : Cht) : List D := [marksD c.marks, sandsD c.sands]
def Cht.d (c : Cht) : D := .agg c.cells
def paintL : Int → List Paint → Int
 | _, [] => 0
 | last, p :: r => if inB p.day 0 40000 && inB p.colour 0 4 then (if p.day ≤ last then 2 else paintL p.day r) else 7
def paintE (l : List Paint) : Int := if inB l.length 1 4 then paintL (-1) l else 3
set_option maxHeartbeats 1000000 in
theorem ch64 (l : List Paint) : FnV Tryz.prog 64 [paintsD l] (i64 (paintE l)) := by
 refine fnV_of mixed tysOk Tryz.func64 rfl (ft := ft64) 1 (by decide +kernel) (by rfl) fun {σ} Y st => ?_
 conv=>whnf
 refine CallA_view (fn51_1 1 4 l.length) rfl 1 (by simp; rfl) ?_
 unfold paintE
 cases h : inB (l.length : Int) 1 4 with
 | false =>
  conv=>whnf
  exact RetA_view 0 rfl ⟨⟨rfl, rfl⟩, rfl⟩
 | true =>
  rw [inB_iff] at h
  conv=>whnf
  refine LoopA_i (T := tys) tysOk (by exact drawsB_spec mixed tysOk (by decide +kernel)) l (fun i (last : Int) => ⟨[(2, .d (i64 0)), (3, .d (i64 last)), (10, .d (paintsD l)), (11, .d (i64 l.length)), (12, .d (i64 i))], [], st⟩) (fun i r last => paintL (-1) l = paintL last r) (-1) (Wk.sub ⟨(by first | rfl | (simp only [List.length_map]; rfl) | simp [PX.get]), (by first | rfl | (simp only [List.length_map]; rfl) | simp [PX.get]), (by first | rfl | (simp only [List.length_map]; rfl) | simp [PX.get]), (by first | rfl | (simp only [List.length_map]; rfl) | simp [PX.get]), (by first | rfl | (simp only [List.length_map]; rfl) | simp [PX.get]), trivial⟩ trivial) rfl ?_ ?_
  ·rintro i p r last hp hi hr he
   rw [paintL] at he
   conv=>whnf
   refine brk_i (fun _ => ?_) (fun h => absurd hi (by simpa using h))
   conv=>whnf
   refine elemK_nat hp ?_
   conv=>whnf
   refine CallA_view (fn51_1 0 40000 p.day) rfl 1 rfl ?_
   cases h1 : inB p.day 0 40000 with
   | false =>
    rw [h1, Bool.false_and, if_neg (by simp)] at he
    rw [he]
    conv=>whnf
    exact RetA_view 0 rfl ⟨⟨rfl, rfl⟩, rfl⟩
   | true =>
    conv=>whnf
    refine CallA_view (fn51_1 0 4 p.colour) rfl 1 rfl ?_
    cases h2 : inB p.colour 0 4 with
    | false =>
     rw [h1, h2, Bool.and_false, if_neg (by simp)] at he
     rw [he]
     conv=>whnf
     exact RetA_view 0 rfl ⟨⟨rfl, rfl⟩, rfl⟩
    | true =>
     rw [h1, h2, Bool.and_true, if_pos rfl] at he
     conv=>whnf
     refine brk_i (fun h3 => ?_) (fun h3 => ?_)
     ·rw [if_pos (of_decide_eq_true h3)] at he
      rw [he]
      conv=>whnf
      exact RetA_view 0 rfl ⟨⟨rfl, rfl⟩, rfl⟩
     ·rw [if_neg (of_decide_eq_false h3)] at he
      conv=>whnf
      refine arith_in (wrap_i64 (by (try dsimp only); omega)) ?_
      conv=>whnf
      exact ⟨p.day, he, (Wk.sub ⟨(by first | rfl | (simp only [List.length_map]; rfl) | simp [PX.get]), (by first | rfl | (simp only [List.length_map]; rfl) | simp [PX.get]), (by first | rfl | (simp only [List.length_map]; rfl) | simp [PX.get]), (by first | rfl | (simp only [List.length_map]; rfl) | simp [PX.get]), (by first | rfl | (simp only [List.length_map]; rfl) | simp [PX.get]), trivial⟩ trivial)⟩
  ·rintro last he
   conv=>whnf
   refine brk_i (fun h => absurd h (by simp)) (fun _ => ?_)
   conv=>whnf
   rw [he]
   exact RetA_view 0 rfl ⟨⟨rfl, rfl⟩, rfl⟩
def quarterL : List Pt := [⟨0, 1000⟩, ⟨195, 981⟩, ⟨383, 924⟩, ⟨556, 831⟩, ⟨707, 707⟩, ⟨831, 556⟩, ⟨924, 383⟩, ⟨981, 195⟩]
def quarterC : List D := [i64 0, i64 1000, i64 195, i64 981, i64 383, i64 924, i64 556, i64 831, i64 707, i64 707, i64 831, i64 556, i64 924, i64 383, i64 981, i64 195]
theorem ch59 : FnV Tryz.prog 59 [] (.agg quarterC) := by
 refine fnV_of mixed tysOk Tryz.func59 rfl (ft := ft59) 0 (by decide +kernel) (by rfl) fun {σ} Y st => ?_
 conv=>whnf
 exact RetA_view 0 rfl ⟨⟨rfl, rfl⟩, rfl⟩
def rotF (v : Pt) : Pt := ⟨v.y, -v.x⟩
def rotN : Nat → Pt → Pt
 | 0, v => v
 | n + 1, v => rotN n (rotF v)
def vecF (p : Int) : Pt := rotN (p / 8).toNat ((quarterL[(p % 8).toNat]?).getD ⟨0, 0⟩)
def vecE (p : Int) : Int := if inB p 0 31 then 0 else 7
def vecV (p : Int) : Pt := if inB p 0 31 then vecF p else ⟨0, 0⟩
theorem getQ {k : Nat} (hk : k < 8) {t : TyI} (ht : t.isAgg = true) (hs : t.size = 2) {K : V → Prop} (h : K (.d ((quarterL[k]?).getD ⟨0, 0⟩).d)) : Cells.getK t (.dd quarterC) (k * 2) K := by
 unfold Cells.getK
 rw [ht, hs]
 have e : ∀ k, k < 8 → Nat.ble (k * 2 + 2) (Cells.dd quarterC).len = true ∧ (Cells.dd quarterC).sub (k * 2) 2 = .d ((quarterL[k]?).getD ⟨0, 0⟩).d := by
  intro k hk
  match k, hk with
  | 0, _ => exact ⟨rfl, rfl⟩
  | 1, _ => exact ⟨rfl, rfl⟩
  | 2, _ => exact ⟨rfl, rfl⟩
  | 3, _ => exact ⟨rfl, rfl⟩
  | 4, _ => exact ⟨rfl, rfl⟩
  | 5, _ => exact ⟨rfl, rfl⟩
  | 6, _ => exact ⟨rfl, rfl⟩
  | 7, _ => exact ⟨rfl, rfl⟩
 obtain ⟨e1, e2⟩ := e k hk
 show chk _ _
 rw [e2]
 exact chk_i e1 h
theorem quarter_in {k : Nat} (hk : k < 8) : Pin 1000 ((quarterL[k]?).getD ⟨0, 0⟩) := by
 match k, hk with
 | 0, _ => exact ⟨by decide, by decide⟩
 | 1, _ => exact ⟨by decide, by decide⟩
 | 2, _ => exact ⟨by decide, by decide⟩
 | 3, _ => exact ⟨by decide, by decide⟩
 | 4, _ => exact ⟨by decide, by decide⟩
 | 5, _ => exact ⟨by decide, by decide⟩
 | 6, _ => exact ⟨by decide, by decide⟩
 | 7, _ => exact ⟨by decide, by decide⟩
set_option maxHeartbeats 1000000 in
theorem ch16 (p : Int) : FnV Tryz.prog 16 [i64 p] (.tup [(vecV p).d, i64 (vecE p)]) := by
 refine fnV_of mixed tysOk Tryz.func16 rfl (ft := ft16) 1 (by decide +kernel) (by rfl) fun {σ} Y st => ?_
 conv=>whnf
 refine CallA_view (fn51_1 0 31 p) rfl 1 rfl ?_
 unfold vecV vecE
 cases h : inB p 0 31 with
 | false =>
  conv=>whnf
  exact RetA_view 0 rfl ⟨⟨rfl, rfl⟩, rfl⟩
 | true =>
  rw [inB_iff] at h
  conv=>whnf
  refine CallA_v (ch59) rfl rfl ?_
  conv=>whnf
  obtain ⟨k, hk, hk8⟩ : ∃ k : Nat, p.tmod 8 = k ∧ k < 8 := ⟨(p.tmod 8).toNat, by
   rw [Int.tmod_eq_emod_of_nonneg h.1]; omega, by rw [Int.tmod_eq_emod_of_nonneg h.1]; omega⟩
  obtain ⟨m, hm, hm4⟩ : ∃ m : Nat, p.tdiv 8 = m ∧ m < 4 := ⟨(p.tdiv 8).toNat, by
   rw [Int.tdiv_eq_ediv_of_nonneg h.1]; omega, by rw [Int.tdiv_eq_ediv_of_nonneg h.1]; omega⟩
  have hv : vecF p = rotN m ((quarterL[k]?).getD ⟨0, 0⟩) := by
   rw [Int.tmod_eq_emod_of_nonneg h.1] at hk
   rw [Int.tdiv_eq_ediv_of_nonneg h.1] at hm
   unfold vecF
   rw [hk, hm, Int.toNat_natCast, Int.toNat_natCast]
  have hq := quarter_in hk8
  rw [hk]
  refine brk_i (fun _ => ?_) (fun h2 => absurd h2 (by simp; omega))
  refine getQ hk8 rfl rfl ?_
  generalize (quarterL[k]?).getD ⟨0, 0⟩ = q at hv hq ⊢
  conv=>whnf
  refine arith_to (m : Int) hm (wrap_i64 (by omega)) ?_
  conv=>whnf
  refine LoopA_i (T := tys) tysOk (by exact drawsB_spec mixed tysOk (by decide +kernel)) (List.range m) (fun i (v : Pt) => ⟨[(2, .ptr 2 0), (3, .d (i64 0)), (4, .ptr 4 0), (14, .d (i64 m)), (15, .d (i64 i))], [(2, .box (.dd [i64 0, i64 0])), (4, .box (.dd v.cells))], st⟩)
   (fun i r v => vecF p = rotN r.length v ∧ Pin 1000 v) q (Wk.sub ⟨(by first | rfl | (simp only [List.length_map]; rfl) | simp [PX.get]), (by first | rfl | (simp only [List.length_map]; rfl) | simp [PX.get]), (by first | rfl | (simp only [List.length_map]; rfl) | simp [PX.get]), (by first | rfl | (simp only [List.length_map]; rfl) | simp [PX.get]), (by first | rfl | (simp only [List.length_map]; rfl) | simp [PX.get]), trivial⟩ ⟨(by first | rfl | (simp only [List.length_map]; rfl) | simp [PX.get]), (by first | rfl | (simp only [List.length_map]; rfl) | simp [PX.get]), trivial⟩) ⟨by rw [hv]; simp, hq⟩ ?_ ?_
  ·rintro i y r v hy hi hr ⟨he, hvp⟩
   have hx := hvp.x
   have hy2 := hvp.y
   have him : i < m := by simpa using hi
   conv=>whnf
   refine brk_i (fun _ => ?_) (fun h => absurd him (by have := of_decide_eq_false h; omega))
   conv=>whnf
   refine arith_to ((-v.x)) (by (try dsimp only); omega) (wrap_i64 (by (try dsimp only); omega)) ?_
   conv=>whnf
   refine arith_in (wrap_i64 (by (try dsimp only); omega)) ?_
   conv=>whnf
   exact ⟨rotF v, ⟨by rw [he]; rfl, ⟨hy2, by show -1000 ≤ -v.x ∧ -v.x ≤ 1000; omega⟩⟩, (Wk.sub ⟨(by first | rfl | (simp only [List.length_map]; rfl) | simp [PX.get]), (by first | rfl | (simp only [List.length_map]; rfl) | simp [PX.get]), (by first | rfl | (simp only [List.length_map]; rfl) | simp [PX.get]), (by first | rfl | (simp only [List.length_map]; rfl) | simp [PX.get]), (by first | rfl | (simp only [List.length_map]; rfl) | simp [PX.get]), trivial⟩ ⟨(by first | rfl | (simp only [List.length_map]; rfl) | simp [PX.get]), (by first | rfl | (simp only [List.length_map]; rfl) | simp [PX.get]), trivial⟩)⟩
  ·rintro v ⟨he, _⟩
   have he : vecF p = v := he
   rw [he]
   conv=>whnf
   refine brk_i (fun h => absurd h (by simp)) (fun _ => ?_)
   conv=>whnf
   exact RetA_view 0 rfl ⟨⟨rfl, rfl⟩, rfl⟩
end Go.PX
namespace Go.PX
open Go.Proofs Go.RowKit Go.ChangeShapes
theorem c3 : Tryz.prog.cellsOf 3 = 1 := by kernel_rfl
theorem c9 : Tryz.prog.cellsOf 9 = 1 := by kernel_rfl
theorem c22 : Tryz.prog.cellsOf 22 = 1 := by kernel_rfl
theorem c23 : Tryz.prog.cellsOf 23 = 1 := by kernel_rfl
theorem c25 : Tryz.prog.cellsOf 25 = 2 := by kernel_rfl
theorem c27 : Tryz.prog.cellsOf 27 = 2 := by kernel_rfl
theorem c46 : Tryz.prog.cellsOf 46 = 2 := by kernel_rfl
theorem c48 : Tryz.prog.cellsOf 48 = 4 := by kernel_rfl
theorem c68 : Tryz.prog.cellsOf 68 = 1 := by kernel_rfl
theorem c70 : Tryz.prog.cellsOf 70 = 6 := by kernel_rfl
theorem c93 : Tryz.prog.cellsOf 93 = 1 := by kernel_rfl
theorem c95 : Tryz.prog.cellsOf 95 = 4 := by kernel_rfl
theorem c103 : Tryz.prog.cellsOf 103 = 2 := by kernel_rfl
section
variable (W : World)
theorem rdInt : Rd Tryz.prog W 3 fun ds => ∃ n, ds = [i64 n] := Rd.int Tryz.underlying3
theorem rdStr : Rd Tryz.prog W 9 fun ds => ∃ s, ds = [.str s] := Rd.str Tryz.underlying9
theorem rdPt : Rd Tryz.prog W 27 fun ds => ∃ p : Pt, ds = p.cells :=
 (Rd.struct Tryz.underlying27 c27 (.cons rfl c3 (rdInt W) (.cons rfl c3 (rdInt W) (.nil _)))).mono fun ds h => by
  obtain ⟨_, _, rfl, ⟨a, rfl⟩, _, _, rfl, ⟨b, rfl⟩, rfl⟩ := h
  exact ⟨⟨a, b⟩, rfl⟩
theorem rdPaint : Rd Tryz.prog W 103 fun ds => ∃ p : Paint, ds = p.cells :=
 (Rd.struct Tryz.underlying103 c103 (.cons rfl c3 (rdInt W) (.cons rfl c3 (rdInt W) (.nil _)))).mono fun ds h => by
  obtain ⟨_, _, rfl, ⟨a, rfl⟩, _, _, rfl, ⟨b, rfl⟩, rfl⟩ := h
  exact ⟨⟨a, b⟩, rfl⟩
theorem rdSpan : Rd Tryz.prog W 46 fun ds => ∃ a b, ds = [i64 a, i64 b] :=
 (Rd.struct Tryz.underlying46 c46 (.cons rfl c3 (rdInt W) (.cons rfl c3 (rdInt W) (.nil _)))).mono fun ds h => by
  obtain ⟨_, _, rfl, ⟨a, rfl⟩, _, _, rfl, ⟨b, rfl⟩, rfl⟩ := h
  exact ⟨a, b, rfl⟩
theorem rdBox : Rd Tryz.prog W 48 fun ds => ∃ b : Box, ds = b.cells :=
 (Rd.struct Tryz.underlying48 c48 (.cons rfl c46 (rdSpan W) (.cons rfl c46 (rdSpan W) (.nil _)))).mono fun ds h => by
  obtain ⟨_, _, rfl, ⟨a, b, rfl⟩, _, _, rfl, ⟨c, d, rfl⟩, rfl⟩ := h
  exact ⟨⟨⟨a, b⟩, ⟨c, d⟩⟩, rfl⟩
theorem rdPaints : Rd Tryz.prog W 93 fun ds => ∃ l : List Paint, ds = [paintsD l] :=
 (Rd.slice Tryz.underlying93 c103 (by omega) (rdPaint W)).mono fun ds h => by
  obtain ⟨es, rfl, he⟩ := h
  obtain ⟨l, rfl⟩ := list_of (f := Paint.cells) (fun _ h => h) he
  exact ⟨l, rfl⟩
theorem rdPts : Rd Tryz.prog W 68 fun ds => ∃ l : List Pt, ds = [ptsD l] :=
 (Rd.slice Tryz.underlying68 c27 (by omega) (rdPt W)).mono fun ds h => by
  obtain ⟨es, rfl, he⟩ := h
  obtain ⟨l, rfl⟩ := list_of (f := Pt.cells) (fun _ h => h) he
  exact ⟨l, rfl⟩
theorem rdMark : Rd Tryz.prog W 95 fun ds => ∃ m : Mark, ds = m.cells :=
 (Rd.struct Tryz.underlying95 c95 (.cons rfl c9 (rdStr W) (.cons rfl c27 (rdPt W) (.cons rfl c93 (rdPaints W) (.nil _))))).mono fun ds h => by
  obtain ⟨_, _, rfl, ⟨a, rfl⟩, _, _, rfl, ⟨b, rfl⟩, _, _, rfl, ⟨c, rfl⟩, rfl⟩ := h
  exact ⟨⟨a, b, c⟩, rfl⟩
theorem rdSand : Rd Tryz.prog W 70 fun ds => ∃ m : Sand, ds = m.cells :=
 (Rd.struct Tryz.underlying70 c70 (.cons rfl c9 (rdStr W) (.cons rfl c68 (rdPts W) (.cons rfl c48 (rdBox W) (.nil _))))).mono fun ds h => by
  obtain ⟨_, _, rfl, ⟨a, rfl⟩, _, _, rfl, ⟨b, rfl⟩, _, _, rfl, ⟨c, rfl⟩, rfl⟩ := h
  exact ⟨⟨a, b, c⟩, rfl⟩
theorem rdMarks : Rd Tryz.prog W 22 fun ds => ∃ l : List Mark, ds = [marksD l] :=
 (Rd.slice Tryz.underlying22 c95 (by omega) (rdMark W)).mono fun ds h => by
  obtain ⟨es, rfl, he⟩ := h
  obtain ⟨l, rfl⟩ := list_of (f := Mark.cells) (fun _ h => h) he
  exact ⟨l, rfl⟩
theorem rdSands : Rd Tryz.prog W 23 fun ds => ∃ l : List Sand, ds = [sandsD l] :=
 (Rd.slice Tryz.underlying23 c70 (by omega) (rdSand W)).mono fun ds h => by
  obtain ⟨es, rfl, he⟩ := h
  obtain ⟨l, rfl⟩ := list_of (f := Sand.cells) (fun _ h => h) he
  exact ⟨l, rfl⟩
theorem rdCht : Rd Tryz.prog W 25 fun ds => ∃ c : Cht, ds = c.cells :=
 (Rd.struct Tryz.underlying25 c25 (.cons rfl c22 (rdMarks W) (.cons rfl c23 (rdSands W) (.nil _)))).mono fun ds h => by
  obtain ⟨_, _, rfl, ⟨a, rfl⟩, _, _, rfl, ⟨b, rfl⟩, rfl⟩ := h
  exact ⟨⟨a, b⟩, rfl⟩
end
end Go.PX
namespace Go.PX
open Go.RowKit
structure Grown (w w' : World) : Prop where
 os : w'.os = w.os
 tape : w'.tape = w.tape
 output : w'.output = w.output
 size : w.heap.size ≤ w'.heap.size
 heap : ∀ b, b < w.heap.size → w'.heap[b]? = w.heap[b]?
theorem Grown.refl (w : World) : Grown w w := ⟨rfl, rfl, rfl, Nat.le_refl _, fun _ _ => rfl⟩
theorem Grown.tr {w w' : World} (h : Grown w w') {F F' : Nat → Nat} (hf : ∀ b, w.heap.size ≤ b → F b = 0) (hF : ∀ b, b < w.heap.size → F' b = F b) : Tr F w F' w' := by
 have lt : ∀ b o, o < F b → b < w.heap.size := fun b o ho => by
  rcases Nat.lt_or_ge b w.heap.size with h | h
  ·exact h
  ·rw [hf b h] at ho; omega
 refine ⟨h.os, h.tape, h.output, h.size, fun b => ?_, fun b o ho => cell_heap (h.heap b (lt b o ho)), fun b e c hb hm => by rw [h.heap b (lt b 0 hb)]; exact hm⟩
 rcases Nat.lt_or_ge b w.heap.size with h | h
 ·rw [hF b h]; exact Nat.le_refl _
 ·rw [hf b h]; exact Nat.zero_le _
theorem fnV_calls {P : Program} {f : FuncId} {ds : List D} {r : D} (he : ∀ (vs : Array Value) (w : World), (callFunc f vs).run P w = .ok (.enter f vs) w)
  (h : ∀ (vals : Array Value) (w : World) (F : Nat → Nat), Laid P w → (∀ b, w.heap.size ≤ b → F b = 0) → RepDL F w ds vals.toList →
   Calls P f vals w fun e w' => ∃ x, e = .returned x ∧ Grown w w' ∧ ∃ F', (∀ b, b < w.heap.size → F' b = F b) ∧ (∀ b, w'.heap.size ≤ b → F' b = 0) ∧ RepD F' w' r x) : FnV P f ds r := by
 intro σ Y s
 refine ⟨he, fun cx hY L F vals w hh hr => ?_⟩
 refine (callsIn_wide.2 (h vals w F (hY.laid _ _ _ hh.hg) hh.fresh (RepVL.inj.1 hr))).mono ?_
 rintro e w' ⟨x, rfl, hgr, F', hF, hf', hx⟩
 have tr := hgr.tr hh.fresh hF
 refine ⟨x, rfl, _, [], s, L, F', ⟨⟨rfl, rfl⟩, rfl⟩, ⟨cx.stable hh.hg tr hf' fun b hb => ⟨hgr.heap b (hh.csz b hb), hF b (hh.csz b hb)⟩, fun b hb => Nat.lt_of_lt_of_le (hh.csz b hb) hgr.size, hf', (fun _ _ h => by cases h), (fun _ _ h => by cases h), (fun _ _ _ _ h => by cases h)⟩, hx, tr, fun _ _ => ⟨rfl, rfl⟩⟩
theorem enters {P : Program} {f : FuncId} {fn : Func} {c : Code} (hf : P.funcs[f]? = some fn) (hb : fn.body = some c) (hname : (fn.name != "runtime.NumGoroutine") = true) (vs : Array Value) (w : World) : (callFunc f vs).run P w = .ok (.enter f vs) w := by
 simp only [bne_iff_ne, ne_eq] at hname
 simp [callFunc, hf, hname, hb, Go.mark]
end Go.PX
namespace Go.PX
open Go.Proofs
open Go.RowKit Go.Proofs
set_option maxHeartbeats 1000000 in
set_option maxRecDepth 100000 in
theorem bld_used (b : Nat) (w : World) (h0 : w.cell? ⟨b, 0, none⟩ = some (.pointer (some ⟨b, 0, none⟩))) :
  Calls Tryz.prog 128 #[.pointer (some ⟨b, 0, none⟩)] w fun e w' => e = .returned (.tuple #[]) ∧ w' = w := by
 obtain ⟨j, hj, hjs⟩ := Option.map_eq_some_iff.1 (show (Tryz.prog.info? 170).map (·.size) = some 2 by kernel_rfl)
 go_enter Tryz.func128, Tryz.ntmps128
 go_wp2
 rw [Lib.run_neq_ptr_same w _ Tryz.underlying167 hj]
 go_wp2
 go_end0
 exact ⟨rfl, rfl⟩
set_option maxHeartbeats 1000000 in
set_option maxRecDepth 100000 in
theorem bld_fresh (b : Nat) (w : World) (h0 : w.cell? ⟨b, 0, none⟩ = some (.pointer none)) (hsh : w.shape? b = some (170, 2)) (hfz : w.frozen? ⟨b, 0, none⟩ = false) :
  Calls Tryz.prog 128 #[.pointer (some ⟨b, 0, none⟩)] w fun e w' => e = .returned (.tuple #[]) ∧ w' = w.setCell ⟨b, 0, none⟩ (.pointer (some ⟨b, 0, none⟩)) := by
 obtain ⟨j, hj, hjs⟩ := Option.map_eq_some_iff.1 (show (Tryz.prog.info? 170).map (·.size) = some 2 by kernel_rfl)
 go_enter Tryz.func128, Tryz.ntmps128
 go_wp2
 rw [Lib.run_to_unsafe w ⟨b, 0, none⟩ Tryz.underlying167 Tryz.underlying193 hj (by rw [hjs]; decide) hsh (Nat.zero_lt_succ 1)]
 simp only [Result.andThen]
 rw [Oper.upon_value]
 go_wp2
 rw [run_callFunc_extern Tryz.func134 (by kernel_rfl) (by kernel_rfl) (by kernel_rfl) (e := Extern.AbiNoEscape.same) (by kernel_rfl)]
 rw [Lib.run_noEscape]
 simp only [Result.andThen]
 rw [Oper.upon_value]
 go_wp2
 rw [Lib.run_from_unsafe w ⟨b, 0, none⟩ Tryz.underlying193 Tryz.underlying167 hj hsh (by kernel_rfl)]
 simp only [Result.andThen]
 rw [Oper.upon_value]
 go_wp2
 go_end0
 exact ⟨rfl, rfl⟩
end Go.PX
namespace Go.PX
open Go.Proofs
def decF : Nat → Nat → List UInt8
 | 0, _ => []
 | f + 1, u => if u < 10 then [UInt8.ofNat (48 + u)] else decF f (u / 10) ++ [UInt8.ofNat (48 + u % 10)]
theorem decF_eq : ∀ (f u : Nat), u < 10 ^ f → 0 < f → decF f u = Lib.decDigits u
 | 0, _, _, h => absurd h (by omega)
 | f + 1, u, hu, _ => by
  rw [decF, Lib.decDigits]
  by_cases h : u < 10
  ·rw [if_pos h, dif_pos h]
  ·rw [if_neg h, dif_neg h]
   have h2 : u / 10 < 10 ^ f := by
    rw [Nat.pow_succ] at hu
    exact Nat.div_lt_of_lt_mul (by omega)
   have hf : 0 < f := by
    rcases Nat.eq_zero_or_pos f with rfl | h3
    ·simp at h2; omega
    ·exact h3
   rw [decF_eq f (u / 10) h2 hf]
theorem decF_len : ∀ (f u : Nat), (decF f u).length ≤ f
 | 0, _ => Nat.le_refl _
 | f + 1, u => by
  rw [decF]
  split
  ·simp
  ·have := decF_len f (u / 10)
   simp; omega
def numL (n : Int) : List UInt8 := if n < 0 then 45 :: decF 19 n.natAbs else decF 19 n.toNat
def numB (n : Int) : ByteArray := ⟨(numL n).toArray⟩
theorem numL_eq {n : Int} (h : -1000000000000000000 ≤ n ∧ n ≤ 1000000000000000000) : numL n = Lib.itoa n := by
  unfold numL Lib.itoa
  split
  · rw [decF_eq 19 n.natAbs (by have : (10 : Nat) ^ 19 = 10000000000000000000 := by decide
                                omega) (by omega)]
  · rw [decF_eq 19 n.toNat (by have : (10 : Nat) ^ 19 = 10000000000000000000 := by decide
                               omega) (by omega)]
theorem numB_size (n : Int) : (numB n).size ≤ 20 := by
 show (numL n).toArray.size ≤ 20
 rw [List.size_toArray]
 unfold numL
 split
 ·have := decF_len 19 n.natAbs; simp; omega
 ·have := decF_len 19 n.toNat; omega
end Go.PX
namespace Go.PX
open Go.Proofs
open Go.Shelf
def Tryz.laysM171_ren : Go.Shelf.Ren := ⟨fun | 171 => 112 | 243 => 129 | 246 => 135 | 283 => 144 | 284 => 145 | 285 => 146 | 286 => 147 | 129 => 156 | 317 => 155 | 318 => 157 | 319 => 158 | 320 => 159 | 337 => 166 | 338 => 167 | n => n, fun | 3 => 3 | 9 => 9 | 2 => 2 | 4 => 4 | 171 => 200 | 0 => 0 | 53 => 201 | 37 => 168 | 5 => 5 | 173 => 204 | 212 => 213 | 51 => 206 | 20 => 20 | 213 => 214 | 46 => 198 | 232 => 233 | 233 => 234 | n => n, fun | 17 => 1 | 18 => 6 | 19 => 7 | n => n⟩
theorem Tryz.laysM171 : Go.Proofs.LaysM.n171 Tryz.prog Tryz.laysM171_ren := {
 mixed := by kernel_rfl
 f129 := Tryz.func156.trans (congrArg some (by kernel_rfl))
 f171 := Tryz.func112.trans (congrArg some (by kernel_rfl))
 f243 := Tryz.func129.trans (congrArg some (by kernel_rfl))
 f246 := Tryz.func135.trans (congrArg some (by kernel_rfl))
 f283 := Tryz.func144.trans (congrArg some (by kernel_rfl))
 f284 := Tryz.func145.trans (congrArg some (by kernel_rfl))
 f285 := Tryz.func146.trans (congrArg some (by kernel_rfl))
 f286 := Tryz.func147.trans (congrArg some (by kernel_rfl))
 f317 := Tryz.func155.trans (congrArg some (by kernel_rfl))
 f318 := Tryz.func157.trans (congrArg some (by kernel_rfl))
 f319 := Tryz.func158.trans (congrArg some (by kernel_rfl))
 f320 := Tryz.func159.trans (congrArg some (by kernel_rfl))
 f337 := Tryz.func166.trans (congrArg some (by kernel_rfl))
 f338 := Tryz.func167.trans (congrArg some (by kernel_rfl))
 t0 := Tryz.underlying0
 a0 := Tryz.isAgg0
 z0 := Tryz.sizeOf0
 v0 := Tryz.zeroValue0
 t2 := Tryz.underlying2
 a2 := Tryz.isAgg2
 z2 := Tryz.sizeOf2
 v2 := Tryz.zeroValue2
 t3 := Tryz.underlying3
 a3 := Tryz.isAgg3
 z3 := Tryz.sizeOf3
 v3 := Tryz.zeroValue3
 t4 := Tryz.underlying4
 a4 := Tryz.isAgg4
 z4 := Tryz.sizeOf4
 v4 := Tryz.zeroValue4
 t5 := Tryz.underlying5
 a5 := Tryz.isAgg5
 z5 := Tryz.sizeOf5
 v5 := Tryz.zeroValue5
 t9 := Tryz.underlying9
 a9 := Tryz.isAgg9
 z9 := Tryz.sizeOf9
 v9 := Tryz.zeroValue9
 t20 := Tryz.underlying20
 a20 := Tryz.isAgg20
 z20 := Tryz.sizeOf20
 v20 := Tryz.zeroValue20
 t37 := Tryz.underlying168
 a37 := Tryz.isAgg168
 z37 := Tryz.sizeOf168
 v37 := Tryz.zeroValue168
 t46 := Tryz.underlying198
 a46 := Tryz.isAgg198
 z46 := Tryz.sizeOf198
 v46 := Tryz.zeroValue198
 t51 := Tryz.underlying206
 a51 := Tryz.isAgg206
 z51 := Tryz.sizeOf206
 v51 := Tryz.zeroValue206
 t53 := Tryz.underlying201
 a53 := Tryz.isAgg201
 z53 := Tryz.sizeOf201
 v53 := Tryz.zeroValue201
 t171 := Tryz.underlying200
 a171 := Tryz.isAgg200
 z171 := Tryz.sizeOf200
 v171 := Tryz.zeroValue200
 t173 := Tryz.underlying204
 a173 := Tryz.isAgg204
 z173 := Tryz.sizeOf204
 v173 := Tryz.zeroValue204
 t212 := Tryz.underlying213
 a212 := Tryz.isAgg213
 z212 := Tryz.sizeOf213
 v212 := Tryz.zeroValue213
 t213 := Tryz.underlying214
 a213 := Tryz.isAgg214
 z213 := Tryz.sizeOf214
 t232 := Tryz.underlying233
 a232 := Tryz.isAgg233
 z232 := Tryz.sizeOf233
 v232 := Tryz.zeroValue233
 t233 := Tryz.underlying234
 a233 := Tryz.isAgg234
 z233 := Tryz.sizeOf234
 v233 := Tryz.zeroValue234
 g17 := by kernel_rfl
 g18 := by kernel_rfl
 g19 := by kernel_rfl
 i0 := by kernel_rfl
 i2 := by kernel_rfl
 i3 := by kernel_rfl
 i4 := by kernel_rfl
 i5 := by kernel_rfl
 i9 := by kernel_rfl
 i20 := by kernel_rfl
 i37 := by kernel_rfl
 i46 := by kernel_rfl
 i51 := by kernel_rfl
 i53 := by kernel_rfl
 i171 := by kernel_rfl
 i173 := by kernel_rfl
 i212 := by kernel_rfl
 i232 := by kernel_rfl
 i233 := by kernel_rfl
 m17 := by kernel_rfl
 m18 := by kernel_rfl
 m19 := by kernel_rfl }
open Go.RowKit Go.Sort Go.Lib in
theorem Tryz.strconv_Itoa (n : Int) (h0 : -9223372036854775808 ≤ n) (h1 : n ≤ 9223372036854775807) (w : World) (htab : Lib.TabIs Tryz.prog w "internal/strconv.uint64pow10" .u64 Lib.pow10Tab) :
  Calls Tryz.prog 112 #[.int .i64 n] w fun e w' => e = .returned (.string ⟨(Lib.itoa n).toArray⟩) ∧ ∃ k os, w' = grow (w.drewN k) os := Any.strconv_Itoa Tryz.laysM171 n h0 h1 w htab
def Tryz.laysC172_ren : Go.Shelf.Ren := ⟨fun | 172 => 143 | 244 => 153 | 245 => 154 | 247 => 161 | 279 => 162 | 280 => 163 | 281 => 164 | 282 => 165 | 287 => 168 | 316 => 169 | 171 => 112 | 205 => 170 | 321 => 171 | 322 => 172 | 243 => 129 | 246 => 135 | 283 => 144 | 284 => 145 | 285 => 146 | 286 => 147 | 129 => 156 | 317 => 155 | 318 => 157 | 319 => 158 | 320 => 159 | 337 => 166 | 338 => 167 | n => n, fun | 9 => 9 | 3 => 3 | 75 => 172 | 76 => 173 | 4 => 4 | 5 => 5 | 167 => 216 | 37 => 168 | 0 => 0 | 85 => 217 | 2 => 2 | 168 => 219 | 53 => 201 | 175 => 227 | 46 => 198 | 210 => 231 | 127 => 188 | 145 => 238 | 143 => 236 | 21 => 21 | 171 => 200 | 173 => 204 | 212 => 213 | 51 => 206 | 20 => 20 | 213 => 214 | 232 => 233 | 233 => 234 | 80 => 120 | n => n, fun | 15 => 4 | 16 => 5 | 17 => 1 | 18 => 6 | 19 => 7 | n => n⟩
theorem Tryz.laysC172 : Go.Proofs.LaysC.n172 Tryz.prog Tryz.laysC172_ren := {
 mixed := by kernel_rfl
 f129 := Tryz.func156.trans (congrArg some (by kernel_rfl))
 f171 := Tryz.func112.trans (congrArg some (by kernel_rfl))
 f172 := Tryz.func143.trans (congrArg some (by kernel_rfl))
 f205 := Tryz.func170.trans (congrArg some (by kernel_rfl))
 f243 := Tryz.func129.trans (congrArg some (by kernel_rfl))
 f244 := Tryz.func153.trans (congrArg some (by kernel_rfl))
 f245 := Tryz.func154.trans (congrArg some (by kernel_rfl))
 f246 := Tryz.func135.trans (congrArg some (by kernel_rfl))
 f247 := Tryz.func161.trans (congrArg some (by kernel_rfl))
 f279 := Tryz.func162.trans (congrArg some (by kernel_rfl))
 f280 := Tryz.func163.trans (congrArg some (by kernel_rfl))
 f281 := Tryz.func164.trans (congrArg some (by kernel_rfl))
 f282 := Tryz.func165.trans (congrArg some (by kernel_rfl))
 f283 := Tryz.func144.trans (congrArg some (by kernel_rfl))
 f284 := Tryz.func145.trans (congrArg some (by kernel_rfl))
 f285 := Tryz.func146.trans (congrArg some (by kernel_rfl))
 f286 := Tryz.func147.trans (congrArg some (by kernel_rfl))
 f287 := Tryz.func168.trans (congrArg some (by kernel_rfl))
 f316 := Tryz.func169.trans (congrArg some (by kernel_rfl))
 f317 := Tryz.func155.trans (congrArg some (by kernel_rfl))
 f318 := Tryz.func157.trans (congrArg some (by kernel_rfl))
 f319 := Tryz.func158.trans (congrArg some (by kernel_rfl))
 f320 := Tryz.func159.trans (congrArg some (by kernel_rfl))
 f321 := Tryz.func171.trans (congrArg some (by kernel_rfl))
 f322 := Tryz.func172.trans (congrArg some (by kernel_rfl))
 f337 := Tryz.func166.trans (congrArg some (by kernel_rfl))
 f338 := Tryz.func167.trans (congrArg some (by kernel_rfl))
 t0 := Tryz.underlying0
 a0 := Tryz.isAgg0
 z0 := Tryz.sizeOf0
 v0 := Tryz.zeroValue0
 t2 := Tryz.underlying2
 a2 := Tryz.isAgg2
 z2 := Tryz.sizeOf2
 v2 := Tryz.zeroValue2
 t3 := Tryz.underlying3
 a3 := Tryz.isAgg3
 z3 := Tryz.sizeOf3
 v3 := Tryz.zeroValue3
 t4 := Tryz.underlying4
 a4 := Tryz.isAgg4
 z4 := Tryz.sizeOf4
 v4 := Tryz.zeroValue4
 t5 := Tryz.underlying5
 a5 := Tryz.isAgg5
 z5 := Tryz.sizeOf5
 v5 := Tryz.zeroValue5
 t9 := Tryz.underlying9
 a9 := Tryz.isAgg9
 z9 := Tryz.sizeOf9
 v9 := Tryz.zeroValue9
 t20 := Tryz.underlying20
 a20 := Tryz.isAgg20
 z20 := Tryz.sizeOf20
 v20 := Tryz.zeroValue20
 t21 := Tryz.underlying21
 a21 := Tryz.isAgg21
 z21 := Tryz.sizeOf21
 v21 := Tryz.zeroValue21
 t37 := Tryz.underlying168
 a37 := Tryz.isAgg168
 z37 := Tryz.sizeOf168
 v37 := Tryz.zeroValue168
 t46 := Tryz.underlying198
 a46 := Tryz.isAgg198
 z46 := Tryz.sizeOf198
 v46 := Tryz.zeroValue198
 t51 := Tryz.underlying206
 a51 := Tryz.isAgg206
 z51 := Tryz.sizeOf206
 v51 := Tryz.zeroValue206
 t53 := Tryz.underlying201
 a53 := Tryz.isAgg201
 z53 := Tryz.sizeOf201
 v53 := Tryz.zeroValue201
 t75 := Tryz.underlying172
 a75 := Tryz.isAgg172
 z75 := Tryz.sizeOf172
 v75 := Tryz.zeroValue172
 t76 := Tryz.underlying173
 a76 := Tryz.isAgg173
 z76 := Tryz.sizeOf173
 v76 := Tryz.zeroValue173
 t85 := Tryz.underlying217
 a85 := Tryz.isAgg217
 z85 := Tryz.sizeOf217
 v85 := Tryz.zeroValue217
 t127 := Tryz.underlying188
 a127 := Tryz.isAgg188
 z127 := Tryz.sizeOf188
 v127 := Tryz.zeroValue188
 t143 := Tryz.underlying236
 a143 := Tryz.isAgg236
 z143 := Tryz.sizeOf236
 v143 := Tryz.zeroValue236
 t145 := Tryz.underlying238
 a145 := Tryz.isAgg238
 z145 := Tryz.sizeOf238
 v145 := Tryz.zeroValue238
 t167 := Tryz.underlying216
 a167 := Tryz.isAgg216
 z167 := Tryz.sizeOf216
 v167 := Tryz.zeroValue216
 t168 := Tryz.underlying219
 a168 := Tryz.isAgg219
 z168 := Tryz.sizeOf219
 v168 := Tryz.zeroValue219
 t171 := Tryz.underlying200
 a171 := Tryz.isAgg200
 z171 := Tryz.sizeOf200
 v171 := Tryz.zeroValue200
 t173 := Tryz.underlying204
 a173 := Tryz.isAgg204
 z173 := Tryz.sizeOf204
 v173 := Tryz.zeroValue204
 t175 := Tryz.underlying227
 a175 := Tryz.isAgg227
 z175 := Tryz.sizeOf227
 v175 := Tryz.zeroValue227
 t210 := Tryz.underlying231
 a210 := Tryz.isAgg231
 z210 := Tryz.sizeOf231
 v210 := Tryz.zeroValue231
 t212 := Tryz.underlying213
 a212 := Tryz.isAgg213
 z212 := Tryz.sizeOf213
 v212 := Tryz.zeroValue213
 t213 := Tryz.underlying214
 a213 := Tryz.isAgg214
 z213 := Tryz.sizeOf214
 t232 := Tryz.underlying233
 a232 := Tryz.isAgg233
 z232 := Tryz.sizeOf233
 v232 := Tryz.zeroValue233
 t233 := Tryz.underlying234
 a233 := Tryz.isAgg234
 z233 := Tryz.sizeOf234
 v233 := Tryz.zeroValue234
 g15 := by kernel_rfl
 g16 := by kernel_rfl
 g17 := by kernel_rfl
 g18 := by kernel_rfl
 g19 := by kernel_rfl
 t80 := Tryz.underlying120
 a80 := Tryz.isAgg120
 z80 := Tryz.sizeOf120
 v80 := Tryz.zeroValue120
 i0 := by kernel_rfl
 i2 := by kernel_rfl
 i3 := by kernel_rfl
 i4 := by kernel_rfl
 i5 := by kernel_rfl
 i9 := by kernel_rfl
 i20 := by kernel_rfl
 i21 := by kernel_rfl
 i37 := by kernel_rfl
 i46 := by kernel_rfl
 i51 := by kernel_rfl
 i53 := by kernel_rfl
 i75 := by kernel_rfl
 i76 := by kernel_rfl
 i80 := by kernel_rfl
 i85 := by kernel_rfl
 i127 := by kernel_rfl
 i143 := by kernel_rfl
 i145 := by kernel_rfl
 i167 := by kernel_rfl
 i168 := by kernel_rfl
 i171 := by kernel_rfl
 i173 := by kernel_rfl
 i175 := by kernel_rfl
 i210 := by kernel_rfl
 i212 := by kernel_rfl
 i232 := by kernel_rfl
 i233 := by kernel_rfl
 m15 := by kernel_rfl
 m16 := by kernel_rfl
 m17 := by kernel_rfl
 m18 := by kernel_rfl
 m19 := by kernel_rfl
 c0 := by kernel_rfl
 c2 := by kernel_rfl
 c3 := by kernel_rfl
 c4 := by kernel_rfl
 c5 := by kernel_rfl
 c9 := by kernel_rfl
 c20 := by kernel_rfl
 c21 := by kernel_rfl
 c37 := by kernel_rfl
 c46 := by kernel_rfl
 c51 := by kernel_rfl
 c53 := by kernel_rfl
 c75 := by kernel_rfl
 c76 := by kernel_rfl
 c80 := by kernel_rfl
 c85 := by kernel_rfl
 c127 := by kernel_rfl
 c143 := by kernel_rfl
 c145 := by kernel_rfl
 c167 := by kernel_rfl
 c168 := by kernel_rfl
 c171 := by kernel_rfl
 c173 := by kernel_rfl
 c175 := by kernel_rfl
 c210 := by kernel_rfl
 c212 := by kernel_rfl
 c213 := by kernel_rfl
 c232 := by kernel_rfl
 c233 := by kernel_rfl }
open Go.RowKit in
theorem Tryz.strconv_Atoi_ok (s : ByteArray) (hmax : s.size ≤ 9223372036854775806) (v : Int) (h : Lib.atoiAll s.data.toList = .ok v) (w : World) :
  Calls Tryz.prog 143 #[.string s] w fun e w' => e = .returned (.tuple #[.int .i64 v, .nilIface]) ∧ (w' = w ∨ ∃ t, w' = Lib.bytesWorld w 5 t) := Any.strconv_Atoi_ok Tryz.laysC172 s hmax v h w
def Tryz.lays145_ren : Go.Shelf.Ren := ⟨fun | 145 => 89 | 220 => 116 | 219 => 130 | 217 => 136 | 225 => 137 | 224 => 138 | 267 => 139 | 266 => 148 | 314 => 149 | n => n, fun | 9 => 9 | 4 => 4 | 59 => 139 | 3 => 3 | 5 => 5 | 46 => 198 | 146 => 207 | 51 => 206 | n => n, fun | 1 => 0 | n => n⟩
theorem Tryz.lays145 : Go.Proofs.Lays.n145 Tryz.prog Tryz.lays145_ren := {
 mixed := by kernel_rfl
 f145 := Tryz.func89.trans (congrArg some (by kernel_rfl))
 f217 := Tryz.func136.trans (congrArg some (by kernel_rfl))
 f219 := Tryz.func130.trans (congrArg some (by kernel_rfl))
 f220 := Tryz.func116.trans (congrArg some (by kernel_rfl))
 f224 := Tryz.func138.trans (congrArg some (by kernel_rfl))
 f225 := Tryz.func137.trans (congrArg some (by kernel_rfl))
 f266 := Tryz.func148.trans (congrArg some (by kernel_rfl))
 f267 := Tryz.func139.trans (congrArg some (by kernel_rfl))
 f314 := Tryz.func149.trans (congrArg some (by kernel_rfl))
 t3 := Tryz.underlying3
 a3 := Tryz.isAgg3
 z3 := Tryz.sizeOf3
 v3 := Tryz.zeroValue3
 t4 := Tryz.underlying4
 a4 := Tryz.isAgg4
 z4 := Tryz.sizeOf4
 v4 := Tryz.zeroValue4
 t5 := Tryz.underlying5
 a5 := Tryz.isAgg5
 z5 := Tryz.sizeOf5
 v5 := Tryz.zeroValue5
 t9 := Tryz.underlying9
 a9 := Tryz.isAgg9
 z9 := Tryz.sizeOf9
 v9 := Tryz.zeroValue9
 t46 := Tryz.underlying198
 a46 := Tryz.isAgg198
 z46 := Tryz.sizeOf198
 v46 := Tryz.zeroValue198
 t51 := Tryz.underlying206
 a51 := Tryz.isAgg206
 z51 := Tryz.sizeOf206
 v51 := Tryz.zeroValue206
 t59 := Tryz.underlying139
 a59 := Tryz.isAgg139
 z59 := Tryz.sizeOf139
 v59 := Tryz.zeroValue139
 t146 := Tryz.underlying207
 a146 := Tryz.isAgg207
 z146 := Tryz.sizeOf207
 v146 := Tryz.zeroValue207
 g1 := by kernel_rfl }
open Go.RowKit Go.Lib in
theorem Tryz.strings_Cut (s sep : ByteArray) (m : Int) (w : World) (hs : s.size < 4294967281) (hm : w.cell? ⟨0, 0, none⟩ = some (.int .i64 m)) :
  Calls Tryz.prog 89 #[.string s, .string sep] w fun e w' => e = .returned (.tuple #[.string ⟨(Lib.cut s.data.toList sep.data.toList).1.toArray⟩, .string ⟨(Lib.cut s.data.toList sep.data.toList).2.1.toArray⟩, .bool (Lib.cut s.data.toList sep.data.toList).2.2]) ∧ ∃ n, w' = w.drewN n := Any.strings_Cut Tryz.lays145 s sep m w hs hm
def Tryz.lays146_ren : Go.Shelf.Ren := ⟨fun | 146 => 117 | 221 => 131 | 268 => 140 | 138 => 141 | 143 => 142 | 195 => 150 | 197 => 151 | 218 => 152 | 219 => 130 | 260 => 160 | 217 => 136 | 225 => 137 | 224 => 138 | 267 => 139 | 266 => 148 | 314 => 149 | n => n, fun | 9 => 9 | 31 => 117 | 3 => 3 | 4 => 4 | 0 => 0 | 105 => 209 | 21 => 21 | 5 => 5 | 46 => 198 | 119 => 223 | 139 => 226 | 138 => 225 | 146 => 207 | 51 => 206 | n => n, fun | 1 => 0 | 3 => 2 | 4 => 3 | n => n⟩
theorem Tryz.lays146 : Go.Proofs.Lays.n146 Tryz.prog Tryz.lays146_ren := {
 mixed := by kernel_rfl
 f138 := Tryz.func141.trans (congrArg some (by kernel_rfl))
 f143 := Tryz.func142.trans (congrArg some (by kernel_rfl))
 f146 := Tryz.func117.trans (congrArg some (by kernel_rfl))
 f195 := Tryz.func150.trans (congrArg some (by kernel_rfl))
 f197 := Tryz.func151.trans (congrArg some (by kernel_rfl))
 f217 := Tryz.func136.trans (congrArg some (by kernel_rfl))
 f218 := Tryz.func152.trans (congrArg some (by kernel_rfl))
 f219 := Tryz.func130.trans (congrArg some (by kernel_rfl))
 f221 := Tryz.func131.trans (congrArg some (by kernel_rfl))
 f224 := Tryz.func138.trans (congrArg some (by kernel_rfl))
 f225 := Tryz.func137.trans (congrArg some (by kernel_rfl))
 f260 := Tryz.func160.trans (congrArg some (by kernel_rfl))
 f266 := Tryz.func148.trans (congrArg some (by kernel_rfl))
 f267 := Tryz.func139.trans (congrArg some (by kernel_rfl))
 f268 := Tryz.func140.trans (congrArg some (by kernel_rfl))
 f314 := Tryz.func149.trans (congrArg some (by kernel_rfl))
 t0 := Tryz.underlying0
 a0 := Tryz.isAgg0
 z0 := Tryz.sizeOf0
 v0 := Tryz.zeroValue0
 t3 := Tryz.underlying3
 a3 := Tryz.isAgg3
 z3 := Tryz.sizeOf3
 v3 := Tryz.zeroValue3
 t4 := Tryz.underlying4
 a4 := Tryz.isAgg4
 z4 := Tryz.sizeOf4
 v4 := Tryz.zeroValue4
 t5 := Tryz.underlying5
 a5 := Tryz.isAgg5
 z5 := Tryz.sizeOf5
 v5 := Tryz.zeroValue5
 t9 := Tryz.underlying9
 a9 := Tryz.isAgg9
 z9 := Tryz.sizeOf9
 v9 := Tryz.zeroValue9
 t21 := Tryz.underlying21
 a21 := Tryz.isAgg21
 z21 := Tryz.sizeOf21
 v21 := Tryz.zeroValue21
 t31 := Tryz.underlying117
 a31 := Tryz.isAgg117
 z31 := Tryz.sizeOf117
 v31 := Tryz.zeroValue117
 t46 := Tryz.underlying198
 a46 := Tryz.isAgg198
 z46 := Tryz.sizeOf198
 v46 := Tryz.zeroValue198
 t51 := Tryz.underlying206
 a51 := Tryz.isAgg206
 z51 := Tryz.sizeOf206
 v51 := Tryz.zeroValue206
 t105 := Tryz.underlying209
 a105 := Tryz.isAgg209
 z105 := Tryz.sizeOf209
 v105 := Tryz.zeroValue209
 t119 := Tryz.underlying223
 a119 := Tryz.isAgg223
 z119 := Tryz.sizeOf223
 t138 := Tryz.underlying225
 a138 := Tryz.isAgg225
 z138 := Tryz.sizeOf225
 v138 := Tryz.zeroValue225
 t139 := Tryz.underlying226
 a139 := Tryz.isAgg226
 z139 := Tryz.sizeOf226
 v139 := Tryz.zeroValue226
 t146 := Tryz.underlying207
 a146 := Tryz.isAgg207
 z146 := Tryz.sizeOf207
 v146 := Tryz.zeroValue207
 g1 := by kernel_rfl
 g3 := by kernel_rfl
 g4 := by kernel_rfl }
open Go.RowKit Go.Lib in
theorem Tryz.strings_Split (s sep : ByteArray) (m : Int) (w : World) (hs : s.size < 4294967281) (hm : w.cell? ⟨0, 0, none⟩ = some (.int .i64 m)) (h1 : 1 ≤ sep.size) :
  Calls Tryz.prog 117 #[.string s, .string sep] w fun e w' =>
   e = .returned (.slice (some ⟨w.heap.size, 0, none⟩) (Lib.countB s sep + 1) (Lib.countB s sep + 1)) ∧ w' = w.alloc (.cells ((Lib.splitB sep 0 (Lib.countB s sep) s).map Value.string).toArray 9) := Any.strings_Split Tryz.lays146 (by kernel_rfl) s sep m w hs hm h1
theorem ch112 (n : Int) (h : -1000000000000000000 ≤ n ∧ n ≤ 1000000000000000000) : FnV Tryz.prog 112 [i64 n] (.str (numB n)) := by
 refine fnV_calls (enters Tryz.func112 rfl (by decide +kernel)) fun vals w F hl hf hr => ?_
 obtain ⟨x, l', h1, h2, h3⟩ := hr
 have h2 : x = .int .i64 n := h2
 have h3 : l' = [] := h3
 subst h2 h3
 have hv : vals = #[.int .i64 n] := Array.ext' h1
 subst hv
 refine (Tryz.strconv_Itoa n (by omega) (by omega) w (hl.tab 1 (by kernel_rfl))).mono ?_
 rintro e w' ⟨rfl, k, os, rfl⟩
 have hx : (⟨(Lib.itoa n).toArray⟩ : ByteArray) = numB n := by rw [numB, numL_eq h]
 rw [hx]
 have hsz : (Go.Sort.grow (w.drewN k) os).heap.size = w.heap.size + os.size := by simp [Go.Sort.grow, World.drewN]
 refine ⟨_, rfl, ⟨rfl, rfl, rfl, by omega, fun b hb => ?_⟩, F, fun _ _ => rfl, fun b hb => hf b (by omega), rfl⟩
 show (w.heap ++ os)[b]? = _
 rw [Array.getElem?_append_left hb]
end Go.PX
namespace Go.PX
open Go.Proofs
open Go.RowKit
def cut1 (c : UInt8) : List UInt8 → List UInt8 × List UInt8 × Bool
 | [] => ([], [], false)
 | x :: r => if x = c then ([], r, true) else (x :: (cut1 c r).1, (cut1 c r).2.1, (cut1 c r).2.2)
def headC (x : UInt8) : List (List UInt8) → List (List UInt8)
 | [] => [[x]]
 | a :: t => (x :: a) :: t
def splitL (c : UInt8) : List UInt8 → List (List UInt8)
 | [] => [[]]
 | x :: r => if x = c then [] :: splitL c r else headC x (splitL c r)
theorem idx_nil (c : UInt8) : Lib.index [] [c] = -1 := rfl
theorem idx_eq (c : UInt8) (r : List UInt8) : Lib.index (c :: r) [c] = 0 := by
 rw [Lib.index_one, Lib.indexByte]; simp
theorem idx_ne {c x : UInt8} (h : x ≠ c) (r : List UInt8) : Lib.index (x :: r) [c] = if Lib.index r [c] == -1 then -1 else Lib.index r [c] + 1 := by
 rw [Lib.index_one, Lib.indexByte, Lib.index_one]; simp [h]
theorem cut_eq (c : UInt8) : ∀ l : List UInt8, Lib.cut l [c] = cut1 c l
 | [] => by simp [Lib.cut, idx_nil, cut1]
 | x :: r => by
  rw [cut1]
  by_cases h : x = c
  ·subst h
   rw [if_pos rfl, Lib.cut, idx_eq]; simp
  ·rw [if_neg h, ← cut_eq c r]
   have hge := Lib.index_ge r [c]
   unfold Lib.cut
   rw [idx_ne h]
   by_cases h1 : Lib.index r [c] = -1
   ·simp [h1]
   ·obtain ⟨i, hi⟩ : ∃ i : Nat, Lib.index r [c] = i := ⟨(Lib.index r [c]).toNat, by omega⟩
    rw [hi]
    have h2 : ((i : Int) == -1) = false := by first | (simp; done) | (simp; omega)
    rw [h2]
    have h3 : (0 : Int) ≤ (i : Int) + 1 := by omega
    have h4 : (0 : Int) ≤ (i : Int) := by omega
    simp only [Bool.false_eq_true, if_false, if_pos h3, if_pos h4]
    have h5 : ((i : Int) + 1).toNat = i + 1 := by omega
    have h6 : ((i : Int)).toNat = i := by omega
    rw [h5, h6]
    simp
theorem splitL_ne (c : UInt8) : ∀ l, splitL c l ≠ []
 | [] => by simp [splitL]
 | x :: r => by
  rw [splitL]
  split
  ·simp
  ·cases splitL c r <;> simp [headC]
theorem splitK_eq (c : UInt8) : ∀ l : List UInt8, Lib.splitK [c] 0 (l.count c) l = splitL c l
 | [] => rfl
 | x :: r => by
  have ih := splitK_eq c r
  rw [splitL]
  by_cases h : x = c
  ·subst h
   rw [if_pos rfl, List.count_cons_self, Lib.splitK, idx_eq, ← ih]
   simp
  ·rw [if_neg h, List.count_cons_of_ne (by simpa using h)]
   cases hk : r.count c with
   | zero =>
    rw [hk] at ih
    rw [← ih]; rfl
   | succ k =>
    rw [hk] at ih
    rw [← ih]
    have hge := Lib.index_ge r [c]
    rw [Lib.splitK, Lib.splitK, idx_ne h]
    by_cases h1 : Lib.index r [c] = -1
    ·rw [h1]; simp [headC]
    ·obtain ⟨i, hi⟩ : ∃ i : Nat, Lib.index r [c] = i := ⟨(Lib.index r [c]).toNat, by omega⟩
     rw [hi]
     have h2 : ((i : Int) == -1) = false := by first | (simp; done) | (simp; omega)
     have h3 : (((i : Int) + 1) == -1) = false := by first | (simp; done) | (simp; omega)
     rw [h2]
     simp only [Bool.false_eq_true, if_false]
     rw [h3]
     have h5 : ((i : Int) + 1).toNat = i + 1 := by omega
     have h6 : ((i : Int)).toNat = i := by omega
     simp only [Bool.false_eq_true, if_false, h5, h6, headC]
     simp
def piecesB (c : UInt8) (s : ByteArray) : List ByteArray := (splitL c s.data.toList).map fun l => ⟨l.toArray⟩
theorem splitB_eq (c : UInt8) (s : ByteArray) : Lib.splitB ⟨#[c]⟩ 0 (Lib.countB s ⟨#[c]⟩) s = piecesB c s := by
 have h := Lib.splitB_data ⟨#[c]⟩ 0 (Lib.countB s ⟨#[c]⟩) s
 have hc : Lib.countB s ⟨#[c]⟩ = s.data.toList.count c := Lib.count_one c s.data.toList
 rw [hc] at h ⊢
 have h2 : (⟨#[c]⟩ : ByteArray).data.toList = [c] := rfl
 rw [h2, splitK_eq] at h
 unfold piecesB
 rw [← h, List.map_map]
 conv => lhs; rw [← List.map_id (Lib.splitB ⟨#[c]⟩ 0 (s.data.toList.count c) s)]
 refine List.map_congr_left fun x _ => ?_
 cases x; simp
def atoiX (s : ByteArray) : Option Int :=
 match Lib.atoiAll s.data.toList with
 | .ok v => some v
 | _ => none
theorem str_vals {F : Nat → Nat} {w : World} {s : ByteArray} {vals : Array Value} (hr : RepDL F w [.str s] vals.toList) : vals = #[.string s] := by
 obtain ⟨x, l', h1, h2, h3⟩ := hr
 have h2 : x = .string s := h2
 have h3 : l' = [] := h3
 subst h2 h3
 exact Array.ext' h1
theorem str_vals2 {F : Nat → Nat} {w : World} {s t : ByteArray} {vals : Array Value} (hr : RepDL F w [.str s, .str t] vals.toList) : vals = #[.string s, .string t] := by
 obtain ⟨x, l', h1, h2, y, l2, rfl, h3, h4⟩ := hr
 have h2 : x = .string s := h2
 have h3 : y = .string t := h3
 have h4 : l2 = [] := h4
 subst h2 h3 h4
 exact Array.ext' h1
theorem Grown.of {w w' : World} (h : Below w.heap.size w w') : Grown w w' := ⟨h.os, h.tape, h.output, h.size, h.block⟩
theorem ch143 (s : ByteArray) (v : Int) (hs : s.size ≤ 1000000000) (h : atoiX s = some v) : FnV Tryz.prog 143 [.str s] (.tup [i64 v, .nili]) := by
 refine fnV_calls (enters Tryz.func143 rfl (by decide +kernel)) fun vals w F hl hf hr => ?_
 have ha : Lib.atoiAll s.data.toList = .ok v := by
  unfold atoiX at h
  split at h
  ·rename_i u hu; cases h; exact hu
  ·cases h
 rw [str_vals hr]
 refine (Tryz.strconv_Atoi_ok s (by omega) v ha w).mono ?_
 rintro e w' ⟨rfl, rfl | ⟨t, rfl⟩⟩
 ·exact ⟨_, rfl, Grown.refl _, F, fun _ _ => rfl, hf, _, rfl, _, _, rfl, rfl, _, _, rfl, rfl, rfl⟩
 ·have h2 := Lib.bytesWorld_size w 5 t
  exact ⟨_, rfl, Grown.of (Lib.bytesWorld_below w 5 t), F, fun _ _ => rfl, fun b hb => hf b (by omega), _, rfl, _, _, rfl, rfl, _, _, rfl, rfl, rfl⟩
theorem ch89 (s : ByteArray) (c : UInt8) (hs : s.size ≤ 1000000000) : FnV Tryz.prog 89 [.str s, .str ⟨#[c]⟩] (.tup [.str ⟨(cut1 c s.data.toList).1.toArray⟩, .str ⟨(cut1 c s.data.toList).2.1.toArray⟩, .bool (cut1 c s.data.toList).2.2]) := by
 refine fnV_calls (enters Tryz.func89 rfl (by decide +kernel)) fun vals w F hl hf hr => ?_
 rw [str_vals2 hr]
 obtain ⟨m, hm⟩ := hl.len 0 (by kernel_rfl)
 have hc := cut_eq c s.data.toList
 refine (Tryz.strings_Cut s ⟨#[c]⟩ m w (by omega) hm).mono ?_
 rintro e w' ⟨rfl, n, rfl⟩
 have h2 : (⟨#[c]⟩ : ByteArray).data.toList = [c] := rfl
 rw [h2, hc]
 exact ⟨_, rfl, ⟨rfl, rfl, rfl, Nat.le_refl _, fun _ _ => rfl⟩, F, fun _ _ => rfl, hf, _, rfl, _, _, rfl, rfl, _, _, rfl, rfl, _, _, rfl, rfl, rfl⟩
def wordsD (l : List ByteArray) : D := .vs (l.map fun x => [.str x])
theorem repEs_strs {F : Nat → Nat} {w : World} {b : Nat} : ∀ (l : List ByteArray) (off : Nat), (∀ i x, l[i]? = some x → off + i < F b ∧ w.cell? ⟨b, off + i, none⟩ = some (.string x)) → RepEs F w b off 1 (l.map fun x => [D.str x])
 | [], _, _ => trivial
 | x :: r, off, h => by
  obtain ⟨h1, h2⟩ := h 0 x rfl
  exact ⟨rfl, ⟨h1, ⟨_, h2, rfl⟩, trivial⟩, repEs_strs r (off + 1) fun i y hy => by
   have := h (i + 1) y hy
   rwa [show off + (i + 1) = off + 1 + i by omega] at this⟩
theorem ch117 (s : ByteArray) (c : UInt8) (hs : s.size ≤ 1000000000) : FnV Tryz.prog 117 [.str s, .str ⟨#[c]⟩] (wordsD (piecesB c s)) := by
 refine fnV_calls (enters Tryz.func117 rfl (by decide +kernel)) fun vals w F hl hf hr => ?_
 rw [str_vals2 hr]
 obtain ⟨m, hm⟩ := hl.len 0 (by kernel_rfl)
 refine (Tryz.strings_Split s ⟨#[c]⟩ m w (by omega) hm (Nat.le_refl 1)).mono ?_
 rintro e w' ⟨rfl, rfl⟩
 have hlen := Lib.splitB_all ⟨#[c]⟩ (Nat.le_refl 1) 0 _ s rfl
 rw [splitB_eq] at hlen ⊢
 rw [← hlen]
 generalize piecesB c s = l at hlen ⊢
 have hne : l ≠ [] := by rintro rfl; simp at hlen
 refine ⟨_, rfl, ⟨rfl, rfl, rfl, by simp, fun b hb => by show (w.heap.push _)[b]? = _; rw [Array.getElem?_push_lt hb, Array.getElem?_eq_getElem hb]⟩, fun b => if b = w.heap.size then l.length else F b, fun b hb => if_neg (by omega), fun b hb => ?_, _, _, _, rfl, by simp, Nat.le_refl _, fun _ => ⟨_, 0, 1, rfl, Nat.one_pos, repEs_strs l 0 fun i x hx => ?_⟩⟩
 ·have : (w.alloc (.cells (l.map Value.string).toArray 9)).heap.size = w.heap.size + 1 := by simp
  show (if b = w.heap.size then l.length else F b) = 0
  rw [if_neg (by omega)]
  exact hf b (by omega)
 ·have hi : i < l.length := (List.getElem?_eq_some_iff.1 hx).1
  refine ⟨by simp; exact hi, ?_⟩
  rw [cell_of_row _ _ _ _ _ _ (heap_alloc_new w _)]
  simp [hx]
end Go.PX
namespace Go.PX
open Go.RowKit
theorem HeapOk.turn {σ : Type} {cx : Cx σ} {L : Loc} {F : Nat → Nat} {h : Heap} {s : σ} {w w' : World} (hh : HeapOk cx L F h s w) (g : Nat) (hF : F g = 0) (hC : ¬ cx.C s g) (hos : w'.os = w.os) (ht : w'.tape = w.tape) (hu : w'.output = w.output)
  (hsz : w'.heap.size = w.heap.size) (hk : ∀ b, b ≠ g → w'.heap[b]? = w.heap[b]?) (hne : ∀ id o, get h id = some o → Backed L id o → L.ρ id ≠ g) : HeapOk cx L F h s w' ∧ Tr F w F w' := by
 have tr : Tr F w F w' := .of_keep hos ht hu (by omega) (fun _ => Nat.le_refl _) hh.fresh fun b _ hF' => hk b (by rintro rfl; omega)
 exact ⟨hh.keep tr (fun b hb => hh.fresh b (by omega)) (fun b hb => ⟨hk b (by rintro rfl; exact hC hb), rfl⟩) fun id o hi hb => ⟨hk _ (hne id o hi hb), rfl⟩, tr⟩
theorem fnU_calls {P : Program} {f : FuncId} {args : List V} {h0 h1 : Heap} {v0 : V} (he : ∀ (vs : Array Value) (w : World), (callFunc f vs).run P w = .ok (.enter f vs) w)
  (h : ∀ {σ : Type} (cx : Cx σ) (L : Loc) (F : Nat → Nat) (s : σ) (vals : Array Value) (w : World), HeapOk cx L F h0 s w → RepVL cx.yv L F w args vals.toList →
   Calls P f vals w fun e w' => ∃ x, e = .returned x ∧ HeapOk cx L F h1 s w' ∧ RepV cx.yv L F w' v0 x ∧ Tr F w F w') : FnU P f args h0 fun v h' => v = v0 ∧ h' = h1 := by
 intro σ Y s
 refine ⟨he, fun cx hY L F vals w hh hr => ?_⟩
 refine (callsIn_wide.2 (h cx L F s vals w hh hr)).mono ?_
 rintro e w' ⟨x, rfl, hh', hx, tr⟩
 exact ⟨x, rfl, _, _, s, L, F, ⟨⟨rfl, rfl⟩, rfl⟩, hh', hx, tr, fun _ _ => ⟨rfl, rfl⟩⟩
section
variable {P : Program} {σ : Type} {Y : Hd σ}
theorem CallA_frzP (n : Nat) (ids : List Nat) {e : Env} {h h' : Heap} {s : σ} {d : Option Nat} {f : FuncId} {args args' : List V} {K : St σ → Prop} (hv : replL (objD (keepT ids h) n) args = args') (hh : cutL h (keysOf (keepT ids h)) = h')
  (hk : CallA P Y ⟨e, h', s⟩ d f args' K) : CallA P Y ⟨e, h, s⟩ d f args K := by
 obtain ⟨he, hk⟩ := hk
 subst hh hv
 refine ⟨he, fun cx hY r m L F a w vals hg hd hr => ?_⟩
 obtain ⟨F1, hg1, tr1, hvw⟩ := hg.frzPart2 (h := keepT ids h) (fun i o hi => sub_keepT ids h i o hi) n
 rw [applyWs_delL] at hg1
 refine (hk cx hY r m L F1 a w vals hg1 hd (hvw _ _ hr)).mono ?_
 rintro en w' (⟨x, rfl, st', L', F', k1, k2, k3⟩ | ⟨pv, pe, ph, ps, L', F', he, hy, hgp, trp⟩)
 ·exact .inl ⟨x, rfl, st', L', F', k1, k2, Tr.trans tr1 k3⟩
 ·exact .inr ⟨pv, pe, ph, ps, L', F', he, hy, hgp, Tr.trans tr1 trp⟩
end
end Go.PX
