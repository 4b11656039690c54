import Derived.Test.YtpocldjdlookjaaPxK
import Derived.Test.YtpocldjdlookjaaPxJ
set_option linter.all false
set_option maxRecDepth 10000
namespace Go.PX
open Go.RowKit
def stepAt {σ : Type} (P : Program) (T : Tys) (Y : Hd σ) (ops : List Oper) (o : Option Oper) (e : Env) (h : Heap) (s : σ) (go : Env → Heap → σ → Prop) : Prop :=
 match o with
 | some ⟨dst, op, _, _, _, guard⟩ => guardK ops e guard (fun w => applyK w e h fun e h => stepK P T Y dst op e h s go) (fun w => applyK w e h fun e h => applyK (wset dst (.d (.tup []))) e h fun e h => go e h s)
 | none => False
def isTrue : List Bool → Nat → Bool
 | [], _ => true
 | b :: _, 0 => b
 | _ :: r, n + 1 => isTrue r n
def allTrue (ls : List Bool) : List Nat → Bool
 | [] => true
 | i :: r => isTrue ls i && allTrue ls r
def readyL (ls : List Bool) : Nat → List (List Nat) → List Bool → List Nat
 | _, [], _ => []
 | _, _, [] => []
 | i, d :: ds, b :: bs => match b, allTrue ls d with
  | false, true => i :: readyL ls (i + 1) ds bs
  | _, _ => readyL ls (i + 1) ds bs
def setT : List Bool → Nat → List Bool
 | [], _ => []
 | _ :: r, 0 => true :: r
 | b :: r, n + 1 => b :: setT r n
noncomputable def allR (l : List Nat) (f : Nat → Prop) : Prop :=
 List.rec (motive := fun _ => Prop) True (fun i _ ih => f i ∧ ih) l
theorem allR_iff {f : Nat → Prop} : ∀ {l : List Nat}, allR l f ↔ ∀ i ∈ l, f i
 | [] => by simp [allR]
 | i :: r => by
  have := allR_iff (f := f) (l := r)
  simp only [allR] at this ⊢
  rw [this]
  simp
noncomputable def wpAnyA {σ : Type} (P : Program) (T : Tys) (Y : Hd σ) (ops : List Oper) (deps : List (List Nat)) (n : Nat) : List Bool → Env → Heap → σ → (Env → Heap → σ → Prop) → Prop :=
 Nat.rec (motive := fun _ => List Bool → Env → Heap → σ → (Env → Heap → σ → Prop) → Prop) (fun _ e h s K => K e h s)
  (fun _ ih ls e h s K => allR (readyL ls 0 deps ls) fun i => stepAt P T Y ops ops[i]? e h s fun e h s => ih (setT ls i) e h s K) n
def depsOk : List Oper → List (List Nat) → Bool
 | [], [] => true
 | o :: r, d :: ds => d.all (fun i => o.after.toList.any fun e => Region.binds .any e && Nat.beq e.on i) && depsOk r ds
 | _, _ => false
theorem depsOk_spec : ∀ {l : List Oper} {ds : List (List Nat)}, depsOk l ds = true → l.length = ds.length ∧ ∀ (i : Nat) (o : Oper) (d : List Nat), l[i]? = some o → ds[i]? = some d → ∀ j ∈ d, ∃ e ∈ o.after, Region.binds .any e = true ∧ e.on = j
 | [], [], _ => ⟨rfl, fun i o d h => by simp at h⟩
 | [], _ :: _, h => by simp [depsOk] at h
 | _ :: _, [], h => by simp [depsOk] at h
 | o :: r, d :: ds, h => by
  simp only [depsOk, Bool.and_eq_true, List.all_eq_true] at h
  obtain ⟨h1, h2⟩ := depsOk_spec h.2
  refine ⟨by simp [h1], fun i o' d' ho hd j hj => ?_⟩
  cases i with
  | zero =>
   simp at ho hd
   subst ho; subst hd
   have := h.1 j hj
   simp only [List.any_eq_true, Bool.and_eq_true] at this
   obtain ⟨e, he, hb, hq⟩ := this
   exact ⟨e, by simpa using he, hb, Nat.eq_of_beq_eq_true hq⟩
  | succ i => exact h2 i o' d' (by simpa using ho) (by simpa using hd) j hj
theorem isTrue_iff : ∀ {ls : List Bool} {i : Nat}, isTrue ls i = ls.toArray.getD i true
 | [], i => by simp [isTrue, Array.getD_eq_getD_getElem?]
 | b :: r, 0 => by simp [isTrue, Array.getD_eq_getD_getElem?]
 | b :: r, n + 1 => by
  have := isTrue_iff (ls := r) (i := n)
  simp only [isTrue, this, Array.getD_eq_getD_getElem?]
  simp
theorem allTrue_of {ls : List Bool} : ∀ {d : List Nat}, (∀ j ∈ d, isTrue ls j = true) → allTrue ls d = true
 | [], _ => rfl
 | i :: r, h => by
  have h1 := allTrue_of (ls := ls) (d := r) fun j hj => h j (List.mem_cons_of_mem _ hj)
  simp [allTrue, h i (by simp), h1]
theorem mem_readyL {ls : List Bool} : ∀ {ds : List (List Nat)} {bs : List Bool} {k i : Nat} {d : List Nat}, ds[i]? = some d → bs[i]? = some false → allTrue ls d = true → k + i ∈ readyL ls k ds bs
 | [], _, _, i, d, h, _, _ => by simp at h
 | _ :: _, [], _, i, d, _, h, _ => by simp at h
 | x :: ds, b :: bs, k, i, d, hd, hb, ha => by
  cases i with
  | zero =>
   simp at hd hb
   subst hd; subst hb
   simp [readyL, ha]
  | succ i =>
   have := mem_readyL (ls := ls) (ds := ds) (bs := bs) (k := k + 1) (i := i) (by simpa using hd) (by simpa using hb) ha
   rw [show k + (i + 1) = k + 1 + i by omega]
   simp only [readyL]
   split
   ·exact List.mem_cons_of_mem _ this
   ·exact this
theorem setT_eq : ∀ {ls : List Bool} {i : Nat}, setT ls i = ls.set i true
 | [], i => by simp [setT]
 | b :: r, 0 => rfl
 | b :: r, n + 1 => by simp [setT, setT_eq (ls := r)]
def unl : List Bool → Nat
 | [] => 0
 | true :: r => unl r
 | false :: r => unl r + 1
theorem unl_set : ∀ {ls : List Bool} {i : Nat}, ls[i]? = some false → unl (ls.set i true) + 1 = unl ls
 | [], i, h => by simp at h
 | b :: r, 0, h => by
  simp at h; subst h
  simp [unl]
 | b :: r, i + 1, h => by
  have := unl_set (ls := r) (i := i) (by simpa using h)
  cases b <;> simp [unl, this]
theorem unl_pos : ∀ {ls : List Bool}, 0 < unl ls → ∃ i : Nat, ls[i]? = some false ∧ ∀ j : Nat, j < i → ls[j]? = some true
 | [], h => by simp [unl] at h
 | false :: r, _ => ⟨0, rfl, fun j hj => by omega⟩
 | true :: r, h => by
  obtain ⟨i, h1, h2⟩ := unl_pos (ls := r) (by simpa [unl] using h)
  refine ⟨i + 1, by simpa using h1, fun j hj => ?_⟩
  cases j with
  | zero => rfl
  | succ j => simpa using h2 j (by omega)
theorem unl_zero : ∀ {ls : List Bool}, unl ls = 0 → ∀ i : Nat, ls[i]? ≠ some false
 | [], _, i => by simp
 | false :: r, h, i => by simp [unl] at h
 | true :: r, h, i => by
  cases i with
  | zero => simp
  | succ i => simpa using unl_zero (ls := r) (by simpa [unl] using h) i
section
variable {P : Program} {T : Tys} {σ : Type} {Y : Hd σ} {cx : Cx σ} {r : Option Nat} {m : List Nat}
theorem getD_true_at {ls : List Bool} {i : Nat} : ls.toArray.getD i true = false ↔ ls[i]? = some false := by
 rw [Array.getD_eq_getD_getElem?]
 simp only [List.getElem?_toArray]
 cases ls[i]? with
 | none => simp
 | some b => simp
theorem getD_false_at {ls : List Bool} {i : Nat} : ls.toArray.getD i false = true ↔ ls[i]? = some true := by
 rw [Array.getD_eq_getD_getElem?]
 simp only [List.getElem?_toArray]
 cases ls[i]? with
 | none => simp
 | some b => simp
theorem wpAnyA_sound (hT : TysOk P T) (hY : Handles P Y cx) {ops : Array Oper} {deps : List (List Nat)} (hback : okBack 0 ops.toList = true) (hdeps : depsOk ops.toList deps = true) {F0 : Nat → Nat} {w0 : World} {n0 : Nat} (hd : ∀ o ∈ ops.toList, ∀ d, o.dst = some d → d < n0) {K : Env → Heap → σ → Prop} :
  ∀ (n : Nat) {ls : List Bool} {e : Env} {h : Heap} {s : σ} {L : Loc} {F : Nat → Nat} {a : Act} {w : World}, ls.length = ops.size → unl ls = n → Good cx r m L F ⟨e, h, s⟩ a w → a.tmps.size = n0 → Tr F0 w0 F w →
   wpAnyA P T Y ops.toList deps n ls e h s K → wpAnyIn (fr r) 0 P .any ops (OpsPostP Y cx r m F0 w0 n0 K) n ls.toArray a w := by
 obtain ⟨hdl, hds⟩ := depsOk_spec hdeps
 have hdl : ops.size = deps.length := by simpa using hdl
 intro n
 induction n with
 | zero =>
  intro ls e h s L F a w hl hu hg hs tr hk
  refine ⟨?_, .inl ⟨e, h, s, L, F, rfl, hk, hg, tr, hs⟩⟩
  cases hr : Region.ready .any ops ls.toArray with
  | nil => rfl
  | cons i _ =>
   have : i ∈ Region.ready .any ops ls.toArray := by rw [hr]; exact List.mem_cons_self ..
   have := getD_true_at.1 (mem_ready.1 this).1
   exact absurd this (unl_zero hu i)
 | succ n ih =>
  intro ls e h s L F a w hl hu hg hs tr hk
  refine ⟨fun hr => ?_, fun i hi => ?_⟩
  ·exfalso
   obtain ⟨i, h1, h2⟩ := unl_pos (ls := ls) (by omega)
   have his : i < ops.size := by rw [← hl]; exact (List.getElem?_eq_some_iff.1 h1).1
   have : i ∈ Region.ready .any ops ls.toArray := by
    rw [mem_ready]
    refine ⟨getD_true_at.2 h1, ops[i], Array.getElem?_eq_getElem his, fun e he hb => ?_⟩
    have hlt := okBack_spec hback i ops[i] (by simp) e he hb
    exact getD_false_at.2 (h2 e.on (by omega))
   rw [hr] at this
   cases this
  ·obtain ⟨hjl, oj, hoj, hedges⟩ := mem_ready.1 hi
   have his : i < ops.size := (Array.getElem?_eq_some_iff.1 hoj).1
   have hli := getD_true_at.1 hjl
   have hk : allR (readyL ls 0 deps ls) fun i => stepAt P T Y ops.toList ops.toList[i]? e h s fun e h s => wpAnyA P T Y ops.toList deps n (setT ls i) e h s K := hk
   have hdi : deps[i]? = some (deps[i]'(by omega)) := List.getElem?_eq_getElem _
   have hki := allR_iff.1 hk i (by
    have := mem_readyL (ls := ls) (ds := deps) (bs := ls) (k := 0) (i := i) hdi hli (allTrue_of fun j hj => by
     obtain ⟨e, he, hb, rfl⟩ := hds i oj _ (by simpa using hoj) hdi j hj
     have := hedges e he hb
     rw [isTrue_iff]
     have := getD_false_at.1 this
     rw [Array.getD_eq_getD_getElem?]
     simp [this])
    simpa using this)
   have hot : ops.toList[i]? = some oj := by simpa using hoj
   rw [hot] at hki
   obtain ⟨dst, op, ty, pos, after, guard⟩ := oj
   refine wpOp_sound hT hY hoj hg (fun d hdst => by rw [hs]; exact hd _ (List.mem_of_getElem? hot) d hdst) hki (fun e' h' s' L' F' a' w' hg' hs' tr' hk' => ?_) fun e' a' w' hp => .inr (hp.trans tr hs)
   have hset : ls.toArray.setIfInBounds i true = (setT ls i).toArray := by rw [setT_eq]; simp
   rw [hset]
   refine ih (by rw [setT_eq]; simpa using hl) ?_ hg' (hs'.trans hs) (Tr.trans tr tr') hk'
   rw [setT_eq]
   have := unl_set hli
   omega
variable {ft : FT}
theorem RegionA_all (hm : P.follows .mixedOrders = true) (hT : TysOk P T) (deps : List (List Nat)) {id : Nat} {ops : Array Oper} (hst : (okBack 0 ops.toList && depsOk ops.toList deps) = true) {e : Env} {h : Heap} {s : σ} {K : AExit → St σ → Prop}
  (hk : wpAnyA P T Y ops.toList deps deps.length (deps.map fun _ => false) e h s fun e h s => forceE (keepT ft.ks e) fun e => K .normal ⟨e, h, s⟩) : RegionA P ft Y id ops ⟨e, h, s⟩ K := by
 refine ⟨fun cx hY r m L F a w hg hc => ?_⟩
 rw [Bool.and_eq_true] at hst
 obtain ⟨hdl, _⟩ := depsOk_spec hst.2
 have hdl : ops.size = deps.length := by simpa using hdl
 refine wpIn_mono (wpIn_region_any (id := id) (Q := OpsPostP Y cx r m F w a.tmps.size (fun e h s => forceE (keepT ft.ks e) fun e => K .normal ⟨e, h, s⟩)) hm ?_) fun ex a' w' hq => ?_
 ·have hrep : Array.replicate ops.size false = (deps.map fun _ => false).toArray := by
   rw [hdl]
   have : ∀ l : List (List Nat), (l.map fun _ => false) = List.replicate l.length false := by
    intro l
    induction l with
    | nil => rfl
    | cons x r ih => rw [List.map_cons, ih]; rfl
   rw [this]; simp
  have hunl : ∀ l : List (List Nat), unl (l.map fun _ => false) = l.length := by
   intro l
   induction l with
   | nil => rfl
   | cons x r ih => simp [unl, ih]
  rw [hrep, hdl]
  exact wpAnyA_sound hT hY hst.1 hst.2 (opsOk_of hc) deps.length (by simp [hdl]) (hunl deps) (hg.same (w' := { w with drawn := w.drawn + 1 }) rfl rfl rfl rfl) rfl (Tr.drew _) hk
 ·rcases hq with ⟨e', h', s', L', F', hex, hk, hg', tr, hs⟩ | hp
  case inr => exact .inr hp
  rw [forceE_eq] at hk
  exact .inl ⟨.normal, _, m, L', F', hex, hk, hg'.sub (sub_keepT ft.ks e') (fun _ _ h => h), tr, hs⟩
end
end Go.PX
namespace Go.PX
mutual
def relax : D → D
 | .agg cs => .agg (relaxL cs)
 | .tup cs => .tup (relaxL cs)
 | .vs es => .vs (relaxE es)
 | .nils => .vs []
 | .ref cs => .ref (relaxL cs)
 | .bool b => .bool b
 | .int k n => .int k n
 | .str s => .str s
 | .nilp => .nilp
 | .mv kvs => .mv kvs
 | .nilm => .nilm
 | .clo f caps => .clo f caps
 | .mth f first => .mth f first
 | .nilf => .nilf
 | .ifc t v => .ifc t v
 | .nili => .nili
def relaxL : List D → List D
 | [] => []
 | c :: r => relax c :: relaxL r
def relaxE : List (List D) → List (List D)
 | [] => []
 | c :: r => relaxL c :: relaxE r
end
theorem relaxL_length : ∀ l : List D, (relaxL l).length = l.length
 | [] => rfl
 | c :: r => by simp only [relaxL, List.length_cons, relaxL_length r]
theorem relaxE_length : ∀ l : List (List D), (relaxE l).length = l.length
 | [] => rfl
 | c :: r => by simp only [relaxE, List.length_cons, relaxE_length r]
mutual
theorem RepD.relax {F : Nat → Nat} {w : World} : ∀ (a : D) (v : Value), RepD F w a v → RepD F w (relax a) v
 | .agg cs, _, hr => by
  obtain ⟨l, rfl, hl⟩ := hr
  exact ⟨l, rfl, RepDL.relax cs _ hl⟩
 | .tup cs, _, hr => by
  obtain ⟨l, rfl, hl⟩ := hr
  exact ⟨l, rfl, RepDL.relax cs _ hl⟩
 | .vs es, _, hr => by
  obtain ⟨a, len, cap, rfl, hl, hc, he⟩ := hr
  refine ⟨a, len, cap, rfl, by rw [relaxE_length]; exact hl, hc, fun hne => ?_⟩
  obtain ⟨b, off, sz, ha, hs, hes⟩ := he (by rintro rfl; exact hne rfl)
  exact ⟨b, off, sz, ha, hs, RepEs.relax es b off sz hes⟩
 | .nils, _, hr => by
  have hx : _ = Value.slice none 0 0 := hr
  subst hx
  exact ⟨none, 0, 0, rfl, rfl, Nat.le_refl _, fun h => absurd rfl h⟩
 | .ref cs, _, hr => by
  obtain ⟨b, off, rfl, hc⟩ := hr
  exact ⟨b, off, rfl, RepAt.relax cs b off hc⟩
 | .bool _, _, hr => hr
 | .int _ _, _, hr => hr
 | .str _, _, hr => hr
 | .nilp, _, hr => hr
 | .mv _, _, hr => hr
 | .nilm, _, hr => hr
 | .clo _ _, _, hr => hr
 | .mth _ _, _, hr => hr
 | .nilf, _, hr => hr
 | .ifc _ _, _, hr => hr
 | .nili, _, hr => hr
theorem RepDL.relax {F : Nat → Nat} {w : World} : ∀ (cs : List D) (l : List Value), RepDL F w cs l → RepDL F w (relaxL cs) l
 | [], _, hr => hr
 | c :: r, _, hr => by
  obtain ⟨x, l', rfl, hc, hl⟩ := hr
  exact ⟨x, l', rfl, RepD.relax c x hc, RepDL.relax r l' hl⟩
theorem RepAt.relax {F : Nat → Nat} {w : World} : ∀ (cs : List D) (b off : Nat), RepAt F w b off cs → RepAt F w b off (relaxL cs)
 | [], _, _, _ => trivial
 | c :: r, b, off, hr => by
  obtain ⟨hf, ⟨x, hx, hc⟩, hl⟩ := hr
  exact ⟨hf, ⟨x, hx, RepD.relax c x hc⟩, RepAt.relax r b (off + 1) hl⟩
theorem RepEs.relax {F : Nat → Nat} {w : World} : ∀ (es : List (List D)) (b off sz : Nat), RepEs F w b off sz es → RepEs F w b off sz (relaxE es)
 | [], _, _, _, _ => trivial
 | e :: r, b, off, sz, hr => by
  obtain ⟨hn, he, hl⟩ := hr
  exact ⟨by rw [relaxL_length]; exact hn, RepAt.relax e b off he, RepEs.relax r b (off + sz) sz hl⟩
end
theorem FnV.relax {P : Program} {f : FuncId} {ds : List D} {r : D} (h : FnV P f ds r) {r' : D} (hr : PX.relax r = r') : FnV P f ds r' := by
 subst hr
 intro σ Y s
 obtain ⟨h1, h2⟩ := h Y s
 refine ⟨h1, fun cx hY L F vals w hh hv => (h2 cx hY L F vals w hh hv).mono ?_⟩
 rintro e w' ⟨x, rfl, v, h', s', L', F', ⟨⟨rfl, rfl⟩, rfl⟩, hh', hx, tr, hp⟩
 exact ⟨x, rfl, _, _, _, L', F', ⟨⟨rfl, rfl⟩, rfl⟩, hh', RepD.relax r x hx, tr, hp⟩
section
variable {P : Program} {σ : Type} {Y : Hd σ}
theorem YldA_y {args0 : List V} {h0 : Heap} {s : σ} {Q : V → Heap → σ → Prop} (tb : List Nat) {e : Env} {h : Heap} {d : Option Nat} {args : List V} {K : St σ → Prop} (hy : Y.y args0 h0 s Q)
  (hargs : renL (callR tb (d.getD 0)) args0 = args) (hlent : lentOk (callR tb (d.getD 0)) h 1000000 tb h0) (htb : nodupB tb = true) (hln : Nat.ble tb.length 1000 = true)
  (hq : ∀ v h1 s', Q v h1 s' → callB tb d v h1 = true ∧ applyK (callWs tb d v h1) e h fun e h => K ⟨e, h, s'⟩) : YldA P Y ⟨e, h, s⟩ d args K := by
 refine yldY_of tb hy hargs hlent htb hln fun v h1 s' hv => ?_
 obtain ⟨h2, h3⟩ := hq v h1 s' hv
 refine ⟨h2, ?_⟩
 rw [applyK_eq s'] at h3
 have hs : (applyWs (⟨e, h, s'⟩ : St σ) (callWs tb d v h1)).s = s' := applyWs_s _ _
 generalize applyWs (⟨e, h, s'⟩ : St σ) (callWs tb d v h1) = st at h3 hs
 obtain ⟨e1, h1, s1⟩ := st
 simp only at hs; subst hs; exact h3
end
theorem CallA_rep {P : Program} {σ : Type} {Y : Hd σ} {st : St σ} {d : Option Nat} {f : FuncId} {args args' : List V} {K : St σ → Prop} (h : ∀ (yv : Option Nat) (L : Loc) (F : Nat → Nat) (w : World) (l : List Value), RepVL yv L F w args l → RepVL yv L F w args' l) (hc : CallA P Y st d f args' K) : CallA P Y st d f args K := by
 obtain ⟨h1, h2⟩ := hc
 exact ⟨h1, fun cx hY r m L F a w vals hg hd hr => h2 cx hY r m L F a w vals hg hd (h _ _ _ _ _ hr)⟩
theorem CallA_nil1 {P : Program} {σ : Type} {Y : Hd σ} {st : St σ} {d : Option Nat} {f : FuncId} {a : V} {r : List V} {K : St σ → Prop} (hc : CallA P Y st d f (a :: .d (.vs []) :: r) K) : CallA P Y st d f (a :: .d .nils :: r) K := by
 refine CallA_rep (fun yv L F w l h => ?_) hc
 obtain ⟨x, l', rfl, h1, y, l'', rfl, h2, h3⟩ := h
 exact ⟨x, _, rfl, h1, y, _, rfl, RepD.relax .nils y h2, h3⟩
def FT.less (ft : FT) (id : Nat) : FT := ⟨ft.ks, cut ft.tb id⟩
theorem yfreeL_inj : ∀ l : List D, yfreeL (inj l) = true
 | [] => rfl
 | x :: r => by simp only [inj, yfreeL, yfree, yfreeL_inj r]; rfl
theorem forceN_to {l : List Nat} {K : List Nat → Prop} (l' : List Nat) (h : l = l') (k : forceN l' K) : forceN l K := by subst h; exact k
theorem namesOfL_inj : ∀ l : List D, namesOfL (inj l) = []
 | [] => rfl
 | x :: r => by simp only [inj, namesOfL, namesOf, namesOfL_inj r]; rfl
theorem namesOfL_app : ∀ a b : List V, namesOfL (a ++ b) = namesOfL a ++ namesOfL b
 | [], b => rfl
 | x :: r, b => by simp only [List.cons_append, namesOfL, namesOfL_app r b, List.append_assoc]
theorem namesOfL_injL (l : List (List D)) (vs : List (List V)) : namesOfL (injL l ++ vs).flatten = namesOfL vs.flatten := by
 rw [List.flatten_append, namesOfL_app, injL_flatten, namesOfL_inj]; rfl
def FT.more (ft : FT) (id : Nat) (l : List Nat) : FT := ⟨ft.ks, ft.tb.map fun p => match Nat.beq p.1 id with
 | true => (p.1, ⟨p.2.made ++ l, p.2.ots⟩)
 | false => p⟩
theorem get_enterE : ∀ (l : List V) (i k : Nat) (v : V), l[k]? = some v → get (enterE i l) (i + k) = some v
 | [], _, k, v, h => by simp at h
 | a :: r, i, 0, v, h => by
  simp at h
  subst h
  simp [enterE, get]
 | a :: r, i, k + 1, v, h => by
  have hne : Nat.beq i (i + (k + 1)) = false := by
   rw [Bool.eq_false_iff]; intro e
   have := Nat.eq_of_beq_eq_true e; omega
  simp only [enterE, get, hne]
  rw [show i + (k + 1) = i + 1 + k by omega]
  exact get_enterE r (i + 1) k v (by simpa using h)
theorem RepVL.of {yv : Option Nat} {L : Loc} {F : Nat → Nat} {w : World} : ∀ {l : List V} {vals : List Value}, l.length = vals.length → (∀ (k : Nat) (v : V), l[k]? = some v → ∃ x, vals[k]? = some x ∧ RepV yv L F w v x) → RepVL yv L F w l vals
 | [], [], _, _ => rfl
 | [], _ :: _, h, _ => by simp at h
 | _ :: _, [], h, _ => by simp at h
 | v :: l, x :: vals, h, hk => by
  obtain ⟨y, hy, hr⟩ := hk 0 v rfl
  simp at hy
  subst hy
  exact ⟨x, vals, rfl, hr, RepVL.of (by simpa using h) fun k u hu => by simpa using hk (k + 1) u (by simpa using hu)⟩
theorem RetA_wk {σ : Type} {l l' : List V} {h h' : Heap} {s : σ} {Q : V → Heap → σ → Prop} (hw : Wk (⟨enterE 0 l, h, s⟩ : St σ) ⟨enterE 0 l', h', s⟩) (hlen : l'.length = l.length) (hl : Nat.ble l.length 1000 = true) (hr : RetA l' h' s Q) : RetA l h s Q := by
 obtain ⟨hr⟩ := hr
 refine ⟨fun cx L F vals w hh hv => ?_⟩
 have hvl : vals.length = l.length := by simpa using hv.length
 have hl := Nat.le_of_ble_eq_true hl
 have hg : Good { cx with pρ := L.ρ, pκ := L.κ, base := [] } none [] L F ⟨enterE 0 l, h, s⟩ { tmps := vals.toArray, defers := [] } w := by
  refine ⟨⟨hh.hg, hh.csz, hh.fresh, hh.obj, hh.own, hh.inj⟩, fun t v ht => ?_, rfl, (fun b hb => by cases hb), List.nodup_nil, (fun l hl => by cases hl), fun _ _ => ⟨rfl, rfl⟩, by simp; omega⟩
  obtain ⟨k, hk, hv'⟩ := get_enter ht
  rw [Nat.zero_add] at hk; subst hk
  obtain ⟨x, hx, hrx⟩ := hv.get t hv'
  exact ⟨x, by simpa using hx, hrx⟩
 obtain ⟨L1, F1, hg1, tr⟩ := hw _ _ _ _ _ _ _ hg
 have hv1 : RepVL cx.yv L1 F1 w l' vals := by
  refine RepVL.of (by omega) fun k v hk => ?_
  obtain ⟨x, hx, hrx⟩ := hg1.env k v (by simpa using get_enterE l' 0 k v hk)
  exact ⟨x, by simpa using hx, hrx⟩
 have hh1 : HeapOk cx L1 F1 h' s w := ⟨hg1.heap.hg, hg1.heap.csz, hg1.heap.fresh, hg1.heap.obj, hg1.heap.own, hg1.heap.inj⟩
 obtain ⟨v, h2, L2, F2, q1, q2, q3, q4, q5⟩ := hr cx L1 F1 vals w hh1 hv1
 refine ⟨v, h2, L2, F2, q1, q2, q3, Tr.trans tr q4, fun i hi => ?_⟩
 obtain ⟨p1, p2⟩ := q5 i hi
 obtain ⟨p3, p4⟩ := hg1.pin i hi
 exact ⟨p1.trans p3, p2.trans p4⟩
theorem keysOf_keepT (ids : List Nat) : ∀ (h : Heap) (i : Nat), i ∈ keysOf (keepT ids h) → i ∈ ids
 | [], i, hi => by simp [keepT, keysOf] at hi
 | (k, o) :: r, i, hi => by
  simp only [keepT] at hi
  split at hi
  ·rename_i hk
   simp only [keysOf, List.mem_cons] at hi
   rcases hi with rfl | hi
   ·exact inL_iff.1 hk
   ·exact keysOf_keepT ids r i hi
  ·exact keysOf_keepT ids r i hi
theorem Good.frzPart2 {σ : Type} {cx : Cx σ} {r : Option Nat} {m : List Nat} {L : Loc} {F : Nat → Nat} {st : St σ} {a : Act} {w : World} (hg : Good cx r m L F st a w) {h : Heap} (hsub : SubT h st.heap) (n : Nat) :
  ∃ F1, Good cx r m L F1 (applyWs st (delL (keysOf h))) a w ∧ Tr F w F1 w ∧ ∀ args vals, RepVL cx.yv L F w args vals → RepVL cx.yv L F1 w (replL (objD h n) args) vals := by
 have hok : HeapOk cx L F h st.s w := (hg.sub (e := st.env) (h := h) (fun _ _ h => h) hsub).heap
 have tr := frzAll_tr hok
 have hF1C : ∀ b, cx.C st.s b → frzAll L F h w b = F b := fun b hb => frzAll_C hok hb
 have hF1o : ∀ id o, get st.heap id = some o → id ∉ keysOf h → Backed L id o → frzAll L F h w (L.ρ id) = F (L.ρ id) := by
  intro id o hi hn hb
  refine frzAll_other ?_
  rintro ⟨j, p, hj, hbj, hij⟩
  have := hg.heap.inj j id p o (hsub j p hj) hi hbj hb hij
  subst this
  exact hn (keysOf_mem hj)
 have hfr := frzAll_fresh hok
 have hobj := objD_t hok n
 generalize frzAll L F h w = F1 at tr hF1C hF1o hfr hobj
 rw [applyWs_delL]
 have hget : ∀ i o, get (cutL st.heap (keysOf h)) i = some o → i ∉ keysOf h ∧ get st.heap i = some o := by
  intro i o hi
  rw [get_cutL] at hi
  split at hi
  ·cases hi
  ·rename_i hn; exact ⟨hn, hi⟩
 refine ⟨F1, ⟨⟨cx.stable hg.heap.hg tr hfr fun b hb => ⟨rfl, hF1C b hb⟩, hg.heap.csz, hfr, ?_, ?_, ?_⟩, ?_, hg.dfr, hg.mks, hg.mnd, hg.lk, hg.pin, hg.tsz⟩, tr, fun args vals hr => RepVL.repl tr hobj args vals hr⟩
 ·intro i o hi
  exact RepO.mono tr i o (fun _ _ => ⟨rfl, rfl⟩) ⟨rfl, rfl⟩ (fun _ => rfl) (hg.heap.obj i o (hget i o hi).2)
 ·intro i o hi hb
  obtain ⟨hn, h0⟩ := hget i o hi
  rw [hF1o i o h0 hn hb]
  exact hg.heap.own i o h0 hb
 ·intro i j o p hi hj hbi hbj he
  exact hg.heap.inj i j o p (hget i o hi).2 (hget j p hj).2 hbi hbj he
 ·intro t v ht
  obtain ⟨x, hx, hr⟩ := hg.env t v ht
  exact ⟨x, hx, RepV.mono tr v x (fun _ _ => ⟨rfl, rfl⟩) hr⟩
theorem outCall_part {P : Program} {f : FuncId} {ws : List Wr} (n : Nat) (ids : List Nat) {e : Env} {h : Heap} {d : Option Nat} {args : List V} (ho : OutCall P e (cutL h ids) d f (replL (objD (keepT ids h) n) args) ws) :
  OutCall P e h d f args (delL (keysOf (keepT ids h)) ++ ws) := by
 refine ⟨ho.1, fun {σ} cx hld r m L F st a w vals he hh hg hdt hr => ?_⟩
 have hsub : SubT (keepT ids h) st.heap := fun i o hi => hh i o (sub_keepT ids h i o hi)
 obtain ⟨F1, hg1, tr1, hvw⟩ := hg.frzPart2 hsub n
 rw [applyWs_append]
 refine (ho.2 cx hld r m L F1 (applyWs st (delL (keysOf (keepT ids h)))) a w vals (by rw [applyWs_delL]; exact he) (fun i o hi => ?_) hg1 hdt (hvw _ _ hr)).mono ?_
 ·rw [applyWs_delL]
  rw [get_cutL] at hi
  split at hi
  ·cases hi
  ·rename_i hn
   show get (cutL st.heap (keysOf (keepT ids h))) i = some o
   rw [get_cutL, if_neg fun hm => hn (keysOf_keepT ids h i hm)]
   exact hh i o hi
 ·rintro en w' ⟨x, rfl, L', F', hg', tr'⟩
  exact ⟨x, rfl, L', F', hg', Tr.trans tr1 tr'⟩
theorem DrawCall_part {P : Program} {f : FuncId} (n : Nat) (ids : List Nat) {e : Env} {h : Heap} {d : Option Nat} {args : List V} {K : List Wr → Prop}
  (hk : DrawCall P e (cutL h ids) d f (replL (objD (keepT ids h) n) args) fun ws => K (delL (keysOf (keepT ids h)) ++ ws)) : DrawCall P e h d f args K := by
 obtain ⟨ws, h1, h2⟩ := hk
 exact ⟨_, h1, outCall_part n ids h2⟩
theorem DrawCall_rep {P : Program} {f : FuncId} {e : Env} {h : Heap} {d : Option Nat} {args args' : List V} {K : List Wr → Prop} (hr : ∀ (yv : Option Nat) (L : Loc) (F : Nat → Nat) (w : World) (l : List Value), RepVL yv L F w args l → RepVL yv L F w args' l)
  (hk : DrawCall P e h d f args' K) : DrawCall P e h d f args K := by
 obtain ⟨ws, h1, h2⟩ := hk
 exact ⟨ws, h1, h2.1, fun {σ} cx hld r m L F st a w vals he hh hg hdt hv => h2.2 cx hld r m L F st a w vals he hh hg hdt (hr _ _ _ _ _ hv)⟩
theorem RepV_sl {yv : Option Nat} {L : Loc} {F : Nat → Nat} {w : World} {g : Nat → Option DO} {id sz n : Nat} {d : D} {x : Value} (h : RepV yv L F w (repl g (.sl id sz 0 n)) x) (hv : viewV g (.sl id sz 0 n) = some d) : RepD F w d x := by
 rw [repl_sl hv] at h
 exact h
end Go.PX
namespace Go.PX
open Go.Proofs
def groupsL (c : WCase) (set : Int) (t : Tired) (s : Slot) : Nat → List Int → Nat → List (List Int × Tired)
 | 0, p, _ => if (whyF c set t s p).1 = 0 then [(p, behindF c t p)] else []
 | left + 1, p, start => (List.range' start (c.men.length - start)).flatMap fun (i : Nat) => groupsL c set t s left (p ++ [(i : Int)]) (i + 1)
def groupsF (c : WCase) (set : Int) (t : Tired) : List (List Int × Tired) := groupsL c set t (slotAt c t) (slotAt c t).men.toNat [] 0
def itemV (x : List Int × Tired) : List V × Heap := ([.sl 1000000 1 0 x.1.length, .d x.2.d], [(1000000, .arr 1 (.dd (intsC x.1)))])
def grpCaps (c : WCase) (set : Int) (t : Tired) : List V := [.ptr 1000000 0, .d (.ref [crewD c set]), .d (.ref t.cells), .ptr 1000001 0, .ptr 1000002 0]
def grpArgs (c : WCase) (set : Int) (t : Tired) (start : Nat) : List V := [.d (i64 start), .ptr 1000000 0, .d (.ref [crewD c set]), .d (.ref t.cells), .ptr 1000001 0, .ptr 1000002 0]
def grpH (c : WCase) (set : Int) (t : Tired) (k n : Nat) (p : List Int) : Heap :=
 [(1000000, .box (.vv [.sl k 1 0 n])), (1000001, .box (.vv [.yld])), (1000002, .box (.vv [.clo 94 (grpCaps c set t)])), (k, .arr 1 (.dd (intsC p)))]
def ft94b : FT := ⟨ft94.ks, cut ft94.tb 3⟩
def rt94 : RT := match get ft94.tb 3 with
 | some r => r
 | none => ⟨[], []⟩
def GFill (c : WCase) (set : Int) (t : Tired) (s : Slot) (left : Nat) : Prop :=
 ∀ (start : Nat) (p : List Int), p.length + left = s.men.toNat → start ≤ c.men.length → RowIn c p → ∀ {σ : Type} (Y : Hd σ) (s0 : σ) (rest : List (List V × Heap)) (Q : σ → Prop),
  iterate Y.np ((groupsL c set t s left p start).map itemV ++ rest) s0 Q → FnC Try.prog Y 94 (grpArgs c set t start) (grpH c set t 1000003 p.length p) s0 fun v h' s' =>
   ∃ q, h' = grpH c set t 2000000 q.length q ∧ ((v = .d (.bool true) ∧ q = p ∧ iterate Y.np rest s' Q) ∨ (v = .d (.bool false) ∧ Q s'))
theorem gfill_zero {c : WCase} (hR : WR c) {set : Int} {t : Tired} {s : Slot} (hs : c.slots[t.slot.toNat]? = some s) (ht : 0 ≤ t.slot) (hto : TOk t) (hsm : 1 ≤ s.men ∧ s.men ≤ 2) : GFill c set t s 0 := by
 intro start p hp hst hrow σ Y s0 rest Q hit
 refine fnC_of mixed tysOk Try.func94 rfl (ft := ft94b) (args := grpArgs c set t start) (show fnB ft94b Try.f94 6 = true from by decide +kernel) ?_
 generalize Y.np = Y at hit ⊢
 conv=>whnf
 rw [show decide (0 ≤ t.slot) = true from decide_eq_true ht, show (List.map Slot.cells c.slots)[t.slot.toNat]? = some s.cells from by simp [hs]]
 conv=>whnf
 have hcl : (intsC p).length = p.length := by simp [intsC]
 refine brk_i (fun h0 => ?_) (fun h0 => absurd h0 (by simp; omega))
 conv=>whnf
 refine CallA_view (ds := [crewD c set, t.d, intsD p]) (wa91 c hR set t s hs ht p hrow (by omega)) rfl 1 (viewL_cons (g := _) rfl (viewL_cons rfl (viewL_cons (viewV_sl rfl (by simp [intsC])) rfl))) ?_
 conv=>whnf
 refine RegionA_seq mixed tysOk rt94 9 (by decide +kernel) (by decide +kernel) ?_
 conv=>whnf
 have hgl : groupsL c set t s 0 p start = if (whyF c set t s p).1 = 0 then [(p, behindF c t p)] else [] := rfl
 refine brk_i (fun h1 => ?_) (fun h1 => ?_)
 ·have h1 : ¬ (whyF c set t s p).1 = 0 := by simpa using h1
  rw [hgl, if_neg h1] at hit
  conv=>whnf
  refine RetA_hand [1000003] [.d (.bool true)] (grpH c set t 2000000 p.length p) rfl ⟨rfl, rfl, rfl, rfl, trivial⟩ rfl ?_
  exact ⟨p, rfl, .inl ⟨rfl, rfl, hit⟩⟩
 ·have h1 : (whyF c set t s p).1 = 0 := by simpa using h1
  rw [hgl, if_pos h1] at hit
  conv=>whnf
  refine DrawCall_view (ds := [crewD c set, t.d, intsD p]) (wa92 c hR set t hto p (by omega)) rfl 1 (viewL_cons (g := _) rfl (viewL_cons rfl (viewL_cons (viewV_sl rfl (by simp [intsC])) rfl))) ?_
  conv=>whnf
  refine YldA_y [1000003] (args0 := (itemV (p, behindF c t p)).1) (h0 := (itemV (p, behindF c t p)).2) hit rfl ⟨_, _, rfl, rfl, rfl⟩ rfl rfl ?_
  rintro v h1 s' ⟨rfl, hv⟩
  rcases hv with ⟨rfl, hi⟩ | ⟨rfl, hq⟩
  ·refine ⟨rfl, ?_⟩
   conv=>whnf
   refine RetA_hand [1000003] [.d (.bool true)] (grpH c set t 2000000 p.length p) rfl ⟨rfl, rfl, rfl, rfl, trivial⟩ rfl ?_
   exact ⟨p, rfl, .inl ⟨rfl, rfl, hi⟩⟩
  ·refine ⟨rfl, ?_⟩
   conv=>whnf
   refine RetA_hand [1000003] [.d (.bool false)] (grpH c set t 2000000 p.length p) rfl ⟨rfl, rfl, rfl, rfl, trivial⟩ rfl ?_
   exact ⟨p, rfl, .inr ⟨rfl, hq⟩⟩
theorem gfill_succ {c : WCase} (hR : WR c) {set : Int} {t : Tired} {s : Slot} (hs : c.slots[t.slot.toNat]? = some s) (ht : 0 ≤ t.slot) (hsm : 1 ≤ s.men ∧ s.men ≤ 2) {left : Nat} (ihl : GFill c set t s left) : GFill c set t s (left + 1) := by
 intro start p hp hst hrow σ Y s0 rest Q hit
 refine fnC_of mixed tysOk Try.func94 rfl (ft := ft94b) (args := grpArgs c set t start) (show fnB ft94b Try.f94 6 = true from by decide +kernel) ?_
 generalize Y.np = Y at hit ⊢
 conv=>whnf
 rw [show decide (0 ≤ t.slot) = true from decide_eq_true ht, show (List.map Slot.cells c.slots)[t.slot.toNat]? = some s.cells from by simp [hs]]
 conv=>whnf
 have hcl : (intsC p).length = p.length := by simp [intsC]
 have hmen := hR.men
 refine brk_i (fun h0 => absurd h0 (by simp; omega)) (fun h0 => ?_)
 conv=>whnf
 have hgl : groupsL c set t s (left + 1) p start = (List.range' start (c.men.length - start)).flatMap fun (i : Nat) => groupsL c set t s left (p ++ [(i : Int)]) (i + 1) := rfl
 rw [hgl] at hit
 refine LoopA_p (T := tys) tysOk (by exact drawsB_spec mixed tysOk (by decide +kernel)) (α := Nat × σ)
  (fun x => ⟨[(1, .ptr 1000000 0), (2, .d (.ref [crewD c set])), (3, .d (.ref t.cells)), (4, .ptr 1000001 0), (5, .ptr 1000002 0), (7, .d (.bool false)), (10, .d (i64 x.1))], grpH c set t 900000 p.length p, x.2⟩)
  (fun x => x.1 ≤ c.men.length ∧ iterate Y (((List.range' x.1 (c.men.length - x.1)).flatMap fun (i : Nat) => groupsL c set t s left (p ++ [(i : Int)]) (i + 1)).map itemV ++ rest) x.2 Q) (fun x => c.men.length - x.1) (start, s0)
  ((Wk.move 1000003 900000 rfl rfl).trans (Wk.sub ⟨rfl, rfl, rfl, rfl, rfl, rfl, rfl, trivial⟩ ⟨rfl, rfl, rfl, rfl, trivial⟩)) ⟨hst, hit⟩ ?_
 clear hit hst s0
 rintro ⟨i, s0⟩ ⟨hi, hit⟩
 simp only at hi hit
 conv=>whnf
 refine brk_i (fun h1 => ?_) (fun h1 => ?_)
 ·have h1 : i < c.men.length := by have := of_decide_eq_true h1; simp at this; omega
  obtain ⟨m, hm1⟩ : ∃ m, c.men.length - i = m + 1 := ⟨c.men.length - i - 1, by omega⟩
  rw [hm1, List.range'_succ, List.flatMap_cons, List.map_append, List.append_assoc] at hit
  conv=>whnf
  refine ownK_whole rfl ?_
  conv=>whnf
  refine ownK.mk (by simp [Els.len, hcl]) ?_
  conv=>whnf
  refine chk_i (by simp [Els.len, Els.part, hcl]; omega) ?_
  conv=>whnf
  refine arith_to (((i + 1 : Nat) : Int)) (by (try dsimp only); omega) (wrap_i64 (by (try dsimp only); omega)) ?_
  conv=>whnf
  have ih := ihl (i + 1) (p ++ [(i : Int)]) (by simp; omega) (by omega) (by
   intro j hj
   rcases List.mem_append.1 hj with hj | hj
   ·exact hrow j hj
   ·rw [List.mem_singleton] at hj; subst hj; omega) Y s0 _ Q hit.np
  refine CallA_y ih [1000000, 1000001, 1000002, 56] rfl ⟨_, _, rfl, (by
    show some (Obj.box (Cells.vv [V.sl 56 1 0 ((((intsC p).drop 0).take p.length).length + 1)])) = some (Obj.box (Cells.vv [V.sl 56 1 0 (p ++ [(i : Int)]).length]))
    simp [intsC]), _, _, rfl, rfl, _, _, rfl, rfl, _, _, rfl, (by
    show some (Obj.arr 1 (Els.dd ((((intsC p).drop 0).take p.length) ++ [[i64 (i : Int)]]))) = some (Obj.arr 1 (Els.dd (intsC (p ++ [(i : Int)]))))
    simp [intsC, List.take_of_length_le]), rfl⟩ rfl rfl ?_
  rintro v h1 s' ⟨q, rfl, hpost⟩
  rw [iterate_np] at hpost
  rcases hpost with ⟨rfl, rfl, hi2⟩ | ⟨rfl, hq⟩
  ·refine ⟨rfl, ?_⟩
   conv=>whnf
   refine arith_to (p.length : Int) (by simp) (wrap_i64 (by omega)) ?_
   conv=>whnf
   refine chk_i (by simp; omega) ?_
   conv=>whnf
   refine arith_to (((i + 1 : Nat) : Int)) (by (try dsimp only); omega) (wrap_i64 (by (try dsimp only); omega)) ?_
   conv=>whnf
   have hm2 : c.men.length - (i + 1) = m := by omega
   refine ⟨(i + 1, s'), by simp only; omega, ⟨by simp only; omega, by simp only; rw [hm2]; exact hi2⟩, (Wk.move 103840 900000 rfl rfl).trans ((Wk.shrink 900000 p.length rfl).trans ?_)⟩
   have hsh : (intsC (p ++ [(i : Int)])).take p.length = intsC p := by simp [intsC, List.take_left']
   refine Wk.sub ⟨rfl, rfl, rfl, rfl, rfl, rfl, rfl, trivial⟩ ⟨?_, rfl, ?_, ?_, trivial⟩
   ·rfl
   ·exact box_same rfl ⟨⟨rfl, ⟨rfl, rfl⟩, rfl, rfl, ⟨rfl, rfl⟩, ⟨rfl, rfl⟩, trivial⟩, trivial⟩
   ·show some (Obj.arr 1 (Els.dd ((intsC (p ++ [(i : Int)])).take p.length))) = _
    rw [hsh]
  ·refine ⟨rfl, ?_⟩
   conv=>whnf
   refine RetA_hand [103840] [.d (.bool false)] (grpH c set t 2000000 q.length q) rfl ⟨box_same rfl ⟨⟨rfl, rfl, rfl, rfl⟩, trivial⟩, rfl, box_same rfl ⟨⟨rfl, ⟨rfl, rfl⟩, rfl, rfl, ⟨rfl, rfl⟩, ⟨rfl, rfl⟩, trivial⟩, trivial⟩, rfl, trivial⟩ rfl ?_
   exact ⟨q, rfl, .inr ⟨rfl, hq⟩⟩
 ·have h1 : ¬ i < c.men.length := by have := of_decide_eq_false h1; simp at this; omega
  rw [show c.men.length - i = 0 by omega] at hit
  conv=>whnf
  refine RetA_hand [900000] [.d (.bool true)] (grpH c set t 2000000 p.length p) rfl ⟨box_same rfl ⟨⟨rfl, rfl, rfl, rfl⟩, trivial⟩, rfl, box_same rfl ⟨⟨rfl, ⟨rfl, rfl⟩, rfl, rfl, ⟨rfl, rfl⟩, ⟨rfl, rfl⟩, trivial⟩, trivial⟩, rfl, trivial⟩ rfl ?_
  exact ⟨p, rfl, .inl ⟨rfl, rfl, hit⟩⟩
theorem gfill {c : WCase} (hR : WR c) {set : Int} {t : Tired} {s : Slot} (hs : c.slots[t.slot.toNat]? = some s) (ht : 0 ≤ t.slot) (hto : TOk t) (hsm : 1 ≤ s.men ∧ s.men ≤ 2) (left : Nat) : GFill c set t s left := by
 induction left with
 | zero => exact gfill_zero hR hs ht hto hsm
 | succ n ih => exact gfill_succ hR hs ht hsm ih
theorem wa68 (c : WCase) (set : Int) (t : Tired) : FnV Try.prog 68 [crewD c set, t.d] (.clo 93 [.ref [crewD c set], .ref t.cells]) := by
 refine fnV_of mixed tysOk Try.func68 rfl (ft := ft68) 2 (by decide +kernel) (by rfl) fun {σ} Y st => ?_
 conv=>whnf
 exact RetA_view 1 rfl ⟨⟨rfl, rfl⟩, rfl⟩
theorem yields93 (c : WCase) (hR : WR c) (set : Int) (t : Tired) (hto : TOk t) (hts : t.slot < c.slots.length) : Yields Try.prog 93 [.ref [crewD c set], .ref t.cells] ((groupsF c set t).map itemV) := by
 intro γ Y g0 Q hit
 obtain ⟨s, hs⟩ : ∃ s, c.slots[t.slot.toNat]? = some s := ⟨c.slots[t.slot.toNat]'(by have := hto.slot; omega), by simp⟩
 have ht := hto.slot.1
 have hsm := (hR.slot s (List.mem_of_getElem? hs)).1
 have hsa : slotAt c t = s := by simp [slotAt, hs]
 refine fnC_of mixed tysOk Try.func93 rfl (ft := ft93) (args := [.yld, .d (.ref [crewD c set]), .d (.ref t.cells)]) (show fnB ft93 Try.f93 3 = true from by decide +kernel) ?_
 replace hit := hit.np
 generalize Y.np = Y at hit ⊢
 conv=>whnf
 have hit2 : iterate Y ((groupsL c set t s s.men.toNat [] 0).map itemV ++ []) g0 Q := by
  rw [List.append_nil]
  unfold groupsF at hit
  rw [hsa] at hit
  exact hit
 refine CallA_y (gfill hR hs ht hto hsm s.men.toNat 0 [] (by simp) (by omega) (by intro m hm; cases hm) Y g0 [] Q hit2.np) [4, 3, 5, 6] rfl ⟨_, _, rfl, rfl, _, _, rfl, rfl, _, _, rfl, rfl, _, _, rfl, rfl, rfl⟩ rfl rfl ?_
 rintro v h1 s' ⟨q, rfl, hpost⟩
 rcases hpost with ⟨rfl, _, hi⟩ | ⟨rfl, hq⟩
 ·refine ⟨rfl, ?_⟩
  conv=>whnf
  exact RetA_view 0 rfl ⟨rfl, hi⟩
 ·refine ⟨rfl, ?_⟩
  conv=>whnf
  exact RetA_view 0 rfl ⟨rfl, hq⟩
end Go.PX
namespace Go.PX
open Go.Proofs
theorem item_okL (x : List Int × Tired) : okL (itemV x).1 (itemV x).2 = true := by
 have h : yfreeO (.arr 1 (.dd (intsC x.1))) = true := by
  simp only [yfreeO, Els.toV]
  rw [injL_flatten]
  exact yfreeL_inj _
 show (allB (inRange 1000000 64) [1000000] && allB (inRange 1000000 64) [1000000] && (yfreeL [.sl 1000000 1 0 x.1.length, .d x.2.d] && (yfreeO (.arr 1 (.dd (intsC x.1))) && true))) = true
 rw [h]
 rfl
theorem wa69o (l : List Int) (hl : l.length ≤ 1000) : FnU Try.prog 69 [.sl 1000000 1 0 l.length] [(1000000, .arr 1 (.dd (intsC l)))] fun v h' => v = .sl 2000000 1 0 l.length ∧ h' = [(1000000, .arr 1 (.dd (intsC l))), (2000000, .arr 1 (.dd (intsC l)))] := by
 intro σ Y s
 refine fnC_of mixed tysOk Try.func69 rfl (ft := ft69) (args := [.sl 1000000 1 0 l.length]) (show fnB ft69 Try.f69 1 = true from by decide +kernel) ?_
 conv=>whnf
 refine chk_i (by simp; rfl) ?_
 conv=>whnf
 refine chk_i (decide_eq_true (by dsimp only; omega)) ?_
 conv=>whnf
 refine ownK_whole (by simp [Els.len, intsC]) ?_
 conv=>whnf
 refine chk_i ?_ ?_
 ·simp only [List.length_replicate, Bool.and_eq_true]
  refine ⟨by rw [Nat.ble_eq]; omega, ?_⟩
  clear hl
  induction l with
  | nil => rfl
  | cons x r ih => exact ih
 conv=>whnf
 have hn : ((l.length : Int)).toNat = l.length := by omega
 have hcl : (intsC l).length = l.length := by simp [intsC]
 have e1 : (List.take 0 (List.replicate (↑l.length : Int).toNat [D.int IntKind.i64 0]) ++ List.take (min (intsC l).length (↑l.length : Int).toNat) (intsC l) ++ List.drop (0 + min (intsC l).length (↑l.length : Int).toNat) (List.replicate (↑l.length : Int).toNat [D.int IntKind.i64 0])) = intsC l := by
  rw [hn, hcl]
  simp [List.take_of_length_le, hcl]
 rw [e1, hn]
 refine RetA_hand [6] [.sl 2000000 1 0 l.length] [(1000000, .arr 1 (.dd (intsC l))), (2000000, .arr 1 (.dd (intsC l)))] rfl ⟨rfl, rfl, trivial⟩ rfl ?_
 exact ⟨⟨rfl, rfl⟩, rfl⟩
def rotaN (l : List (List Int)) : D := match l with
 | [] => .nils
 | x :: r => rotaD (x :: r)
theorem walk_ok {c : WCase} (hR : WR c) {set : Int} : ∀ {rota : List (List Int)} {t : Tired} {i : Int} {k : Int}, 3 ≤ k → (0 ≤ t.slot ∧ t.slot < c.slots.length) → TB t k → (0 ≤ (walkF c set t rota i).2.slot ∧ (walkF c set t rota i).2.slot < c.slots.length) ∧ TB (walkF c set t rota i).2 (k + rota.length)
 | [], t, i, k, _, hs, hb => ⟨hs, by simpa [walkF] using hb⟩
 | r :: rest, t, i, k, hk, hs, hb => by
  rw [walkF]
  split
  ·have := walk_ok hR (set := set) (rota := rest) (t := behindF c t r) (i := i + 1) (k := k + 1) (by omega) (behind_slot hR hs.1) (behind_TB hR hk hb)
   rw [show k + ((r :: rest).length : Int) = k + 1 + rest.length by simp; omega]
   exact this
  ·refine ⟨hs, ?_⟩
   constructor <;> have := hb.m0 <;> have := hb.m1 <;> have := hb.m2 <;> have := hb.m3 <;> have := hb.m4 <;> simp only [List.length_cons] <;> omega
theorem TB.tok {c : WCase} (hR : WR c) {t : Tired} {k : Int} (hk : k ≤ 1000) (hs : 0 ≤ t.slot ∧ t.slot < c.slots.length) (h : TB t k) : TOk t := by
 have := hR.slots
 constructor <;> have := h.m0 <;> have := h.m1 <;> have := h.m2 <;> have := h.m3 <;> have := h.m4 <;> omega
theorem goodT_ok {c : WCase} {rota : List (List Int)} (h0 : goodE c rota = 0) : WR c ∧ rota.length ≤ 40 ∧ TOk (goodT c rota) ∧ (goodT c rota).slot < c.slots.length := by
 have hE : entE c rota = 0 := by
  unfold goodE at h0
  split at h0
  ·assumption
  ·exact h0
 obtain ⟨hR, hl, hall⟩ := ent_ok hE
 have hz := TG.zero hR
 obtain ⟨h1, h2⟩ := walk_ok hR (set := allMen c) (rota := rota) (t := .zero) (i := 0) (k := 100) (by omega) hz.slot hz.bd
 exact ⟨hR, hl, TB.tok hR (by omega) h1 h2, h1.2⟩
theorem groupsL_len {c : WCase} {set : Int} {t : Tired} {s : Slot} : ∀ {left : Nat} {p : List Int} {start : Nat} {x : List Int × Tired}, x ∈ groupsL c set t s left p start → x.1.length = p.length + left
 | 0, p, start, x, h => by
  rw [groupsL] at h
  split at h
  ·rw [List.mem_singleton] at h; subst h; rfl
  ·cases h
 | left + 1, p, start, x, h => by
  rw [groupsL, List.mem_flatMap] at h
  obtain ⟨i, _, h⟩ := h
  have := groupsL_len h
  simp at this
  omega
theorem groups_len {c : WCase} (hR : WR c) {set : Int} {t : Tired} {x : List Int × Tired} (h : x ∈ groupsF c set t) : x.1.length ≤ 2 := by
 have h1 := groupsL_len h
 have h2 : (slotAt c t).men.toNat ≤ 2 := by
  unfold slotAt
  cases hs : c.slots[t.slot.toNat]? with
  | none => simp
  | some s =>
   have := (hR.slot s (List.mem_of_getElem? hs)).1
   simp; omega
 simp at h1
 omega
theorem flatMap_len {α β : Type} {f : α → List β} {k : Nat} : ∀ {l : List α}, (∀ x ∈ l, (f x).length ≤ k) → (l.flatMap f).length ≤ l.length * k
 | [], _ => by simp
 | x :: r, h => by
  have h1 := h x (by simp)
  have h2 := flatMap_len (f := f) (k := k) (l := r) fun y hy => h y (by simp [hy])
  rw [List.flatMap_cons, List.length_append, List.length_cons, Nat.add_mul]
  omega
theorem groupsL_many {c : WCase} (hR : WR c) {set : Int} {t : Tired} {s : Slot} : ∀ {left : Nat} {p : List Int} {start : Nat}, (groupsL c set t s left p start).length ≤ 5 ^ left
 | 0, p, start => by
  rw [groupsL]
  split <;> simp
 | left + 1, p, start => by
  rw [groupsL]
  refine Nat.le_trans (flatMap_len (k := 5 ^ left) fun i _ => groupsL_many hR) ?_
  rw [List.length_range', Nat.pow_succ, Nat.mul_comm]
  exact Nat.mul_le_mul_left _ (by have := hR.men; omega)
theorem groups_many {c : WCase} (hR : WR c) {set : Int} {t : Tired} : (groupsF c set t).length ≤ 25 := by
 have h2 : (slotAt c t).men.toNat ≤ 2 := by
  unfold slotAt
  cases hs : c.slots[t.slot.toNat]? with
  | none => simp
  | some s =>
   have := (hR.slot s (List.mem_of_getElem? hs)).1
   simp; omega
 refine Nat.le_trans (groupsL_many hR) ?_
 exact Nat.le_trans (Nat.pow_le_pow_right (by omega) h2) (by decide)
def canL (c : WCase) (rota : List (List Int)) : List (List Int) := (groupsF c (allMen c) (goodT c rota)).map (·.1)
theorem wa22 (c : WCase) (rota : List (List Int)) : FnV Try.prog 22 [c.d, rotaD rota] (.tup [if goodE c rota = 0 then rotaN (canL c rota) else .nils, i64 (goodE c rota)]) := by
 refine fnV_of mixed tysOk Try.func22 rfl (ft := (ft22.more 6 [101664])) 2 (by decide +kernel) (by rfl) fun {σ} Y st => ?_
 conv=>whnf
 refine CallA_v (wa66 c rota) rfl rfl ?_
 conv=>whnf
 by_cases h0 : goodE c rota = 0
 ·obtain ⟨hR, hl, hto, hts⟩ := goodT_ok h0
  rw [h0]
  simp only [if_true]
  conv=>whnf
  refine CallA_v (wa68 c (allMen c) (goodT c rota)) rfl rfl ?_
  conv=>whnf
  refine RangeA_list tysOk (by exact drawsB_spec mixed tysOk (by decide +kernel)) (by exact drawsB_spec mixed tysOk (by decide +kernel)) rfl 1500000 1600000 [2, 4, 7] (by exact yields93 c hR (allMen c) (goodT c rota) hto hts)
   (fun (x : List (List Int)) => match x with
    | [] => ([(1500000, .box (.dd c.cells)), (1500001, .box (.dd [.nils])), (1500002, .box (.dd (goodT c rota).cells))], st)
    | g :: r => ([(1500000, .box (.dd c.cells)), (1500001, .box (.vv [.sl 28 1 0 (g :: r).length])), (1500002, .box (.dd (goodT c rota).cells)), (28, .arr 1 (.dd ((g :: r).map fun r => [intsD r])))], st))
   (fun rest x => canL c rota = x ++ rest.map (fun (p : List Int × Tired) => p.1) ∧ ∀ p ∈ rest, p.1.length ≤ 2) [] rfl rfl rfl ⟨rfl, fun p hp => groups_len hR hp⟩ ?_ ?_
  ·rintro ⟨g, u⟩ rest acc ⟨he, hgs⟩ Q hQ1 -
   have hgl : g.length ≤ 1000 := by have := hgs (g, u) (by simp); simp only at this; omega
   refine ⟨⟨rfl, item_okL _⟩, ?_⟩
   cases acc with
   | nil =>
    conv=>whnf
    refine DrawCall_fn (wa69o g hgl) [1600000] rfl ⟨_, _, rfl, rfl, rfl⟩ rfl ?_
    conv=>whnf
    refine ownK_whole rfl ?_
    conv=>whnf
    refine ⟨[g], (Wk.frzArr 1 [101664] 28 (vs := [[.sl 101664 1 0 g.length]]) (ds := [[intsD g]]) rfl (viewLL_one (viewL_cons (viewV_sl rfl (by simp [intsC])) rfl))).trans (Wk.sub trivial ⟨(by first | rfl | (simp only [List.length_map]; rfl) | simp [PX.get]), (by first | rfl | (simp only [List.length_map]; rfl) | simp [PX.get]), (by first | rfl | (simp only [List.length_map]; rfl) | simp [PX.get]), (by first | rfl | (simp only [List.length_map]; rfl) | simp [PX.get]), (by first | rfl | (simp only [List.length_map]; rfl) | simp [PX.get]), trivial⟩), rfl, hQ1 _ ⟨by simpa using he, fun p hp => hgs p (by simp [hp])⟩⟩
   | cons a r =>
    conv=>whnf
    refine DrawCall_fn (wa69o g hgl) [1600000] rfl ⟨_, _, rfl, rfl, rfl⟩ rfl ?_
    conv=>whnf
    refine ownK_whole rfl ?_
    conv=>whnf
    refine ownK_whole (by simp [Els.len]) ?_
    conv=>whnf
    have hacc : (a :: r).length ≤ 25 := by
     have h1 : (canL c rota).length ≤ 25 := by unfold canL; rw [List.length_map]; exact groups_many hR
     rw [he] at h1
     simp at h1 ⊢; omega
    have hfree : (true && !nameBL 28 ((injL ((a :: r).map fun r => [intsD r]) ++ [[V.sl 101664 1 0 g.length]]).flatten)) = true := by
     rw [nameBL_injL]; rfl
    refine chk_i hfree ?_
    conv=>whnf
    refine chk_i (decide_eq_true (by
     show (((a :: r).map fun r => [intsD r]).length + 1) * 24 ≤ 140737488355328
     rw [List.length_map]; omega)) ?_
    conv=>whnf
    refine forceN_to [101664, 28] (by
     show namesOfL ((injL ((a :: r).map fun r => [intsD r]) ++ [[V.sl 101664 1 0 g.length]]).flatten) ++ ([28] ++ []) = _
     rw [namesOfL_injL]; rfl) ?_
    conv=>whnf
    refine ⟨a :: r ++ [g], (Wk.frzArr 1 [101664] 28 (sz := 1) (vs := injL ((a :: r).map fun r => [intsD r]) ++ [[.sl 101664 1 0 g.length]]) (ds := ((a :: r).map fun r => [intsD r]) ++ [[intsD g]]) ?_ (viewLL_app (viewLL_one (viewL_cons (viewV_sl rfl (by simp [intsC])) rfl)) _)).trans ?_, rfl, hQ1 _ ⟨by simpa using he, fun p hp => hgs p (by simp [hp])⟩⟩
    ·rfl
    ·refine Wk.sub trivial ⟨rfl, ?_, rfl, ?_, rfl, trivial⟩
     ·show some (Obj.box (Cells.vv [V.sl 28 1 0 (((a :: r).map fun r => [intsD r]).length + 1)])) = some (Obj.box (Cells.vv [V.sl 28 1 0 (a :: (r ++ [g])).length]))
      simp
     ·show some (Obj.arr 1 (Els.dd (((a :: r).map fun r => [intsD r]) ++ [[intsD g]]))) = some (Obj.arr 1 (Els.dd ((a :: (r ++ [g])).map fun r => [intsD r])))
      simp
  ·rintro acc ⟨he, _⟩
   have he : canL c rota = acc := by simpa using he
   rw [he]
   cases acc with
   | nil =>
    conv=>whnf
    refine RetA_view 0 rfl ⟨⟨?_, rfl⟩, rfl⟩
    simp [packD, rotaN]
   | cons a r =>
    conv=>whnf
    refine RetA_view 1 (ds := [rotaD (a :: r), i64 0]) ?_ ⟨⟨?_, rfl⟩, rfl⟩
    ·exact viewL_cons (viewV_sl (es := (a :: r).map fun r => [intsD r]) rfl (by simp)) rfl
    ·simp [packD, rotaN]
 ·rw [if_neg h0, if_neg h0]
  conv=>whnf
  refine brk_i (fun _ => ?_) (fun h1 => absurd h1 (by simp [h0]))
  conv=>whnf
  rw [if_neg h0]
  exact RetA_view 0 rfl ⟨⟨rfl, rfl⟩, rfl⟩
end Go.PX
namespace Go.PX
open Go.Proofs
abbrev Kn := List (Tired × Int)
def knD (kn : Kn) : List (D × D) := kn.map fun p => (p.1.d, i64 p.2)
def getK : Kn → Tired → Option Int
 | [], _ => none
 | (u, x) :: r, t => if t = u then some x else getK r t
def putK : Kn → Tired → Int → Kn
 | [], t, v => [(t, v)]
 | (u, x) :: r, t, v => if t = u then (t, v) :: r else (u, x) :: putK r t v
theorem same_tired (t u : Tired) : sameD t.d u.d = some (decide (t = u)) := by
 have h : sameL t.cells u.cells = some (decide (t.slot = u.slot) && (decide (t.m0 = u.m0) && (decide (t.m1 = u.m1) && (decide (t.m2 = u.m2) && (decide (t.m3 = u.m3) && (decide (t.m4 = u.m4) && true)))))) := rfl
 show sameL t.cells u.cells = _
 rw [h]
 congr 1
 cases t; cases u
 simp [Bool.and_assoc]
theorem find_kn_none {kn : Kn} {t : Tired} (h : getK kn t = none) : ∀ n, findD t.d (knD kn) n = some none := by
 induction kn with
 | nil => intro n; rfl
 | cons p r ih =>
  obtain ⟨u, x⟩ := p
  intro n
  rw [getK] at h
  split at h
  ·cases h
  ·rename_i hu
   show (match sameD t.d u.d with
    | some true => some (some (n, i64 x))
    | some false => findD t.d (knD r) (n + 1)
    | none => none) = _
   rw [same_tired, decide_eq_false hu]
   exact ih h (n + 1)
theorem find_kn_some {kn : Kn} {t : Tired} {v : Int} (h : getK kn t = some v) : ∀ n, ∃ i, findD t.d (knD kn) n = some (some (n + i, i64 v)) ∧ ∀ y, (knD kn).set i (t.d, i64 y) = knD (putK kn t y) := by
 induction kn with
 | nil => cases h
 | cons p r ih =>
  obtain ⟨u, x⟩ := p
  intro n
  rw [getK] at h
  split at h
  ·rename_i hu
   cases h
   refine ⟨0, ?_, fun y => ?_⟩
   ·show (match sameD t.d u.d with
     | some true => some (some (n, i64 v))
     | some false => findD t.d (knD r) (n + 1)
     | none => none) = _
    rw [same_tired, decide_eq_true hu]; rfl
   ·rw [putK, if_pos hu]; rfl
  ·rename_i hu
   obtain ⟨i, h1, h2⟩ := ih h (n + 1)
   refine ⟨i + 1, ?_, fun y => ?_⟩
   ·show (match sameD t.d u.d with
     | some true => some (some (n, i64 x))
     | some false => findD t.d (knD r) (n + 1)
     | none => none) = _
    rw [same_tired, decide_eq_false hu]
    show findD t.d (knD r) (n + 1) = _
    rw [h1, show n + 1 + i = n + (i + 1) by omega]
   ·rw [putK, if_neg hu]
    show (u.d, i64 x) :: (knD r).set i (t.d, i64 y) = (u.d, i64 x) :: knD (putK r t y)
    rw [h2 y]
theorem put_kn_none {kn : Kn} {t : Tired} (h : getK kn t = none) (y : Int) : knD kn ++ [(t.d, i64 y)] = knD (putK kn t y) := by
 induction kn with
 | nil => rfl
 | cons p r ih =>
  obtain ⟨u, x⟩ := p
  rw [getK] at h
  split at h
  ·cases h
  ·rename_i hu
   rw [putK, if_neg hu]
   show (u.d, i64 x) :: (knD r ++ [(t.d, i64 y)]) = _
   rw [ih h]; rfl
theorem get_put_kn (kn : Kn) (t u : Tired) (y : Int) : getK (putK kn t y) u = if u = t then some y else getK kn u := by
 induction kn with
 | nil => rfl
 | cons p r ih =>
  obtain ⟨w, x⟩ := p
  rw [putK]
  split
  ·rename_i h
   subst h
   simp only [getK]
   split <;> rfl
  ·rename_i h
   simp only [getK]
   split
   ·rename_i h2
    subst h2
    rw [if_neg (fun e => h e.symm)]
   ·exact ih
def freshK (kn : Kn) (t : Tired) : Bool := !(getK kn t == some 1 || getK kn t == some 2 || getK kn t == some 3)
def tryF (f : Kn → Tired → Bool × Kn) : Kn → List Tired → Bool × Kn
 | kn, [] => (false, kn)
 | kn, u :: r => if (f kn u).1 then (true, (f kn u).2) else tryF f (f kn u).2 r
def endF (c : WCase) (set : Int) : Nat → Kn → Tired → Bool × Kn
 | 0, kn, t => (getK kn t == some 2 || getK kn t == some 1, kn)
 | n + 1, kn, t =>
  if getK kn t = some 2 ∨ getK kn t = some 1 then (true, kn)
  else if getK kn t = some 3 then (false, kn)
  else
   let r := tryF (endF c set n) (putK kn t 1) ((groupsF c set t).map (·.2))
   (r.1, putK r.2 t (if r.1 then 2 else 3))
structure InU (c : WCase) (t : Tired) : Prop where
 slot : 0 ≤ t.slot ∧ t.slot < c.slots.length
 m : ∀ j, j < 5 → -2 ≤ t.get j ∧ t.get j ≤ 3
def val6 : List Int := [-2, -1, 0, 1, 2, 3]
def univ (c : WCase) : List Tired := (List.range c.slots.length).flatMap fun s => val6.flatMap fun a => val6.flatMap fun b => val6.flatMap fun d => val6.flatMap fun e => val6.map fun f => ⟨(s : Nat), a, b, d, e, f⟩
theorem mem_val6 {x : Int} (h : -2 ≤ x ∧ x ≤ 3) : x ∈ val6 := by
 have : x = -2 ∨ x = -1 ∨ x = 0 ∨ x = 1 ∨ x = 2 ∨ x = 3 := by omega
 rcases this with rfl | rfl | rfl | rfl | rfl | rfl <;> decide
theorem InU.mem {c : WCase} {t : Tired} (h : InU c t) : t ∈ univ c := by
 obtain ⟨hs, hm⟩ := h
 simp only [univ, List.mem_flatMap, List.mem_map, List.mem_range]
 refine ⟨t.slot.toNat, by omega, t.m0, mem_val6 (hm 0 (by decide)), t.m1, mem_val6 (hm 1 (by decide)), t.m2, mem_val6 (hm 2 (by decide)), t.m3, mem_val6 (hm 3 (by decide)), t.m4, mem_val6 (hm 4 (by decide)), ?_⟩
 have : ((t.slot.toNat : Nat) : Int) = t.slot := by omega
 rw [this]
theorem flatMap_len_eq {α β : Type} {f : α → List β} {k : Nat} : ∀ {l : List α}, (∀ x, (f x).length = k) → (l.flatMap f).length = l.length * k
 | [], _ => by simp
 | x :: r, h => by
  rw [List.flatMap_cons, List.length_append, h x, flatMap_len_eq (l := r) h, List.length_cons, Nat.add_mul]
  omega
theorem univ_len (c : WCase) : (univ c).length = c.slots.length * 7776 := by
 unfold univ
 rw [flatMap_len_eq (k := 7776), List.length_range]
 intro s
 rw [flatMap_len_eq (k := 1296)]; · rfl
 intro a
 rw [flatMap_len_eq (k := 216)]; · rfl
 intro b
 rw [flatMap_len_eq (k := 36)]; · rfl
 intro d
 rw [flatMap_len_eq (k := 6)]; · rfl
 intro e
 rfl
def cntK (c : WCase) (kn : Kn) : Nat := ((univ c).filter (freshK kn)).length
theorem filter_le {α : Type} {p q : α → Bool} (h : ∀ x, q x = true → p x = true) : ∀ (l : List α), (l.filter q).length ≤ (l.filter p).length
 | [] => Nat.le_refl _
 | x :: r => by
  have := filter_le h r
  rw [List.filter_cons, List.filter_cons]
  by_cases hq : q x = true
  ·rw [if_pos hq, if_pos (h x hq)]; simp; omega
  ·rw [if_neg hq]
   split
   ·simp; omega
   ·exact this
theorem filter_lt {α : Type} {p q : α → Bool} (h : ∀ x, q x = true → p x = true) : ∀ {l : List α} {y : α}, y ∈ l → p y = true → q y = false → (l.filter q).length < (l.filter p).length
 | [], y, hy, _, _ => by cases hy
 | x :: r, y, hy, hp, hq => by
  rw [List.filter_cons, List.filter_cons]
  rcases List.mem_cons.1 hy with rfl | hy
  ·rw [if_pos hp, if_neg (by rw [hq]; simp)]
   have := filter_le h r
   simp; omega
  ·have := filter_lt h hy hp hq
   by_cases hq' : q x = true
   ·rw [if_pos hq', if_pos (h x hq')]; simp; omega
   ·rw [if_neg hq']
    split
    ·simp; omega
    ·exact this
def KnLe (a b : Kn) : Prop := ∀ t, freshK b t = true → freshK a t = true
theorem KnLe.cnt {c : WCase} {a b : Kn} (h : KnLe a b) : cntK c b ≤ cntK c a := filter_le h _
theorem KnLe.put (kn : Kn) (t : Tired) {y : Int} (hy : y = 1 ∨ y = 2 ∨ y = 3) : KnLe kn (putK kn t y) := by
 intro u hu
 unfold freshK at hu ⊢
 rw [get_put_kn] at hu
 split at hu
 ·rcases hy with rfl | rfl | rfl <;> simp at hu
 ·exact hu
theorem cnt_put {c : WCase} {kn : Kn} {t : Tired} (ht : InU c t) (hf : freshK kn t = true) : cntK c (putK kn t 1) < cntK c kn := by
 refine filter_lt (KnLe.put kn t (.inl rfl)) ht.mem hf ?_
 unfold freshK
 rw [get_put_kn, if_pos rfl]; rfl
theorem tryF_le {f : Kn → Tired → Bool × Kn} (hf : ∀ kn t, KnLe kn (f kn t).2) : ∀ (l : List Tired) (kn : Kn), KnLe kn (tryF f kn l).2
 | [], kn => fun _ h => h
 | u :: r, kn => by
  rw [tryF]
  split
  ·exact hf kn u
  ·exact fun t h => hf kn u t (tryF_le hf r _ t h)
theorem endF_le {c : WCase} {set : Int} : ∀ (n : Nat) (kn : Kn) (t : Tired), KnLe kn (endF c set n kn t).2
 | 0, kn, t => fun _ h => h
 | n + 1, kn, t => by
  rw [endF]
  split
  ·exact fun _ h => h
  split
  ·exact fun _ h => h
  intro u hu
  refine KnLe.put kn t (y := 1) (.inl rfl) u (tryF_le (endF_le n) _ _ u (KnLe.put _ t ?_ u hu))
  split
  ·exact .inr (.inl rfl)
  ·exact .inr (.inr rfl)
theorem why_zero {c : WCase} {set : Int} {t : Tired} {s : Slot} {p : List Int} (h : (whyF c set t s p).1 = 0) : (p.length : Int) = s.men ∧ (∃ m ∈ p, (manAt c m).kind ≥ s.least) ∧ (∀ m ∈ p, inSet set m = true ∧ t.slot ∉ (manAt c m).no) ∧ (∀ m ∈ p, t.get m.toNat < c.run) ∧ (∀ m ∈ p, 0 ≤ t.get m.toNat) := by
 unfold whyF at h
 split at h
 ·simp at h
 rename_i h1
 split at h
 ·simp at h
 rename_i h2
 split at h
 ·simp at h
 rename_i h3
 split at h
 ·simp at h
 rename_i h4
 split at h
 ·simp at h
 rename_i h5
 refine ⟨by simpa using h1, ?_, ?_, ?_, ?_⟩
 ·simpa using h2
 ·intro m hm
  have := List.find?_eq_none.1 h3 m hm
  simpa using this
 ·intro m hm
  have := List.find?_eq_none.1 h4 m hm
  simpa using this
 ·intro m hm
  have := List.find?_eq_none.1 h5 m hm
  simpa using this
theorem behind_get {c : WCase} (hR : WR c) {t : Tired} {group : List Int} {j : Nat} (hj : j < 5) : (behindF c t group).get j = if j < c.men.length then tireF c.rest (decide ((j : Int) ∈ group)) (t.get j) else t.get j := by
 have hm := hR.men
 unfold behindF
 rw [tireTo_get (by omega) hj]
 have h2 : (Tired.mk ((t.slot + 1).tmod c.slots.length) t.m0 t.m1 t.m2 t.m3 t.m4).get j = t.get j := by
  have h2 : j = 0 ∨ j = 1 ∨ j = 2 ∨ j = 3 ∨ j = 4 := by omega
  rcases h2 with rfl | rfl | rfl | rfl | rfl <;> rfl
 show (if j < c.men.length then tireF c.rest (decide ((j : Int) ∈ group)) ((Tired.mk ((t.slot + 1).tmod c.slots.length) t.m0 t.m1 t.m2 t.m3 t.m4).get j) else (Tired.mk ((t.slot + 1).tmod c.slots.length) t.m0 t.m1 t.m2 t.m3 t.m4).get j) = _
 rw [h2]
theorem behind_InU {c : WCase} (hR : WR c) {set : Int} {t : Tired} {s : Slot} {p : List Int} (ht : InU c t) (h : (whyF c set t s p).1 = 0) : InU c (behindF c t p) := by
 have hr := hR.run
 have hre := hR.rest
 obtain ⟨_, _, _, h4, h5⟩ := why_zero h
 refine ⟨behind_slot hR ht.slot.1, fun j hj => ?_⟩
 have := ht.m j hj
 rw [behind_get hR hj]
 split
 ·unfold tireF
  split
  ·rename_i hin
   have hin : (j : Int) ∈ p := of_decide_eq_true hin
   have h6 := h4 _ hin
   have h7 := h5 _ hin
   simp only [Int.toNat_natCast] at h6 h7
   omega
  ·split
   ·omega
   ·split <;> omega
 ·exact this
theorem groupsL_ok {c : WCase} {set : Int} {t : Tired} {s : Slot} : ∀ {left : Nat} {p : List Int} {start : Nat} {x : List Int × Tired}, x ∈ groupsL c set t s left p start → (whyF c set t s x.1).1 = 0 ∧ x.2 = behindF c t x.1
 | 0, p, start, x, h => by
  rw [groupsL] at h
  split at h
  ·rename_i h0
   rw [List.mem_singleton] at h; subst h; exact ⟨h0, rfl⟩
  ·cases h
 | left + 1, p, start, x, h => by
  rw [groupsL, List.mem_flatMap] at h
  obtain ⟨i, _, h⟩ := h
  exact groupsL_ok h
theorem groups_InU {c : WCase} (hR : WR c) {set : Int} {t : Tired} (ht : InU c t) {x : List Int × Tired} (h : x ∈ groupsF c set t) : InU c x.2 := by
 obtain ⟨h1, h2⟩ := groupsL_ok h
 rw [h2]
 exact behind_InU hR ht h1
theorem InU.zero {c : WCase} (hR : WR c) : InU c Tired.zero := by
 have := hR.slots
 refine ⟨by simp [Tired.zero]; omega, fun j hj => ?_⟩
 have h2 : j = 0 ∨ j = 1 ∨ j = 2 ∨ j = 3 ∨ j = 4 := by omega
 rcases h2 with rfl | rfl | rfl | rfl | rfl <;> simp [Tired.zero, Tired.get]
theorem InU.tok {c : WCase} (hR : WR c) {t : Tired} (h : InU c t) : TOk t ∧ t.slot < c.slots.length := by
 have := hR.slots
 have h0 := h.m 0 (by decide); have h1 := h.m 1 (by decide); have h2 := h.m 2 (by decide); have h3 := h.m 3 (by decide); have h4 := h.m 4 (by decide)
 have hs := h.slot
 simp only [Tired.get] at h0 h1 h2 h3 h4
 exact ⟨⟨by omega, by omega, by omega, by omega, by omega, by omega⟩, hs.2⟩
end Go.PX
namespace Go.PX
open Go.Proofs
def webH (c : WCase) (set : Int) (k f : Kn) : Heap := [(1000000, .box (.vv [.d (crewD c set), .mp 1000001, .mp 1000002])), (1000001, .map (knD k)), (1000002, .map (knD f))]
def EndOk (c : WCase) (set : Int) (n : Nat) : Prop :=
 ∀ (kn fa : Kn) (t : Tired), InU c t → cntK c kn ≤ n → FnU Try.prog 73 [.ptr 1000000 0, .d t.d] (webH c set kn fa) fun v h' => v = .d (.bool (endF c set n kn t).1) ∧ h' = webH c set (endF c set n kn t).2 fa
theorem endF_12 {c : WCase} {set : Int} {kn : Kn} {t : Tired} (h : getK kn t = some 2 ∨ getK kn t = some 1) : ∀ n, endF c set n kn t = (true, kn)
 | 0 => by rw [endF]; rcases h with h | h <;> simp [h]
 | n + 1 => by rw [endF, if_pos h]
theorem endF_3 {c : WCase} {set : Int} {kn : Kn} {t : Tired} (h : getK kn t = some 3) : ∀ n, endF c set n kn t = (false, kn)
 | 0 => by rw [endF]; simp [h]
 | n + 1 => by rw [endF, if_neg (by simp [h]), if_pos h]
theorem endF_new {c : WCase} {set : Int} {kn : Kn} {t : Tired} (h : freshK kn t = true) (n : Nat) : endF c set (n + 1) kn t = ((tryF (endF c set n) (putK kn t 1) ((groupsF c set t).map (·.2))).1, putK (tryF (endF c set n) (putK kn t 1) ((groupsF c set t).map (·.2))).2 t (if (tryF (endF c set n) (putK kn t 1) ((groupsF c set t).map (·.2))).1 then 2 else 3)) := by
 rw [endF, if_neg, if_neg]
 ·intro h2; rw [freshK, h2] at h; simp at h
 ·intro h2; rcases h2 with h2 | h2 <;> rw [freshK, h2] at h <;> simp at h
theorem end_new {c : WCase} (hR : WR c) {set : Int} {n : Nat} (ih : ∀ m, n = m + 1 → EndOk c set m) : EndOk c set n := by
 intro kn fa t ht hc σ Y s
 refine fnC_of mixed tysOk Try.func73 rfl (ft := ft73) (args := [.ptr 1000000 0, .d t.d]) (show fnB ft73 Try.f73 2 = true from by decide +kernel) ?_
 conv=>whnf
 by_cases hf : freshK kn t = true
 ·obtain ⟨m, rfl⟩ : ∃ m, n = m + 1 := ⟨n - 1, by have := cnt_put ht hf; omega⟩
  rw [endF_new hf]
  have ih := ih m rfl
  have hc' : cntK c (putK kn t 1) ≤ m := by have := cnt_put ht hf; omega
  have hns : ∀ v, getK kn t = some v → v ≠ 2 ∧ v ≠ 1 ∧ v ≠ 3 := by
   intro v hv
   refine ⟨?_, ?_, ?_⟩ <;> rintro rfl <;> rw [freshK, hv] at hf <;> simp at hf
  cases hk : getK kn t with
  | none =>
   refine ⟨none, find_kn_none hk 0, ?_⟩
   conv=>whnf
   refine ⟨none, find_kn_none hk 0, ?_⟩
   conv=>whnf
   refine DrawCall_v (ds := [crewD c set, t.d]) (wa68 c set t) rfl rfl ?_
   conv=>whnf
   refine RangeA.wk (st' := ⟨[(2, .ptr 2 0), (3, .ptr 3 0), (4, .ptr 4 0), (28, .d (.clo 93 [.ref [crewD c set], .ref t.cells]))], [(1000000, .box (.vv [.d (crewD c set), .mp 1000001, .mp 1000002])), (1000001, .map (knD (putK kn t 1))), (1000002, .map (knD fa)), (2, .box (.vv [.ptr 1000000 0])), (3, .box (.dd t.cells)), (4, .box (.dd [.bool false]))], s⟩) (Wk.sub ⟨rfl, rfl, rfl, rfl, trivial⟩ ⟨rfl, (by rw [← put_kn_none hk]; rfl), rfl, rfl, rfl, rfl, trivial⟩) ?_
   obtain ⟨hto, hts⟩ := ht.tok hR
   refine RangeA_list tysOk (by exact drawsB_spec mixed tysOk (by decide +kernel)) (by exact drawsB_spec mixed tysOk (by decide +kernel)) rfl 1500000 1600000 [2, 3, 4] (by exact yields93 c hR set t hto hts)
    (fun (x : Kn) => ([(1000000, .box (.vv [.d (crewD c set), .mp 1000001, .mp 1000002])), (1000001, .map (knD x)), (1000002, .map (knD fa)), (1500000, .box (.vv [.ptr 1000000 0])), (1500001, .box (.dd t.cells)), (1500002, .box (.dd [.bool false]))], s))
    (fun (rest : List (List Int × Tired)) x => tryF (endF c set m) (putK kn t 1) ((groupsF c set t).map (·.2)) = tryF (endF c set m) x (rest.map (·.2)) ∧ cntK c x ≤ m ∧ ∀ p ∈ rest, InU c p.2) (putK kn t 1) rfl rfl rfl ⟨rfl, hc', fun p hp => groups_InU hR ht hp⟩ ?_ ?_
   ·rintro ⟨g, u⟩ rest x ⟨he, hcx, hin⟩ Q hQ1 hQ
    refine ⟨⟨rfl, item_okL _⟩, ?_⟩
    have hu : InU c u := hin (g, u) (by simp)
    rw [List.map_cons, tryF] at he
    conv=>whnf
    refine CallA_fn (ih x fa u hu hcx) [1000000, 1000001, 1000002] rfl ⟨_, _, rfl, rfl, _, _, rfl, rfl, _, _, rfl, rfl, rfl⟩ rfl ?_
    cases hb : (endF c set m x u).1 with
    | false =>
     rw [hb] at he
     simp only [Bool.false_eq_true, if_false] at he
     conv=>whnf
     exact ⟨(endF c set m x u).2, (Wk.sub trivial ⟨(by first | rfl | (simp only [List.length_map]; rfl) | simp [PX.get]), (by first | rfl | (simp only [List.length_map]; rfl) | simp [PX.get]), (by first | rfl | (simp only [List.length_map]; rfl) | simp [PX.get]), (by first | rfl | (simp only [List.length_map]; rfl) | simp [PX.get]), (by first | rfl | (simp only [List.length_map]; rfl) | simp [PX.get]), (by first | rfl | (simp only [List.length_map]; rfl) | simp [PX.get]), (by first | rfl | (simp only [List.length_map]; rfl) | simp [PX.get]), trivial⟩), rfl, hQ1 _ ⟨he, Nat.le_trans (endF_le m x u).cnt hcx, fun p hp => hin p (by simp [hp])⟩⟩
    | true =>
     rw [hb] at he
     simp only [if_true] at he
     conv=>whnf
     cases hk2 : getK (endF c set m x u).2 t with
     | none =>
      refine ⟨none, find_kn_none hk2 0, ?_⟩
      conv=>whnf
      refine ⟨[(1000000, .box (.vv [.d (crewD c set), .mp 1000001, .mp 1000002])), (1000001, .map (knD (putK (endF c set m x u).2 t 2))), (1000002, .map (knD fa)), (1500000, .box (.vv [.ptr 1000000 0])), (1500001, .box (.dd t.cells)), (1500002, .box (.dd [.bool true]))], s, Wk.sub trivial ⟨rfl, (by rw [← put_kn_none hk2]; rfl), rfl, rfl, rfl, rfl, rfl, trivial⟩, rfl, hQ _ _ _ ?_⟩
      conv=>whnf
      refine RetA_hand [] [.d (.bool true)] (webH c set (putK (endF c set m x u).2 t 2) fa) rfl ⟨rfl, rfl, rfl, trivial⟩ rfl ⟨⟨?_, ?_⟩, rfl⟩
      ·rw [he]; rfl
      ·rw [he]; rfl
     | some v2 =>
      obtain ⟨ix2, hy1, hy2⟩ := find_kn_some hk2 0
      refine ⟨_, hy1, ?_⟩
      conv=>whnf
      refine ⟨[(1000000, .box (.vv [.d (crewD c set), .mp 1000001, .mp 1000002])), (1000001, .map (knD (putK (endF c set m x u).2 t 2))), (1000002, .map (knD fa)), (1500000, .box (.vv [.ptr 1000000 0])), (1500001, .box (.dd t.cells)), (1500002, .box (.dd [.bool true]))], s, Wk.sub trivial ⟨rfl, (by rw [← hy2, Nat.zero_add]; rfl), rfl, rfl, rfl, rfl, rfl, trivial⟩, rfl, hQ _ _ _ ?_⟩
      conv=>whnf
      refine RetA_hand [] [.d (.bool true)] (webH c set (putK (endF c set m x u).2 t 2) fa) rfl ⟨rfl, rfl, rfl, trivial⟩ rfl ⟨⟨?_, ?_⟩, rfl⟩
      ·rw [he]; rfl
      ·rw [he]; rfl
   ·rintro x ⟨he, hcx, _⟩
    rw [List.map_nil, tryF] at he
    conv=>whnf
    cases hk2 : getK x t with
    | none =>
     refine ⟨none, find_kn_none hk2 0, ?_⟩
     conv=>whnf
     refine RetA_hand [] [.d (.bool false)] (webH c set (putK x t 3) fa) rfl ⟨rfl, (by rw [← put_kn_none hk2]; rfl), rfl, trivial⟩ rfl ⟨⟨?_, ?_⟩, rfl⟩
     ·rw [he]; rfl
     ·rw [he]; rfl
    | some v2 =>
     obtain ⟨ix2, hy1, hy2⟩ := find_kn_some hk2 0
     refine ⟨_, hy1, ?_⟩
     conv=>whnf
     refine RetA_hand [] [.d (.bool false)] (webH c set (putK x t 3) fa) rfl ⟨rfl, (by rw [← hy2, Nat.zero_add]; rfl), rfl, trivial⟩ rfl ⟨⟨?_, ?_⟩, rfl⟩
     ·rw [he]; rfl
     ·rw [he]; rfl
  | some v =>
   obtain ⟨ix, hx1, hx2⟩ := find_kn_some hk 0
   obtain ⟨n1, n2, n3⟩ := hns v hk
   refine ⟨_, hx1, ?_⟩
   conv=>whnf
   refine brk_i (fun h => absurd h (by simpa using n1)) (fun _ => ?_)
   conv=>whnf
   refine brk_i (fun h => absurd h (by simpa using n2)) (fun _ => ?_)
   conv=>whnf
   refine brk_i (fun h => absurd h (by simpa using n3)) (fun _ => ?_)
   conv=>whnf
   refine ⟨_, hx1, ?_⟩
   conv=>whnf
   refine DrawCall_v (ds := [crewD c set, t.d]) (wa68 c set t) rfl rfl ?_
   conv=>whnf
   refine RangeA.wk (st' := ⟨[(2, .ptr 2 0), (3, .ptr 3 0), (4, .ptr 4 0), (28, .d (.clo 93 [.ref [crewD c set], .ref t.cells]))], [(1000000, .box (.vv [.d (crewD c set), .mp 1000001, .mp 1000002])), (1000001, .map (knD (putK kn t 1))), (1000002, .map (knD fa)), (2, .box (.vv [.ptr 1000000 0])), (3, .box (.dd t.cells)), (4, .box (.dd [.bool false]))], s⟩) (Wk.sub ⟨rfl, rfl, rfl, rfl, trivial⟩ ⟨rfl, (by rw [← hx2, Nat.zero_add]; rfl), rfl, rfl, rfl, rfl, trivial⟩) ?_
   obtain ⟨hto, hts⟩ := ht.tok hR
   refine RangeA_list tysOk (by exact drawsB_spec mixed tysOk (by decide +kernel)) (by exact drawsB_spec mixed tysOk (by decide +kernel)) rfl 1500000 1600000 [2, 3, 4] (by exact yields93 c hR set t hto hts)
    (fun (x : Kn) => ([(1000000, .box (.vv [.d (crewD c set), .mp 1000001, .mp 1000002])), (1000001, .map (knD x)), (1000002, .map (knD fa)), (1500000, .box (.vv [.ptr 1000000 0])), (1500001, .box (.dd t.cells)), (1500002, .box (.dd [.bool false]))], s))
    (fun (rest : List (List Int × Tired)) x => tryF (endF c set m) (putK kn t 1) ((groupsF c set t).map (·.2)) = tryF (endF c set m) x (rest.map (·.2)) ∧ cntK c x ≤ m ∧ ∀ p ∈ rest, InU c p.2) (putK kn t 1) rfl rfl rfl ⟨rfl, hc', fun p hp => groups_InU hR ht hp⟩ ?_ ?_
   ·rintro ⟨g, u⟩ rest x ⟨he, hcx, hin⟩ Q hQ1 hQ
    refine ⟨⟨rfl, item_okL _⟩, ?_⟩
    have hu : InU c u := hin (g, u) (by simp)
    rw [List.map_cons, tryF] at he
    conv=>whnf
    refine CallA_fn (ih x fa u hu hcx) [1000000, 1000001, 1000002] rfl ⟨_, _, rfl, rfl, _, _, rfl, rfl, _, _, rfl, rfl, rfl⟩ rfl ?_
    cases hb : (endF c set m x u).1 with
    | false =>
     rw [hb] at he
     simp only [Bool.false_eq_true, if_false] at he
     conv=>whnf
     exact ⟨(endF c set m x u).2, (Wk.sub trivial ⟨(by first | rfl | (simp only [List.length_map]; rfl) | simp [PX.get]), (by first | rfl | (simp only [List.length_map]; rfl) | simp [PX.get]), (by first | rfl | (simp only [List.length_map]; rfl) | simp [PX.get]), (by first | rfl | (simp only [List.length_map]; rfl) | simp [PX.get]), (by first | rfl | (simp only [List.length_map]; rfl) | simp [PX.get]), (by first | rfl | (simp only [List.length_map]; rfl) | simp [PX.get]), (by first | rfl | (simp only [List.length_map]; rfl) | simp [PX.get]), trivial⟩), rfl, hQ1 _ ⟨he, Nat.le_trans (endF_le m x u).cnt hcx, fun p hp => hin p (by simp [hp])⟩⟩
    | true =>
     rw [hb] at he
     simp only [if_true] at he
     conv=>whnf
     cases hk2 : getK (endF c set m x u).2 t with
     | none =>
      refine ⟨none, find_kn_none hk2 0, ?_⟩
      conv=>whnf
      refine ⟨[(1000000, .box (.vv [.d (crewD c set), .mp 1000001, .mp 1000002])), (1000001, .map (knD (putK (endF c set m x u).2 t 2))), (1000002, .map (knD fa)), (1500000, .box (.vv [.ptr 1000000 0])), (1500001, .box (.dd t.cells)), (1500002, .box (.dd [.bool true]))], s, Wk.sub trivial ⟨rfl, (by rw [← put_kn_none hk2]; rfl), rfl, rfl, rfl, rfl, rfl, trivial⟩, rfl, hQ _ _ _ ?_⟩
      conv=>whnf
      refine RetA_hand [] [.d (.bool true)] (webH c set (putK (endF c set m x u).2 t 2) fa) rfl ⟨rfl, rfl, rfl, trivial⟩ rfl ⟨⟨?_, ?_⟩, rfl⟩
      ·rw [he]; rfl
      ·rw [he]; rfl
     | some v2 =>
      obtain ⟨ix2, hy1, hy2⟩ := find_kn_some hk2 0
      refine ⟨_, hy1, ?_⟩
      conv=>whnf
      refine ⟨[(1000000, .box (.vv [.d (crewD c set), .mp 1000001, .mp 1000002])), (1000001, .map (knD (putK (endF c set m x u).2 t 2))), (1000002, .map (knD fa)), (1500000, .box (.vv [.ptr 1000000 0])), (1500001, .box (.dd t.cells)), (1500002, .box (.dd [.bool true]))], s, Wk.sub trivial ⟨rfl, (by rw [← hy2, Nat.zero_add]; rfl), rfl, rfl, rfl, rfl, rfl, trivial⟩, rfl, hQ _ _ _ ?_⟩
      conv=>whnf
      refine RetA_hand [] [.d (.bool true)] (webH c set (putK (endF c set m x u).2 t 2) fa) rfl ⟨rfl, rfl, rfl, trivial⟩ rfl ⟨⟨?_, ?_⟩, rfl⟩
      ·rw [he]; rfl
      ·rw [he]; rfl
   ·rintro x ⟨he, hcx, _⟩
    rw [List.map_nil, tryF] at he
    conv=>whnf
    cases hk2 : getK x t with
    | none =>
     refine ⟨none, find_kn_none hk2 0, ?_⟩
     conv=>whnf
     refine RetA_hand [] [.d (.bool false)] (webH c set (putK x t 3) fa) rfl ⟨rfl, (by rw [← put_kn_none hk2]; rfl), rfl, trivial⟩ rfl ⟨⟨?_, ?_⟩, rfl⟩
     ·rw [he]; rfl
     ·rw [he]; rfl
    | some v2 =>
     obtain ⟨ix2, hy1, hy2⟩ := find_kn_some hk2 0
     refine ⟨_, hy1, ?_⟩
     conv=>whnf
     refine RetA_hand [] [.d (.bool false)] (webH c set (putK x t 3) fa) rfl ⟨rfl, (by rw [← hy2, Nat.zero_add]; rfl), rfl, trivial⟩ rfl ⟨⟨?_, ?_⟩, rfl⟩
     ·rw [he]; rfl
     ·rw [he]; rfl
 ·have hf : freshK kn t = false := by simpa using hf
  cases hk : getK kn t with
  | none => rw [freshK, hk] at hf; simp at hf
  | some v =>
   obtain ⟨ix, hx1, _⟩ := find_kn_some hk 0
   have hv : v = 2 ∨ v = 1 ∨ v = 3 := by
    rw [freshK, hk] at hf
    simp at hf
    omega
   refine ⟨_, hx1, ?_⟩
   rcases hv with rfl | rfl | rfl
   ·rw [endF_12 (.inl hk)]
    conv=>whnf
    refine RetA_hand [] [.d (.bool true)] (webH c set kn fa) rfl ⟨rfl, rfl, rfl, trivial⟩ rfl ⟨⟨rfl, rfl⟩, rfl⟩
   ·rw [endF_12 (.inr hk)]
    conv=>whnf
    refine RetA_hand [] [.d (.bool true)] (webH c set kn fa) rfl ⟨rfl, rfl, rfl, trivial⟩ rfl ⟨⟨rfl, rfl⟩, rfl⟩
   ·rw [endF_3 hk]
    conv=>whnf
    refine RetA_hand [] [.d (.bool false)] (webH c set kn fa) rfl ⟨rfl, rfl, rfl, trivial⟩ rfl ⟨⟨rfl, rfl⟩, rfl⟩
theorem endOk {c : WCase} (hR : WR c) {set : Int} : ∀ n, EndOk c set n
 | 0 => end_new hR fun m h => by omega
 | n + 1 => end_new hR fun m h => by
  have : m = n := by omega
  subst this
  exact endOk hR m
end Go.PX
namespace Go.PX
open Go.Proofs
def succF (c : WCase) (set : Int) (t : Tired) : List Tired := (groupsF c set t).map (·.2)
def deadN (c : WCase) (set : Int) : Nat → Tired → Prop
 | 0, _ => False
 | n + 1, t => ∀ u ∈ succF c set t, deadN c set n u
theorem deadN_up {c : WCase} {set : Int} : ∀ {n : Nat} {t : Tired}, deadN c set n t → deadN c set (n + 1) t
 | 0, t, h => h.elim
 | n + 1, t, h => fun u hu => deadN_up (h u hu)
theorem deadN_le {c : WCase} {set : Int} {n : Nat} {t : Tired} (h : deadN c set n t) : ∀ {m : Nat}, n ≤ m → deadN c set m t := by
 intro m hm
 induction hm with
 | refl => exact h
 | step _ ih => exact deadN_up ih
def hgtN (c : WCase) (set : Int) : Nat → Tired → Int
 | 0, _ => 0
 | n + 1, t => (succF c set t).foldl (fun x u => max x (1 + hgtN c set n u)) 0
theorem foldl_congr {α β : Type} {f g : β → α → β} : ∀ {l : List α} {x : β}, (∀ u ∈ l, ∀ y, f y u = g y u) → l.foldl f x = l.foldl g x
 | [], x, _ => rfl
 | u :: r, x, h => by
  rw [List.foldl_cons, List.foldl_cons, h u (by simp)]
  exact foldl_congr fun v hv => h v (by simp [hv])
theorem hgt_up {c : WCase} {set : Int} : ∀ {n : Nat} {t : Tired}, deadN c set n t → hgtN c set (n + 1) t = hgtN c set n t
 | 0, t, h => h.elim
 | n + 1, t, h => by
  rw [hgtN, hgtN]
  exact foldl_congr fun u hu y => by rw [hgt_up (h u hu)]
theorem hgt_le {c : WCase} {set : Int} {n : Nat} {t : Tired} (h : deadN c set n t) {m : Nat} (hm : n ≤ m) : hgtN c set m t = hgtN c set n t := by
 induction hm with
 | refl => rfl
 | step hm ih => rw [hgt_up (deadN_le h hm), ih]
theorem hgt_eq {c : WCase} {set : Int} {n m : Nat} {t : Tired} (h : deadN c set n t) (k : deadN c set m t) : hgtN c set n t = hgtN c set m t := by
 rcases Nat.le_total n m with h1 | h1
 ·exact (hgt_le h h1).symm
 ·exact hgt_le k h1
theorem foldl_max_bd {f : Tired → Int} {B : Int} : ∀ {l : List Tired} {x : Int}, 0 ≤ x → x ≤ B → (∀ u ∈ l, 1 + f u ≤ B) → 0 ≤ l.foldl (fun x u => max x (1 + f u)) x ∧ l.foldl (fun x u => max x (1 + f u)) x ≤ B
 | [], x, h0, h1, _ => ⟨h0, h1⟩
 | u :: r, x, h0, h1, h => by
  rw [List.foldl_cons]
  have := h u (by simp)
  exact foldl_max_bd (by omega) (by omega) fun v hv => h v (by simp [hv])
theorem hgt_bd {c : WCase} {set : Int} : ∀ (n : Nat) (t : Tired), 0 ≤ hgtN c set n t ∧ hgtN c set n t ≤ n
 | 0, t => by simp [hgtN]
 | n + 1, t => by
  rw [hgtN]
  refine foldl_max_bd (by omega) (by omega) fun u _ => ?_
  have := hgt_bd (c := c) (set := set) n u
  omega
def FaOk (c : WCase) (set : Int) (fa : Kn) : Prop := ∀ t v, getK fa t = some v → ∃ n, n ≤ 100000 ∧ deadN c set n t ∧ v = hgtN c set n t
def maxF (f : Kn → Tired → Int × Kn) : Int → Kn → List Tired → Int × Kn
 | x, fa, [] => (x, fa)
 | x, fa, u :: r => maxF f (max x (1 + (f fa u).1)) (f fa u).2 r
def lonF (c : WCase) (set : Int) : Nat → Kn → Tired → Int × Kn
 | 0, fa, _ => (0, fa)
 | n + 1, fa, t => match getK fa t with
  | some v => (v, fa)
  | none => ((maxF (lonF c set n) 0 fa (succF c set t)).1, putK (maxF (lonF c set n) 0 fa (succF c set t)).2 t (maxF (lonF c set n) 0 fa (succF c set t)).1)
theorem maxF_val {c : WCase} {set : Int} {n : Nat} (ih : ∀ {fa : Kn} {t : Tired}, deadN c set n t → FaOk c set fa → (lonF c set n fa t).1 = hgtN c set n t ∧ FaOk c set (lonF c set n fa t).2) :
  ∀ {l : List Tired} {x : Int} {fa : Kn}, (∀ u ∈ l, deadN c set n u) → FaOk c set fa → (maxF (lonF c set n) x fa l).1 = l.foldl (fun x u => max x (1 + hgtN c set n u)) x ∧ FaOk c set (maxF (lonF c set n) x fa l).2
 | [], x, fa, _, hf => ⟨rfl, hf⟩
 | u :: r, x, fa, hd, hf => by
  obtain ⟨h1, h2⟩ := ih (hd u (by simp)) hf
  rw [maxF, List.foldl_cons, h1]
  exact maxF_val ih (fun v hv => hd v (by simp [hv])) h2
theorem lonF_val {c : WCase} {set : Int} : ∀ {n : Nat} {fa : Kn} {t : Tired}, n ≤ 100000 → deadN c set n t → FaOk c set fa → (lonF c set n fa t).1 = hgtN c set n t ∧ FaOk c set (lonF c set n fa t).2
 | 0, fa, t, _, hd, _ => hd.elim
 | n + 1, fa, t, hn, hd, hf => by
  rw [lonF]
  cases hk : getK fa t with
  | some v =>
   obtain ⟨m, hm1, hm2, hm3⟩ := hf t v hk
   exact ⟨by rw [hm3]; exact hgt_eq hm2 hd, hf⟩
  | none =>
   obtain ⟨h1, h2⟩ := maxF_val (n := n) (fun hd' hf' => lonF_val (by omega) hd' hf') (l := succF c set t) (x := 0) hd hf
   refine ⟨h1, fun u v hu => ?_⟩
   simp only at hu
   rw [get_put_kn] at hu
   split at hu
   ·rename_i e
    subst e
    cases hu
    exact ⟨n + 1, hn, hd, h1⟩
   ·exact h2 u v hu
def LonOk (c : WCase) (set : Int) (n : Nat) : Prop :=
 ∀ (kn fa : Kn) (t : Tired), InU c t → deadN c set n t → FaOk c set fa → FnU Try.prog 77 [.ptr 1000000 0, .d t.d] (webH c set kn fa) fun v h' => v = .d (i64 (lonF c set n fa t).1) ∧ h' = webH c set kn (lonF c set n fa t).2
theorem lon_new {c : WCase} (hR : WR c) {set : Int} {n : Nat} (hn : n + 1 ≤ 100000) (ih : LonOk c set n) : LonOk c set (n + 1) := by
 intro kn fa t ht hd hfa σ Y s
 refine fnC_of mixed tysOk Try.func77 rfl (ft := ft77) (args := [.ptr 1000000 0, .d t.d]) (show fnB ft77 Try.f77 2 = true from by decide +kernel) ?_
 conv=>whnf
 cases hk : getK fa t with
 | some v =>
  obtain ⟨ix, hx1, hx2⟩ := find_kn_some hk 0
  refine ⟨_, hx1, ?_⟩
  conv=>whnf
  refine RetA_hand [] [.d (i64 v)] (webH c set kn fa) rfl ⟨rfl, rfl, rfl, trivial⟩ rfl ⟨⟨?_, ?_⟩, rfl⟩
  ·rw [lonF, hk]; rfl
  ·rw [lonF, hk]
 | none =>
  have hl : lonF c set (n + 1) fa t = ((maxF (lonF c set n) 0 fa (succF c set t)).1, putK (maxF (lonF c set n) 0 fa (succF c set t)).2 t (maxF (lonF c set n) 0 fa (succF c set t)).1) := by rw [lonF, hk]
  rw [hl]
  refine ⟨none, find_kn_none hk 0, ?_⟩
  conv=>whnf
  refine DrawCall_v (ds := [crewD c set, t.d]) (wa68 c set t) rfl rfl ?_
  conv=>whnf
  obtain ⟨hto, hts⟩ := ht.tok hR
  refine RangeA.wk (st' := ⟨[(2, .ptr 2 0), (3, .ptr 3 0), (5, .ptr 5 0), (25, .d (.clo 93 [.ref [crewD c set], .ref t.cells]))], [(1000000, .box (.vv [.d (crewD c set), .mp 1000001, .mp 1000002])), (1000001, .map (knD kn)), (1000002, .map (knD fa)), (2, .box (.vv [.ptr 1000000 0])), (3, .box (.dd t.cells)), (5, .box (.dd [i64 0]))], s⟩) (Wk.sub ⟨rfl, rfl, rfl, rfl, trivial⟩ ⟨rfl, rfl, rfl, rfl, rfl, rfl, trivial⟩) ?_
  refine RangeA_list tysOk (by exact drawsB_spec mixed tysOk (by decide +kernel)) (by exact drawsB_spec mixed tysOk (by decide +kernel)) rfl 1500000 1600000 [2, 3, 5] (by exact yields93 c hR set t hto hts)
   (fun (x : Int × Kn) => ([(1000000, .box (.vv [.d (crewD c set), .mp 1000001, .mp 1000002])), (1000001, .map (knD kn)), (1000002, .map (knD x.2)), (1500000, .box (.vv [.ptr 1000000 0])), (1500001, .box (.dd t.cells)), (1500002, .box (.dd [i64 x.1]))], s))
   (fun (rest : List (List Int × Tired)) x => maxF (lonF c set n) 0 fa (succF c set t) = maxF (lonF c set n) x.1 x.2 (rest.map (·.2)) ∧ (0 ≤ x.1 ∧ x.1 ≤ 100000) ∧ FaOk c set x.2 ∧ ∀ p ∈ rest, InU c p.2 ∧ deadN c set n p.2) (0, fa) rfl rfl rfl ⟨rfl, by simp, hfa, fun p hp => ⟨groups_InU hR ht hp, hd p.2 (List.mem_map.2 ⟨p, hp, rfl⟩)⟩⟩ ?_ ?_
  ·rintro ⟨g, u⟩ rest ⟨x, fx⟩ ⟨he, hx, hfx, hin⟩ Q hQ1 -
   refine ⟨⟨rfl, item_okL _⟩, ?_⟩
   obtain ⟨hu, hdu⟩ : InU c u ∧ deadN c set n u := hin (g, u) (by simp)
   rw [List.map_cons, maxF] at he
   simp only at hx hfx he
   obtain ⟨h1, h2⟩ := lonF_val (c := c) (set := set) (n := n) (by omega) hdu hfx
   have h3 := hgt_bd (c := c) (set := set) n u
   conv=>whnf
   refine DrawCall_fn (ih kn fx u hu hdu hfx) [1000000, 1000001, 1000002] rfl ⟨_, _, rfl, rfl, _, _, rfl, rfl, _, _, rfl, rfl, rfl⟩ rfl ?_
   conv=>whnf
   refine arith_in (wrap_i64 (by (try dsimp only); omega)) ?_
   conv=>whnf
   exact ⟨(max x (1 + (lonF c set n fx u).1), (lonF c set n fx u).2), (Wk.sub trivial ⟨(by first | rfl | (simp only [List.length_map]; rfl) | simp [PX.get]), (by first | rfl | (simp only [List.length_map]; rfl) | simp [PX.get]), (by first | rfl | (simp only [List.length_map]; rfl) | simp [PX.get]), (by first | rfl | (simp only [List.length_map]; rfl) | simp [PX.get]), (by first | rfl | (simp only [List.length_map]; rfl) | simp [PX.get]), (by first | rfl | (simp only [List.length_map]; rfl) | simp [PX.get]), (by first | rfl | (simp only [List.length_map]; rfl) | simp [PX.get]), trivial⟩), rfl, hQ1 _ ⟨he, by simp only; omega, h2, fun p hp => hin p (by simp [hp])⟩⟩
  ·rintro ⟨x, fx⟩ ⟨he, hx, hfx, _⟩
   rw [List.map_nil, maxF] at he
   simp only at he
   rw [he]
   conv=>whnf
   cases hk2 : getK fx t with
   | none =>
    refine ⟨none, find_kn_none hk2 0, ?_⟩
    conv=>whnf
    refine RetA_hand [] [.d (i64 x)] (webH c set kn (putK fx t x)) rfl ⟨rfl, rfl, (by rw [← put_kn_none hk2]; rfl), trivial⟩ rfl ⟨⟨rfl, rfl⟩, rfl⟩
   | some v2 =>
    obtain ⟨ix2, hy1, hy2⟩ := find_kn_some hk2 0
    refine ⟨_, hy1, ?_⟩
    conv=>whnf
    refine RetA_hand [] [.d (i64 x)] (webH c set kn (putK fx t x)) rfl ⟨rfl, rfl, (by rw [← hy2, Nat.zero_add]; rfl), trivial⟩ rfl ⟨⟨rfl, rfl⟩, rfl⟩
theorem lonOk {c : WCase} (hR : WR c) {set : Int} : ∀ n, n ≤ 100000 → LonOk c set n
 | 0, _ => fun kn fa t ht hd => hd.elim
 | n + 1, h => lon_new hR h (lonOk hR n (by omega))
end Go.PX
