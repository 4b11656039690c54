import Derived.Test.YtpocldjdlookjaaPxK
import Derived.Test.YtpocldjdlookjaaPxJ
set_option linter.all false
set_option maxRecDepth 10000
namespace Go.PX
mutual
def relax : D → D
 | .agg cs => .agg (relaxL cs)
 | .tup cs => .tup (relaxL cs)
 | .vs es => .vs (relaxE es)
 | .nils => .vs []
 | .ref cs => .ref (relaxL cs)
 | .bool b => .bool b
 | .int k n => .int k n
 | .str s => .str s
 | .nilp => .nilp
 | .mv kvs => .mv kvs
 | .nilm => .nilm
 | .clo f caps => .clo f caps
 | .mth f first => .mth f first
 | .nilf => .nilf
 | .ifc t v => .ifc t v
 | .nili => .nili
def relaxL : List D → List D
 | [] => []
 | c :: r => relax c :: relaxL r
def relaxE : List (List D) → List (List D)
 | [] => []
 | c :: r => relaxL c :: relaxE r
end
theorem relaxL_length : ∀ l : List D, (relaxL l).length = l.length
 | [] => rfl
 | c :: r => by simp only [relaxL, List.length_cons, relaxL_length r]
theorem relaxE_length : ∀ l : List (List D), (relaxE l).length = l.length
 | [] => rfl
 | c :: r => by simp only [relaxE, List.length_cons, relaxE_length r]
mutual
theorem RepD.relax {F : Nat → Nat} {w : World} : ∀ (a : D) (v : Value), RepD F w a v → RepD F w (relax a) v
 | .agg cs, _, hr => by
  obtain ⟨l, rfl, hl⟩ := hr
  exact ⟨l, rfl, RepDL.relax cs _ hl⟩
 | .tup cs, _, hr => by
  obtain ⟨l, rfl, hl⟩ := hr
  exact ⟨l, rfl, RepDL.relax cs _ hl⟩
 | .vs es, _, hr => by
  obtain ⟨a, len, cap, rfl, hl, hc, he⟩ := hr
  refine ⟨a, len, cap, rfl, by rw [relaxE_length]; exact hl, hc, fun hne => ?_⟩
  obtain ⟨b, off, sz, ha, hs, hes⟩ := he (by rintro rfl; exact hne rfl)
  exact ⟨b, off, sz, ha, hs, RepEs.relax es b off sz hes⟩
 | .nils, _, hr => by
  have hx : _ = Value.slice none 0 0 := hr
  subst hx
  exact ⟨none, 0, 0, rfl, rfl, Nat.le_refl _, fun h => absurd rfl h⟩
 | .ref cs, _, hr => by
  obtain ⟨b, off, rfl, hc⟩ := hr
  exact ⟨b, off, rfl, RepAt.relax cs b off hc⟩
 | .bool _, _, hr => hr
 | .int _ _, _, hr => hr
 | .str _, _, hr => hr
 | .nilp, _, hr => hr
 | .mv _, _, hr => hr
 | .nilm, _, hr => hr
 | .clo _ _, _, hr => hr
 | .mth _ _, _, hr => hr
 | .nilf, _, hr => hr
 | .ifc _ _, _, hr => hr
 | .nili, _, hr => hr
theorem RepDL.relax {F : Nat → Nat} {w : World} : ∀ (cs : List D) (l : List Value), RepDL F w cs l → RepDL F w (relaxL cs) l
 | [], _, hr => hr
 | c :: r, _, hr => by
  obtain ⟨x, l', rfl, hc, hl⟩ := hr
  exact ⟨x, l', rfl, RepD.relax c x hc, RepDL.relax r l' hl⟩
theorem RepAt.relax {F : Nat → Nat} {w : World} : ∀ (cs : List D) (b off : Nat), RepAt F w b off cs → RepAt F w b off (relaxL cs)
 | [], _, _, _ => trivial
 | c :: r, b, off, hr => by
  obtain ⟨hf, ⟨x, hx, hc⟩, hl⟩ := hr
  exact ⟨hf, ⟨x, hx, RepD.relax c x hc⟩, RepAt.relax r b (off + 1) hl⟩
theorem RepEs.relax {F : Nat → Nat} {w : World} : ∀ (es : List (List D)) (b off sz : Nat), RepEs F w b off sz es → RepEs F w b off sz (relaxE es)
 | [], _, _, _, _ => trivial
 | e :: r, b, off, sz, hr => by
  obtain ⟨hn, he, hl⟩ := hr
  exact ⟨by rw [relaxL_length]; exact hn, RepAt.relax e b off he, RepEs.relax r b (off + sz) sz hl⟩
end
theorem FnV.relax {P : Program} {f : FuncId} {ds : List D} {r : D} (h : FnV P f ds r) {r' : D} (hr : PX.relax r = r') : FnV P f ds r' := by
 subst hr
 intro σ Y s
 obtain ⟨h1, h2⟩ := h Y s
 refine ⟨h1, fun cx hY L F vals w hh hv => (h2 cx hY L F vals w hh hv).mono ?_⟩
 rintro e w' ⟨x, rfl, v, h', s', L', F', ⟨⟨rfl, rfl⟩, rfl⟩, hh', hx, tr, hp⟩
 exact ⟨x, rfl, _, _, _, L', F', ⟨⟨rfl, rfl⟩, rfl⟩, hh', RepD.relax r x hx, tr, hp⟩
section
variable {P : Program} {σ : Type} {Y : Hd σ}
theorem YldA_y {args0 : List V} {h0 : Heap} {s : σ} {Q : V → Heap → σ → Prop} (tb : List Nat) {e : Env} {h : Heap} {d : Option Nat} {args : List V} {K : St σ → Prop} (hy : Y.y args0 h0 s Q)
  (hargs : renL (callR tb (d.getD 0)) args0 = args) (hlent : lentOk (callR tb (d.getD 0)) h 1000000 tb h0) (htb : nodupB tb = true) (hln : Nat.ble tb.length 1000 = true)
  (hq : ∀ v h1 s', Q v h1 s' → callB tb d v h1 = true ∧ applyK (callWs tb d v h1) e h fun e h => K ⟨e, h, s'⟩) : YldA P Y ⟨e, h, s⟩ d args K := by
 refine yldY_of tb hy hargs hlent htb hln fun v h1 s' hv => ?_
 obtain ⟨h2, h3⟩ := hq v h1 s' hv
 refine ⟨h2, ?_⟩
 rw [applyK_eq s'] at h3
 have hs : (applyWs (⟨e, h, s'⟩ : St σ) (callWs tb d v h1)).s = s' := applyWs_s _ _
 generalize applyWs (⟨e, h, s'⟩ : St σ) (callWs tb d v h1) = st at h3 hs
 obtain ⟨e1, h1, s1⟩ := st
 simp only at hs; subst hs; exact h3
end
theorem CallA_rep {P : Program} {σ : Type} {Y : Hd σ} {st : St σ} {d : Option Nat} {f : FuncId} {args args' : List V} {K : St σ → Prop} (h : ∀ (yv : Option Nat) (L : Loc) (F : Nat → Nat) (w : World) (l : List Value), RepVL yv L F w args l → RepVL yv L F w args' l) (hc : CallA P Y st d f args' K) : CallA P Y st d f args K := by
 obtain ⟨h1, h2⟩ := hc
 exact ⟨h1, fun cx hY r m L F a w vals hg hd hr => h2 cx hY r m L F a w vals hg hd (h _ _ _ _ _ hr)⟩
theorem CallA_nil1 {P : Program} {σ : Type} {Y : Hd σ} {st : St σ} {d : Option Nat} {f : FuncId} {a : V} {r : List V} {K : St σ → Prop} (hc : CallA P Y st d f (a :: .d (.vs []) :: r) K) : CallA P Y st d f (a :: .d .nils :: r) K := by
 refine CallA_rep (fun yv L F w l h => ?_) hc
 obtain ⟨x, l', rfl, h1, y, l'', rfl, h2, h3⟩ := h
 exact ⟨x, _, rfl, h1, y, _, rfl, RepD.relax .nils y h2, h3⟩
def FT.less (ft : FT) (id : Nat) : FT := ⟨ft.ks, cut ft.tb id⟩
theorem yfreeL_inj : ∀ l : List D, yfreeL (inj l) = true
 | [] => rfl
 | x :: r => by simp only [inj, yfreeL, yfree, yfreeL_inj r]; rfl
theorem forceN_to {l : List Nat} {K : List Nat → Prop} (l' : List Nat) (h : l = l') (k : forceN l' K) : forceN l K := by subst h; exact k
theorem namesOfL_inj : ∀ l : List D, namesOfL (inj l) = []
 | [] => rfl
 | x :: r => by simp only [inj, namesOfL, namesOf, namesOfL_inj r]; rfl
theorem namesOfL_app : ∀ a b : List V, namesOfL (a ++ b) = namesOfL a ++ namesOfL b
 | [], b => rfl
 | x :: r, b => by simp only [List.cons_append, namesOfL, namesOfL_app r b, List.append_assoc]
theorem namesOfL_injL (l : List (List D)) (vs : List (List V)) : namesOfL (injL l ++ vs).flatten = namesOfL vs.flatten := by
 rw [List.flatten_append, namesOfL_app, injL_flatten, namesOfL_inj]; rfl
def FT.more (ft : FT) (id : Nat) (l : List Nat) : FT := ⟨ft.ks, ft.tb.map fun p => match Nat.beq p.1 id with
 | true => (p.1, ⟨p.2.made ++ l, p.2.ots⟩)
 | false => p⟩
theorem get_enterE : ∀ (l : List V) (i k : Nat) (v : V), l[k]? = some v → get (enterE i l) (i + k) = some v
 | [], _, k, v, h => by simp at h
 | a :: r, i, 0, v, h => by
  simp at h
  subst h
  simp [enterE, get]
 | a :: r, i, k + 1, v, h => by
  have hne : Nat.beq i (i + (k + 1)) = false := by
   rw [Bool.eq_false_iff]; intro e
   have := Nat.eq_of_beq_eq_true e; omega
  simp only [enterE, get, hne]
  rw [show i + (k + 1) = i + 1 + k by omega]
  exact get_enterE r (i + 1) k v (by simpa using h)
theorem RepVL.of {yv : Option Nat} {L : Loc} {F : Nat → Nat} {w : World} : ∀ {l : List V} {vals : List Value}, l.length = vals.length → (∀ (k : Nat) (v : V), l[k]? = some v → ∃ x, vals[k]? = some x ∧ RepV yv L F w v x) → RepVL yv L F w l vals
 | [], [], _, _ => rfl
 | [], _ :: _, h, _ => by simp at h
 | _ :: _, [], h, _ => by simp at h
 | v :: l, x :: vals, h, hk => by
  obtain ⟨y, hy, hr⟩ := hk 0 v rfl
  simp at hy
  subst hy
  exact ⟨x, vals, rfl, hr, RepVL.of (by simpa using h) fun k u hu => by simpa using hk (k + 1) u (by simpa using hu)⟩
theorem RetA_wk {σ : Type} {l l' : List V} {h h' : Heap} {s : σ} {Q : V → Heap → σ → Prop} (hw : Wk (⟨enterE 0 l, h, s⟩ : St σ) ⟨enterE 0 l', h', s⟩) (hlen : l'.length = l.length) (hl : Nat.ble l.length 1000 = true) (hr : RetA l' h' s Q) : RetA l h s Q := by
 obtain ⟨hr⟩ := hr
 refine ⟨fun cx L F vals w hh hv => ?_⟩
 have hvl : vals.length = l.length := by simpa using hv.length
 have hl := Nat.le_of_ble_eq_true hl
 have hg : Good { cx with pρ := L.ρ, pκ := L.κ, base := [] } none [] L F ⟨enterE 0 l, h, s⟩ { tmps := vals.toArray, defers := [] } w := by
  refine ⟨⟨hh.hg, hh.csz, hh.fresh, hh.obj, hh.own, hh.inj⟩, fun t v ht => ?_, rfl, (fun b hb => by cases hb), List.nodup_nil, (fun l hl => by cases hl), fun _ _ => ⟨rfl, rfl⟩, by simp; omega⟩
  obtain ⟨k, hk, hv'⟩ := get_enter ht
  rw [Nat.zero_add] at hk; subst hk
  obtain ⟨x, hx, hrx⟩ := hv.get t hv'
  exact ⟨x, by simpa using hx, hrx⟩
 obtain ⟨L1, F1, hg1, tr⟩ := hw _ _ _ _ _ _ _ hg
 have hv1 : RepVL cx.yv L1 F1 w l' vals := by
  refine RepVL.of (by omega) fun k v hk => ?_
  obtain ⟨x, hx, hrx⟩ := hg1.env k v (by simpa using get_enterE l' 0 k v hk)
  exact ⟨x, by simpa using hx, hrx⟩
 have hh1 : HeapOk cx L1 F1 h' s w := ⟨hg1.heap.hg, hg1.heap.csz, hg1.heap.fresh, hg1.heap.obj, hg1.heap.own, hg1.heap.inj⟩
 obtain ⟨v, h2, L2, F2, q1, q2, q3, q4, q5⟩ := hr cx L1 F1 vals w hh1 hv1
 refine ⟨v, h2, L2, F2, q1, q2, q3, Tr.trans tr q4, fun i hi => ?_⟩
 obtain ⟨p1, p2⟩ := q5 i hi
 obtain ⟨p3, p4⟩ := hg1.pin i hi
 exact ⟨p1.trans p3, p2.trans p4⟩
theorem keysOf_keepT (ids : List Nat) : ∀ (h : Heap) (i : Nat), i ∈ keysOf (keepT ids h) → i ∈ ids
 | [], i, hi => by simp [keepT, keysOf] at hi
 | (k, o) :: r, i, hi => by
  simp only [keepT] at hi
  split at hi
  ·rename_i hk
   simp only [keysOf, List.mem_cons] at hi
   rcases hi with rfl | hi
   ·exact inL_iff.1 hk
   ·exact keysOf_keepT ids r i hi
  ·exact keysOf_keepT ids r i hi
theorem Good.frzPart2 {σ : Type} {cx : Cx σ} {r : Option Nat} {m : List Nat} {L : Loc} {F : Nat → Nat} {st : St σ} {a : Act} {w : World} (hg : Good cx r m L F st a w) {h : Heap} (hsub : SubT h st.heap) (n : Nat) :
  ∃ F1, Good cx r m L F1 (applyWs st (delL (keysOf h))) a w ∧ Tr F w F1 w ∧ ∀ args vals, RepVL cx.yv L F w args vals → RepVL cx.yv L F1 w (replL (objD h n) args) vals := by
 have hok : HeapOk cx L F h st.s w := (hg.sub (e := st.env) (h := h) (fun _ _ h => h) hsub).heap
 have tr := frzAll_tr hok
 have hF1C : ∀ b, cx.C st.s b → frzAll L F h w b = F b := fun b hb => frzAll_C hok hb
 have hF1o : ∀ id o, get st.heap id = some o → id ∉ keysOf h → Backed L id o → frzAll L F h w (L.ρ id) = F (L.ρ id) := by
  intro id o hi hn hb
  refine frzAll_other ?_
  rintro ⟨j, p, hj, hbj, hij⟩
  have := hg.heap.inj j id p o (hsub j p hj) hi hbj hb hij
  subst this
  exact hn (keysOf_mem hj)
 have hfr := frzAll_fresh hok
 have hobj := objD_t hok n
 generalize frzAll L F h w = F1 at tr hF1C hF1o hfr hobj
 rw [applyWs_delL]
 have hget : ∀ i o, get (cutL st.heap (keysOf h)) i = some o → i ∉ keysOf h ∧ get st.heap i = some o := by
  intro i o hi
  rw [get_cutL] at hi
  split at hi
  ·cases hi
  ·rename_i hn; exact ⟨hn, hi⟩
 refine ⟨F1, ⟨⟨cx.stable hg.heap.hg tr hfr fun b hb => ⟨rfl, hF1C b hb⟩, hg.heap.csz, hfr, ?_, ?_, ?_⟩, ?_, hg.dfr, hg.mks, hg.mnd, hg.lk, hg.pin, hg.tsz⟩, tr, fun args vals hr => RepVL.repl tr hobj args vals hr⟩
 ·intro i o hi
  exact RepO.mono tr i o (fun _ _ => ⟨rfl, rfl⟩) ⟨rfl, rfl⟩ (fun _ => rfl) (hg.heap.obj i o (hget i o hi).2)
 ·intro i o hi hb
  obtain ⟨hn, h0⟩ := hget i o hi
  rw [hF1o i o h0 hn hb]
  exact hg.heap.own i o h0 hb
 ·intro i j o p hi hj hbi hbj he
  exact hg.heap.inj i j o p (hget i o hi).2 (hget j p hj).2 hbi hbj he
 ·intro t v ht
  obtain ⟨x, hx, hr⟩ := hg.env t v ht
  exact ⟨x, hx, RepV.mono tr v x (fun _ _ => ⟨rfl, rfl⟩) hr⟩
theorem outCall_part {P : Program} {f : FuncId} {ws : List Wr} (n : Nat) (ids : List Nat) {e : Env} {h : Heap} {d : Option Nat} {args : List V} (ho : OutCall P e (cutL h ids) d f (replL (objD (keepT ids h) n) args) ws) :
  OutCall P e h d f args (delL (keysOf (keepT ids h)) ++ ws) := by
 refine ⟨ho.1, fun {σ} cx hld r m L F st a w vals he hh hg hdt hr => ?_⟩
 have hsub : SubT (keepT ids h) st.heap := fun i o hi => hh i o (sub_keepT ids h i o hi)
 obtain ⟨F1, hg1, tr1, hvw⟩ := hg.frzPart2 hsub n
 rw [applyWs_append]
 refine (ho.2 cx hld r m L F1 (applyWs st (delL (keysOf (keepT ids h)))) a w vals (by rw [applyWs_delL]; exact he) (fun i o hi => ?_) hg1 hdt (hvw _ _ hr)).mono ?_
 ·rw [applyWs_delL]
  rw [get_cutL] at hi
  split at hi
  ·cases hi
  ·rename_i hn
   show get (cutL st.heap (keysOf (keepT ids h))) i = some o
   rw [get_cutL, if_neg fun hm => hn (keysOf_keepT ids h i hm)]
   exact hh i o hi
 ·rintro en w' ⟨x, rfl, L', F', hg', tr'⟩
  exact ⟨x, rfl, L', F', hg', Tr.trans tr1 tr'⟩
theorem DrawCall_part {P : Program} {f : FuncId} (n : Nat) (ids : List Nat) {e : Env} {h : Heap} {d : Option Nat} {args : List V} {K : List Wr → Prop}
  (hk : DrawCall P e (cutL h ids) d f (replL (objD (keepT ids h) n) args) fun ws => K (delL (keysOf (keepT ids h)) ++ ws)) : DrawCall P e h d f args K := by
 obtain ⟨ws, h1, h2⟩ := hk
 exact ⟨_, h1, outCall_part n ids h2⟩
theorem DrawCall_rep {P : Program} {f : FuncId} {e : Env} {h : Heap} {d : Option Nat} {args args' : List V} {K : List Wr → Prop} (hr : ∀ (yv : Option Nat) (L : Loc) (F : Nat → Nat) (w : World) (l : List Value), RepVL yv L F w args l → RepVL yv L F w args' l)
  (hk : DrawCall P e h d f args' K) : DrawCall P e h d f args K := by
 obtain ⟨ws, h1, h2⟩ := hk
 exact ⟨ws, h1, h2.1, fun {σ} cx hld r m L F st a w vals he hh hg hdt hv => h2.2 cx hld r m L F st a w vals he hh hg hdt (hr _ _ _ _ _ hv)⟩
theorem RepV_sl {yv : Option Nat} {L : Loc} {F : Nat → Nat} {w : World} {g : Nat → Option DO} {id sz n : Nat} {d : D} {x : Value} (h : RepV yv L F w (repl g (.sl id sz 0 n)) x) (hv : viewV g (.sl id sz 0 n) = some d) : RepD F w d x := by
 rw [repl_sl hv] at h
 exact h
end Go.PX
namespace Go.PX
open Go.Proofs
def groupsL (c : WCase) (set : Int) (t : Tired) (s : Slot) : Nat → List Int → Nat → List (List Int × Tired)
 | 0, p, _ => if (whyF c set t s p).1 = 0 then [(p, behindF c t p)] else []
 | left + 1, p, start => (List.range' start (c.men.length - start)).flatMap fun (i : Nat) => groupsL c set t s left (p ++ [(i : Int)]) (i + 1)
def groupsF (c : WCase) (set : Int) (t : Tired) : List (List Int × Tired) := groupsL c set t (slotAt c t) (slotAt c t).men.toNat [] 0
def itemV (x : List Int × Tired) : List V × Heap := ([.sl 1000000 1 0 x.1.length, .d x.2.d], [(1000000, .arr 1 (.dd (intsC x.1)))])
def grpCaps (c : WCase) (set : Int) (t : Tired) : List V := [.ptr 1000000 0, .d (.ref [crewD c set]), .d (.ref t.cells), .ptr 1000001 0, .ptr 1000002 0]
def grpArgs (c : WCase) (set : Int) (t : Tired) (start : Nat) : List V := [.d (i64 start), .ptr 1000000 0, .d (.ref [crewD c set]), .d (.ref t.cells), .ptr 1000001 0, .ptr 1000002 0]
def grpH (c : WCase) (set : Int) (t : Tired) (k n : Nat) (p : List Int) : Heap :=
 [(1000000, .box (.vv [.sl k 1 0 n])), (1000001, .box (.vv [.yld])), (1000002, .box (.vv [.clo 94 (grpCaps c set t)])), (k, .arr 1 (.dd (intsC p)))]
def ft94b : FT := ⟨ft94.ks, cut ft94.tb 3⟩
def rt94 : RT := match get ft94.tb 3 with
 | some r => r
 | none => ⟨[], []⟩
def GFill (c : WCase) (set : Int) (t : Tired) (s : Slot) (left : Nat) : Prop :=
 ∀ (start : Nat) (p : List Int), p.length + left = s.men.toNat → start ≤ c.men.length → RowIn c p → ∀ {σ : Type} (Y : Hd σ) (s0 : σ) (rest : List (List V × Heap)) (Q : σ → Prop),
  iterate Y.np ((groupsL c set t s left p start).map itemV ++ rest) s0 Q → FnC Try.prog Y 94 (grpArgs c set t start) (grpH c set t 1000003 p.length p) s0 fun v h' s' =>
   ∃ q, h' = grpH c set t 2000000 q.length q ∧ ((v = .d (.bool true) ∧ q = p ∧ iterate Y.np rest s' Q) ∨ (v = .d (.bool false) ∧ Q s'))
theorem gfill_zero {c : WCase} (hR : WR c) {set : Int} {t : Tired} {s : Slot} (hs : c.slots[t.slot.toNat]? = some s) (ht : 0 ≤ t.slot) (hto : TOk t) (hsm : 1 ≤ s.men ∧ s.men ≤ 2) : GFill c set t s 0 := by
 intro start p hp hst hrow σ Y s0 rest Q hit
 refine fnC_of mixed tysOk Try.func94 rfl (ft := ft94b) (args := grpArgs c set t start) (show fnB ft94b Try.f94 6 = true from by decide +kernel) ?_
 generalize Y.np = Y at hit ⊢
 conv=>whnf
 rw [show decide (0 ≤ t.slot) = true from decide_eq_true ht, show (List.map Slot.cells c.slots)[t.slot.toNat]? = some s.cells from by simp [hs]]
 conv=>whnf
 have hcl : (intsC p).length = p.length := by simp [intsC]
 refine brk_i (fun h0 => ?_) (fun h0 => absurd h0 (by simp; omega))
 conv=>whnf
 refine CallA_view (ds := [crewD c set, t.d, intsD p]) (wa91 c hR set t s hs ht p hrow (by omega)) rfl 1 (viewL_cons (g := _) rfl (viewL_cons rfl (viewL_cons (viewV_sl rfl (by simp [intsC])) rfl))) ?_
 conv=>whnf
 refine RegionA_seq mixed tysOk rt94 9 (by decide +kernel) (by decide +kernel) ?_
 conv=>whnf
 have hgl : groupsL c set t s 0 p start = if (whyF c set t s p).1 = 0 then [(p, behindF c t p)] else [] := rfl
 refine brk_i (fun h1 => ?_) (fun h1 => ?_)
 ·have h1 : ¬ (whyF c set t s p).1 = 0 := by simpa using h1
  rw [hgl, if_neg h1] at hit
  conv=>whnf
  refine RetA_hand [1000003] [.d (.bool true)] (grpH c set t 2000000 p.length p) rfl ⟨rfl, rfl, rfl, rfl, trivial⟩ rfl ?_
  exact ⟨p, rfl, .inl ⟨rfl, rfl, hit⟩⟩
 ·have h1 : (whyF c set t s p).1 = 0 := by simpa using h1
  rw [hgl, if_pos h1] at hit
  conv=>whnf
  refine DrawCall_view (ds := [crewD c set, t.d, intsD p]) (wa92 c hR set t hto p (by omega)) rfl 1 (viewL_cons (g := _) rfl (viewL_cons rfl (viewL_cons (viewV_sl rfl (by simp [intsC])) rfl))) ?_
  conv=>whnf
  refine YldA_y [1000003] (args0 := (itemV (p, behindF c t p)).1) (h0 := (itemV (p, behindF c t p)).2) hit rfl ⟨_, _, rfl, rfl, rfl⟩ rfl rfl ?_
  rintro v h1 s' ⟨rfl, hv⟩
  rcases hv with ⟨rfl, hi⟩ | ⟨rfl, hq⟩
  ·refine ⟨rfl, ?_⟩
   conv=>whnf
   refine RetA_hand [1000003] [.d (.bool true)] (grpH c set t 2000000 p.length p) rfl ⟨rfl, rfl, rfl, rfl, trivial⟩ rfl ?_
   exact ⟨p, rfl, .inl ⟨rfl, rfl, hi⟩⟩
  ·refine ⟨rfl, ?_⟩
   conv=>whnf
   refine RetA_hand [1000003] [.d (.bool false)] (grpH c set t 2000000 p.length p) rfl ⟨rfl, rfl, rfl, rfl, trivial⟩ rfl ?_
   exact ⟨p, rfl, .inr ⟨rfl, hq⟩⟩
theorem gfill_succ {c : WCase} (hR : WR c) {set : Int} {t : Tired} {s : Slot} (hs : c.slots[t.slot.toNat]? = some s) (ht : 0 ≤ t.slot) (hsm : 1 ≤ s.men ∧ s.men ≤ 2) {left : Nat} (ihl : GFill c set t s left) : GFill c set t s (left + 1) := by
 intro start p hp hst hrow σ Y s0 rest Q hit
 refine fnC_of mixed tysOk Try.func94 rfl (ft := ft94b) (args := grpArgs c set t start) (show fnB ft94b Try.f94 6 = true from by decide +kernel) ?_
 generalize Y.np = Y at hit ⊢
 conv=>whnf
 rw [show decide (0 ≤ t.slot) = true from decide_eq_true ht, show (List.map Slot.cells c.slots)[t.slot.toNat]? = some s.cells from by simp [hs]]
 conv=>whnf
 have hcl : (intsC p).length = p.length := by simp [intsC]
 have hmen := hR.men
 refine brk_i (fun h0 => absurd h0 (by simp; omega)) (fun h0 => ?_)
 conv=>whnf
 have hgl : groupsL c set t s (left + 1) p start = (List.range' start (c.men.length - start)).flatMap fun (i : Nat) => groupsL c set t s left (p ++ [(i : Int)]) (i + 1) := rfl
 rw [hgl] at hit
 refine LoopA_p (T := tys) tysOk (by exact drawsB_spec mixed tysOk (by decide +kernel)) (α := Nat × σ)
  (fun x => ⟨[(1, .ptr 1000000 0), (2, .d (.ref [crewD c set])), (3, .d (.ref t.cells)), (4, .ptr 1000001 0), (5, .ptr 1000002 0), (7, .d (.bool false)), (10, .d (i64 x.1))], grpH c set t 900000 p.length p, x.2⟩)
  (fun x => x.1 ≤ c.men.length ∧ iterate Y (((List.range' x.1 (c.men.length - x.1)).flatMap fun (i : Nat) => groupsL c set t s left (p ++ [(i : Int)]) (i + 1)).map itemV ++ rest) x.2 Q) (fun x => c.men.length - x.1) (start, s0)
  ((Wk.move 1000003 900000 rfl rfl).trans (Wk.sub ⟨rfl, rfl, rfl, rfl, rfl, rfl, rfl, trivial⟩ ⟨rfl, rfl, rfl, rfl, trivial⟩)) ⟨hst, hit⟩ ?_
 clear hit hst s0
 rintro ⟨i, s0⟩ ⟨hi, hit⟩
 simp only at hi hit
 conv=>whnf
 refine brk_i (fun h1 => ?_) (fun h1 => ?_)
 ·have h1 : i < c.men.length := by have := of_decide_eq_true h1; simp at this; omega
  obtain ⟨m, hm1⟩ : ∃ m, c.men.length - i = m + 1 := ⟨c.men.length - i - 1, by omega⟩
  rw [hm1, List.range'_succ, List.flatMap_cons, List.map_append, List.append_assoc] at hit
  conv=>whnf
  refine ownK_whole rfl ?_
  conv=>whnf
  refine ownK.mk (by simp [Els.len, hcl]) ?_
  conv=>whnf
  refine chk_i (by simp [Els.len, Els.part, hcl]; omega) ?_
  conv=>whnf
  refine arith_to (((i + 1 : Nat) : Int)) (by (try dsimp only); omega) (wrap_i64 (by (try dsimp only); omega)) ?_
  conv=>whnf
  have ih := ihl (i + 1) (p ++ [(i : Int)]) (by simp; omega) (by omega) (by
   intro j hj
   rcases List.mem_append.1 hj with hj | hj
   ·exact hrow j hj
   ·rw [List.mem_singleton] at hj; subst hj; omega) Y s0 _ Q hit.np
  refine CallA_y ih [1000000, 1000001, 1000002, 56] rfl ⟨_, _, rfl, (by
    show some (Obj.box (Cells.vv [V.sl 56 1 0 ((((intsC p).drop 0).take p.length).length + 1)])) = some (Obj.box (Cells.vv [V.sl 56 1 0 (p ++ [(i : Int)]).length]))
    simp [intsC]), _, _, rfl, rfl, _, _, rfl, rfl, _, _, rfl, (by
    show some (Obj.arr 1 (Els.dd ((((intsC p).drop 0).take p.length) ++ [[i64 (i : Int)]]))) = some (Obj.arr 1 (Els.dd (intsC (p ++ [(i : Int)]))))
    simp [intsC, List.take_of_length_le]), rfl⟩ rfl rfl ?_
  rintro v h1 s' ⟨q, rfl, hpost⟩
  rw [iterate_np] at hpost
  rcases hpost with ⟨rfl, rfl, hi2⟩ | ⟨rfl, hq⟩
  ·refine ⟨rfl, ?_⟩
   conv=>whnf
   refine arith_to (p.length : Int) (by simp) (wrap_i64 (by omega)) ?_
   conv=>whnf
   refine chk_i (by simp; omega) ?_
   conv=>whnf
   refine arith_to (((i + 1 : Nat) : Int)) (by (try dsimp only); omega) (wrap_i64 (by (try dsimp only); omega)) ?_
   conv=>whnf
   have hm2 : c.men.length - (i + 1) = m := by omega
   refine ⟨(i + 1, s'), by simp only; omega, ⟨by simp only; omega, by simp only; rw [hm2]; exact hi2⟩, (Wk.move 103840 900000 rfl rfl).trans ((Wk.shrink 900000 p.length rfl).trans ?_)⟩
   have hsh : (intsC (p ++ [(i : Int)])).take p.length = intsC p := by simp [intsC, List.take_left']
   refine Wk.sub ⟨rfl, rfl, rfl, rfl, rfl, rfl, rfl, trivial⟩ ⟨?_, rfl, ?_, ?_, trivial⟩
   ·rfl
   ·exact box_same rfl ⟨⟨rfl, ⟨rfl, rfl⟩, rfl, rfl, ⟨rfl, rfl⟩, ⟨rfl, rfl⟩, trivial⟩, trivial⟩
   ·show some (Obj.arr 1 (Els.dd ((intsC (p ++ [(i : Int)])).take p.length))) = _
    rw [hsh]
  ·refine ⟨rfl, ?_⟩
   conv=>whnf
   refine RetA_hand [103840] [.d (.bool false)] (grpH c set t 2000000 q.length q) rfl ⟨box_same rfl ⟨⟨rfl, rfl, rfl, rfl⟩, trivial⟩, rfl, box_same rfl ⟨⟨rfl, ⟨rfl, rfl⟩, rfl, rfl, ⟨rfl, rfl⟩, ⟨rfl, rfl⟩, trivial⟩, trivial⟩, rfl, trivial⟩ rfl ?_
   exact ⟨q, rfl, .inr ⟨rfl, hq⟩⟩
 ·have h1 : ¬ i < c.men.length := by have := of_decide_eq_false h1; simp at this; omega
  rw [show c.men.length - i = 0 by omega] at hit
  conv=>whnf
  refine RetA_hand [900000] [.d (.bool true)] (grpH c set t 2000000 p.length p) rfl ⟨box_same rfl ⟨⟨rfl, rfl, rfl, rfl⟩, trivial⟩, rfl, box_same rfl ⟨⟨rfl, ⟨rfl, rfl⟩, rfl, rfl, ⟨rfl, rfl⟩, ⟨rfl, rfl⟩, trivial⟩, trivial⟩, rfl, trivial⟩ rfl ?_
  exact ⟨p, rfl, .inl ⟨rfl, rfl, hit⟩⟩
theorem gfill {c : WCase} (hR : WR c) {set : Int} {t : Tired} {s : Slot} (hs : c.slots[t.slot.toNat]? = some s) (ht : 0 ≤ t.slot) (hto : TOk t) (hsm : 1 ≤ s.men ∧ s.men ≤ 2) (left : Nat) : GFill c set t s left := by
 induction left with
 | zero => exact gfill_zero hR hs ht hto hsm
 | succ n ih => exact gfill_succ hR hs ht hsm ih
theorem wa68 (c : WCase) (set : Int) (t : Tired) : FnV Try.prog 68 [crewD c set, t.d] (.clo 93 [.ref [crewD c set], .ref t.cells]) := by
 refine fnV_of mixed tysOk Try.func68 rfl (ft := ft68) 2 (by decide +kernel) (by rfl) fun {σ} Y st => ?_
 conv=>whnf
 exact RetA_view 1 rfl ⟨⟨rfl, rfl⟩, rfl⟩
theorem yields93 (c : WCase) (hR : WR c) (set : Int) (t : Tired) (hto : TOk t) (hts : t.slot < c.slots.length) : Yields Try.prog 93 [.ref [crewD c set], .ref t.cells] ((groupsF c set t).map itemV) := by
 intro γ Y g0 Q hit
 obtain ⟨s, hs⟩ : ∃ s, c.slots[t.slot.toNat]? = some s := ⟨c.slots[t.slot.toNat]'(by have := hto.slot; omega), by simp⟩
 have ht := hto.slot.1
 have hsm := (hR.slot s (List.mem_of_getElem? hs)).1
 have hsa : slotAt c t = s := by simp [slotAt, hs]
 refine fnC_of mixed tysOk Try.func93 rfl (ft := ft93) (args := [.yld, .d (.ref [crewD c set]), .d (.ref t.cells)]) (show fnB ft93 Try.f93 3 = true from by decide +kernel) ?_
 replace hit := hit.np
 generalize Y.np = Y at hit ⊢
 conv=>whnf
 have hit2 : iterate Y ((groupsL c set t s s.men.toNat [] 0).map itemV ++ []) g0 Q := by
  rw [List.append_nil]
  unfold groupsF at hit
  rw [hsa] at hit
  exact hit
 refine CallA_y (gfill hR hs ht hto hsm s.men.toNat 0 [] (by simp) (by omega) (by intro m hm; cases hm) Y g0 [] Q hit2.np) [4, 3, 5, 6] rfl ⟨_, _, rfl, rfl, _, _, rfl, rfl, _, _, rfl, rfl, _, _, rfl, rfl, rfl⟩ rfl rfl ?_
 rintro v h1 s' ⟨q, rfl, hpost⟩
 rcases hpost with ⟨rfl, _, hi⟩ | ⟨rfl, hq⟩
 ·refine ⟨rfl, ?_⟩
  conv=>whnf
  exact RetA_view 0 rfl ⟨rfl, hi⟩
 ·refine ⟨rfl, ?_⟩
  conv=>whnf
  exact RetA_view 0 rfl ⟨rfl, hq⟩
end Go.PX
namespace Go.PX
open Go.Proofs
theorem item_okL (x : List Int × Tired) : okL (itemV x).1 (itemV x).2 = true := by
 have h : yfreeO (.arr 1 (.dd (intsC x.1))) = true := by
  simp only [yfreeO, Els.toV]
  rw [injL_flatten]
  exact yfreeL_inj _
 show (allB (inRange 1000000 64) [1000000] && allB (inRange 1000000 64) [1000000] && (yfreeL [.sl 1000000 1 0 x.1.length, .d x.2.d] && (yfreeO (.arr 1 (.dd (intsC x.1))) && true))) = true
 rw [h]
 rfl
theorem wa69o (l : List Int) (hl : l.length ≤ 1000) : FnU Try.prog 69 [.sl 1000000 1 0 l.length] [(1000000, .arr 1 (.dd (intsC l)))] fun v h' => v = .sl 2000000 1 0 l.length ∧ h' = [(1000000, .arr 1 (.dd (intsC l))), (2000000, .arr 1 (.dd (intsC l)))] := by
 intro σ Y s
 refine fnC_of mixed tysOk Try.func69 rfl (ft := ft69) (args := [.sl 1000000 1 0 l.length]) (show fnB ft69 Try.f69 1 = true from by decide +kernel) ?_
 conv=>whnf
 refine chk_i (by simp; rfl) ?_
 conv=>whnf
 refine chk_i (decide_eq_true (by dsimp only; omega)) ?_
 conv=>whnf
 refine ownK_whole (by simp [Els.len, intsC]) ?_
 conv=>whnf
 refine chk_i ?_ ?_
 ·simp only [List.length_replicate, Bool.and_eq_true]
  refine ⟨by rw [Nat.ble_eq]; omega, ?_⟩
  clear hl
  induction l with
  | nil => rfl
  | cons x r ih => exact ih
 conv=>whnf
 have hn : ((l.length : Int)).toNat = l.length := by omega
 have hcl : (intsC l).length = l.length := by simp [intsC]
 have e1 : (List.take 0 (List.replicate (↑l.length : Int).toNat [D.int IntKind.i64 0]) ++ List.take (min (intsC l).length (↑l.length : Int).toNat) (intsC l) ++ List.drop (0 + min (intsC l).length (↑l.length : Int).toNat) (List.replicate (↑l.length : Int).toNat [D.int IntKind.i64 0])) = intsC l := by
  rw [hn, hcl]
  simp [List.take_of_length_le, hcl]
 rw [e1, hn]
 refine RetA_hand [6] [.sl 2000000 1 0 l.length] [(1000000, .arr 1 (.dd (intsC l))), (2000000, .arr 1 (.dd (intsC l)))] rfl ⟨rfl, rfl, trivial⟩ rfl ?_
 exact ⟨⟨rfl, rfl⟩, rfl⟩
def rotaN (l : List (List Int)) : D := match l with
 | [] => .nils
 | x :: r => rotaD (x :: r)
theorem walk_ok {c : WCase} (hR : WR c) {set : Int} : ∀ {rota : List (List Int)} {t : Tired} {i : Int} {k : Int}, 3 ≤ k → (0 ≤ t.slot ∧ t.slot < c.slots.length) → TB t k → (0 ≤ (walkF c set t rota i).2.slot ∧ (walkF c set t rota i).2.slot < c.slots.length) ∧ TB (walkF c set t rota i).2 (k + rota.length)
 | [], t, i, k, _, hs, hb => ⟨hs, by simpa [walkF] using hb⟩
 | r :: rest, t, i, k, hk, hs, hb => by
  rw [walkF]
  split
  ·have := walk_ok hR (set := set) (rota := rest) (t := behindF c t r) (i := i + 1) (k := k + 1) (by omega) (behind_slot hR hs.1) (behind_TB hR hk hb)
   rw [show k + ((r :: rest).length : Int) = k + 1 + rest.length by simp; omega]
   exact this
  ·refine ⟨hs, ?_⟩
   constructor <;> have := hb.m0 <;> have := hb.m1 <;> have := hb.m2 <;> have := hb.m3 <;> have := hb.m4 <;> simp only [List.length_cons] <;> omega
theorem TB.tok {c : WCase} (hR : WR c) {t : Tired} {k : Int} (hk : k ≤ 1000) (hs : 0 ≤ t.slot ∧ t.slot < c.slots.length) (h : TB t k) : TOk t := by
 have := hR.slots
 constructor <;> have := h.m0 <;> have := h.m1 <;> have := h.m2 <;> have := h.m3 <;> have := h.m4 <;> omega
theorem goodT_ok {c : WCase} {rota : List (List Int)} (h0 : goodE c rota = 0) : WR c ∧ rota.length ≤ 40 ∧ TOk (goodT c rota) ∧ (goodT c rota).slot < c.slots.length := by
 have hE : entE c rota = 0 := by
  unfold goodE at h0
  split at h0
  ·assumption
  ·exact h0
 obtain ⟨hR, hl, hall⟩ := ent_ok hE
 have hz := TG.zero hR
 obtain ⟨h1, h2⟩ := walk_ok hR (set := allMen c) (rota := rota) (t := .zero) (i := 0) (k := 100) (by omega) hz.slot hz.bd
 exact ⟨hR, hl, TB.tok hR (by omega) h1 h2, h1.2⟩
theorem groupsL_len {c : WCase} {set : Int} {t : Tired} {s : Slot} : ∀ {left : Nat} {p : List Int} {start : Nat} {x : List Int × Tired}, x ∈ groupsL c set t s left p start → x.1.length = p.length + left
 | 0, p, start, x, h => by
  rw [groupsL] at h
  split at h
  ·rw [List.mem_singleton] at h; subst h; rfl
  ·cases h
 | left + 1, p, start, x, h => by
  rw [groupsL, List.mem_flatMap] at h
  obtain ⟨i, _, h⟩ := h
  have := groupsL_len h
  simp at this
  omega
theorem groups_len {c : WCase} (hR : WR c) {set : Int} {t : Tired} {x : List Int × Tired} (h : x ∈ groupsF c set t) : x.1.length ≤ 2 := by
 have h1 := groupsL_len h
 have h2 : (slotAt c t).men.toNat ≤ 2 := by
  unfold slotAt
  cases hs : c.slots[t.slot.toNat]? with
  | none => simp
  | some s =>
   have := (hR.slot s (List.mem_of_getElem? hs)).1
   simp; omega
 simp at h1
 omega
theorem flatMap_len {α β : Type} {f : α → List β} {k : Nat} : ∀ {l : List α}, (∀ x ∈ l, (f x).length ≤ k) → (l.flatMap f).length ≤ l.length * k
 | [], _ => by simp
 | x :: r, h => by
  have h1 := h x (by simp)
  have h2 := flatMap_len (f := f) (k := k) (l := r) fun y hy => h y (by simp [hy])
  rw [List.flatMap_cons, List.length_append, List.length_cons, Nat.add_mul]
  omega
theorem groupsL_many {c : WCase} (hR : WR c) {set : Int} {t : Tired} {s : Slot} : ∀ {left : Nat} {p : List Int} {start : Nat}, (groupsL c set t s left p start).length ≤ 5 ^ left
 | 0, p, start => by
  rw [groupsL]
  split <;> simp
 | left + 1, p, start => by
  rw [groupsL]
  refine Nat.le_trans (flatMap_len (k := 5 ^ left) fun i _ => groupsL_many hR) ?_
  rw [List.length_range', Nat.pow_succ, Nat.mul_comm]
  exact Nat.mul_le_mul_left _ (by have := hR.men; omega)
theorem groups_many {c : WCase} (hR : WR c) {set : Int} {t : Tired} : (groupsF c set t).length ≤ 25 := by
 have h2 : (slotAt c t).men.toNat ≤ 2 := by
  unfold slotAt
  cases hs : c.slots[t.slot.toNat]? with
  | none => simp
  | some s =>
   have := (hR.slot s (List.mem_of_getElem? hs)).1
   simp; omega
 refine Nat.le_trans (groupsL_many hR) ?_
 exact Nat.le_trans (Nat.pow_le_pow_right (by omega) h2) (by decide)
def canL (c : WCase) (rota : List (List Int)) : List (List Int) := (groupsF c (allMen c) (goodT c rota)).map (·.1)
theorem wa22 (c : WCase) (rota : List (List Int)) : FnV Try.prog 22 [c.d, rotaD rota] (.tup [if goodE c rota = 0 then rotaN (canL c rota) else .nils, i64 (goodE c rota)]) := by
 refine fnV_of mixed tysOk Try.func22 rfl (ft := (ft22.more 6 [101664])) 2 (by decide +kernel) (by rfl) fun {σ} Y st => ?_
 conv=>whnf
 refine CallA_v (wa66 c rota) rfl rfl ?_
 conv=>whnf
 by_cases h0 : goodE c rota = 0
 ·obtain ⟨hR, hl, hto, hts⟩ := goodT_ok h0
  rw [h0]
  simp only [if_true]
  conv=>whnf
  refine CallA_v (wa68 c (allMen c) (goodT c rota)) rfl rfl ?_
  conv=>whnf
  refine RangeA_list tysOk (by exact drawsB_spec mixed tysOk (by decide +kernel)) (by exact drawsB_spec mixed tysOk (by decide +kernel)) rfl 1500000 1600000 [2, 4, 7] (by exact yields93 c hR (allMen c) (goodT c rota) hto hts)
   (fun (x : List (List Int)) => match x with
    | [] => ([(1500000, .box (.dd c.cells)), (1500001, .box (.dd [.nils])), (1500002, .box (.dd (goodT c rota).cells))], st)
    | g :: r => ([(1500000, .box (.dd c.cells)), (1500001, .box (.vv [.sl 28 1 0 (g :: r).length])), (1500002, .box (.dd (goodT c rota).cells)), (28, .arr 1 (.dd ((g :: r).map fun r => [intsD r])))], st))
   (fun rest x => canL c rota = x ++ rest.map (fun (p : List Int × Tired) => p.1) ∧ ∀ p ∈ rest, p.1.length ≤ 2) [] rfl rfl rfl ⟨rfl, fun p hp => groups_len hR hp⟩ ?_ ?_
  ·rintro ⟨g, u⟩ rest acc ⟨he, hgs⟩ Q hQ1 -
   have hgl : g.length ≤ 1000 := by have := hgs (g, u) (by simp); simp only at this; omega
   refine ⟨⟨rfl, item_okL _⟩, ?_⟩
   cases acc with
   | nil =>
    conv=>whnf
    refine DrawCall_fn (wa69o g hgl) [1600000] rfl ⟨_, _, rfl, rfl, rfl⟩ rfl ?_
    conv=>whnf
    refine ownK_whole rfl ?_
    conv=>whnf
    refine ⟨[g], (Wk.frzArr 1 [101664] 28 (vs := [[.sl 101664 1 0 g.length]]) (ds := [[intsD g]]) rfl (viewLL_one (viewL_cons (viewV_sl rfl (by simp [intsC])) rfl))).trans (Wk.sub trivial (by repeat' first|exact trivial|refine⟨?_,?_⟩|rfl|(simp only[List.length_map];rfl)|simp[PX.get])), rfl, hQ1 _ ⟨by simpa using he, fun p hp => hgs p (by simp [hp])⟩⟩
   | cons a r =>
    conv=>whnf
    refine DrawCall_fn (wa69o g hgl) [1600000] rfl ⟨_, _, rfl, rfl, rfl⟩ rfl ?_
    conv=>whnf
    refine ownK_whole rfl ?_
    conv=>whnf
    refine ownK_whole (by simp [Els.len]) ?_
    conv=>whnf
    have hacc : (a :: r).length ≤ 25 := by
     have h1 : (canL c rota).length ≤ 25 := by unfold canL; rw [List.length_map]; exact groups_many hR
     rw [he] at h1
     simp at h1 ⊢; omega
    have hfree : (true && !nameBL 28 ((injL ((a :: r).map fun r => [intsD r]) ++ [[V.sl 101664 1 0 g.length]]).flatten)) = true := by
     rw [nameBL_injL]; rfl
    refine chk_i hfree ?_
    conv=>whnf
    refine chk_i (decide_eq_true (by
     show (((a :: r).map fun r => [intsD r]).length + 1) * 24 ≤ 140737488355328
     rw [List.length_map]; omega)) ?_
    conv=>whnf
    refine forceN_to [101664, 28] (by
     show namesOfL ((injL ((a :: r).map fun r => [intsD r]) ++ [[V.sl 101664 1 0 g.length]]).flatten) ++ ([28] ++ []) = _
     rw [namesOfL_injL]; rfl) ?_
    conv=>whnf
    refine ⟨a :: r ++ [g], (Wk.frzArr 1 [101664] 28 (sz := 1) (vs := injL ((a :: r).map fun r => [intsD r]) ++ [[.sl 101664 1 0 g.length]]) (ds := ((a :: r).map fun r => [intsD r]) ++ [[intsD g]]) ?_ (viewLL_app (viewLL_one (viewL_cons (viewV_sl rfl (by simp [intsC])) rfl)) _)).trans ?_, rfl, hQ1 _ ⟨by simpa using he, fun p hp => hgs p (by simp [hp])⟩⟩
    ·rfl
    ·refine Wk.sub trivial ⟨rfl, ?_, rfl, ?_, rfl, trivial⟩
     ·show some (Obj.box (Cells.vv [V.sl 28 1 0 (((a :: r).map fun r => [intsD r]).length + 1)])) = some (Obj.box (Cells.vv [V.sl 28 1 0 (a :: (r ++ [g])).length]))
      simp
     ·show some (Obj.arr 1 (Els.dd (((a :: r).map fun r => [intsD r]) ++ [[intsD g]]))) = some (Obj.arr 1 (Els.dd ((a :: (r ++ [g])).map fun r => [intsD r])))
      simp
  ·rintro acc ⟨he, _⟩
   have he : canL c rota = acc := by simpa using he
   rw [he]
   cases acc with
   | nil =>
    conv=>whnf
    refine RetA_view 0 rfl ⟨⟨?_, rfl⟩, rfl⟩
    simp [packD, rotaN]
   | cons a r =>
    conv=>whnf
    refine RetA_view 1 (ds := [rotaD (a :: r), i64 0]) ?_ ⟨⟨?_, rfl⟩, rfl⟩
    ·exact viewL_cons (viewV_sl (es := (a :: r).map fun r => [intsD r]) rfl (by simp)) rfl
    ·simp [packD, rotaN]
 ·rw [if_neg h0, if_neg h0]
  conv=>whnf
  refine brk_i (fun _ => ?_) (fun h1 => absurd h1 (by simp [h0]))
  conv=>whnf
  rw [if_neg h0]
  exact RetA_view 0 rfl ⟨⟨rfl, rfl⟩, rfl⟩
end Go.PX
namespace Go.PX
open Go.Proofs
abbrev Kn := List (Tired × Int)
def knD (kn : Kn) : List (D × D) := kn.map fun p => (p.1.d, i64 p.2)
def getK : Kn → Tired → Option Int
 | [], _ => none
 | (u, x) :: r, t => if t = u then some x else getK r t
def putK : Kn → Tired → Int → Kn
 | [], t, v => [(t, v)]
 | (u, x) :: r, t, v => if t = u then (t, v) :: r else (u, x) :: putK r t v
theorem same_tired (t u : Tired) : sameD t.d u.d = some (decide (t = u)) := by
 have h : sameL t.cells u.cells = some (decide (t.slot = u.slot) && (decide (t.m0 = u.m0) && (decide (t.m1 = u.m1) && (decide (t.m2 = u.m2) && (decide (t.m3 = u.m3) && (decide (t.m4 = u.m4) && true)))))) := rfl
 show sameL t.cells u.cells = _
 rw [h]
 congr 1
 cases t; cases u
 simp [Bool.and_assoc]
theorem find_kn_none {kn : Kn} {t : Tired} (h : getK kn t = none) : ∀ n, findD t.d (knD kn) n = some none := by
 induction kn with
 | nil => intro n; rfl
 | cons p r ih =>
  obtain ⟨u, x⟩ := p
  intro n
  rw [getK] at h
  split at h
  ·cases h
  ·rename_i hu
   show (match sameD t.d u.d with
    | some true => some (some (n, i64 x))
    | some false => findD t.d (knD r) (n + 1)
    | none => none) = _
   rw [same_tired, decide_eq_false hu]
   exact ih h (n + 1)
theorem find_kn_some {kn : Kn} {t : Tired} {v : Int} (h : getK kn t = some v) : ∀ n, ∃ i, findD t.d (knD kn) n = some (some (n + i, i64 v)) ∧ ∀ y, (knD kn).set i (t.d, i64 y) = knD (putK kn t y) := by
 induction kn with
 | nil => cases h
 | cons p r ih =>
  obtain ⟨u, x⟩ := p
  intro n
  rw [getK] at h
  split at h
  ·rename_i hu
   cases h
   refine ⟨0, ?_, fun y => ?_⟩
   ·show (match sameD t.d u.d with
     | some true => some (some (n, i64 v))
     | some false => findD t.d (knD r) (n + 1)
     | none => none) = _
    rw [same_tired, decide_eq_true hu]; rfl
   ·rw [putK, if_pos hu]; rfl
  ·rename_i hu
   obtain ⟨i, h1, h2⟩ := ih h (n + 1)
   refine ⟨i + 1, ?_, fun y => ?_⟩
   ·show (match sameD t.d u.d with
     | some true => some (some (n, i64 x))
     | some false => findD t.d (knD r) (n + 1)
     | none => none) = _
    rw [same_tired, decide_eq_false hu]
    show findD t.d (knD r) (n + 1) = _
    rw [h1, show n + 1 + i = n + (i + 1) by omega]
   ·rw [putK, if_neg hu]
    show (u.d, i64 x) :: (knD r).set i (t.d, i64 y) = (u.d, i64 x) :: knD (putK r t y)
    rw [h2 y]
theorem put_kn_none {kn : Kn} {t : Tired} (h : getK kn t = none) (y : Int) : knD kn ++ [(t.d, i64 y)] = knD (putK kn t y) := by
 induction kn with
 | nil => rfl
 | cons p r ih =>
  obtain ⟨u, x⟩ := p
  rw [getK] at h
  split at h
  ·cases h
  ·rename_i hu
   rw [putK, if_neg hu]
   show (u.d, i64 x) :: (knD r ++ [(t.d, i64 y)]) = _
   rw [ih h]; rfl
theorem get_put_kn (kn : Kn) (t u : Tired) (y : Int) : getK (putK kn t y) u = if u = t then some y else getK kn u := by
 induction kn with
 | nil => rfl
 | cons p r ih =>
  obtain ⟨w, x⟩ := p
  rw [putK]
  split
  ·rename_i h
   subst h
   simp only [getK]
   split <;> rfl
  ·rename_i h
   simp only [getK]
   split
   ·rename_i h2
    subst h2
    rw [if_neg (fun e => h e.symm)]
   ·exact ih
def freshK (kn : Kn) (t : Tired) : Bool := !(getK kn t == some 1 || getK kn t == some 2 || getK kn t == some 3)
def tryF (f : Kn → Tired → Bool × Kn) : Kn → List Tired → Bool × Kn
 | kn, [] => (false, kn)
 | kn, u :: r => if (f kn u).1 then (true, (f kn u).2) else tryF f (f kn u).2 r
def endF (c : WCase) (set : Int) : Nat → Kn → Tired → Bool × Kn
 | 0, kn, t => (getK kn t == some 2 || getK kn t == some 1, kn)
 | n + 1, kn, t =>
  if getK kn t = some 2 ∨ getK kn t = some 1 then (true, kn)
  else if getK kn t = some 3 then (false, kn)
  else
   let r := tryF (endF c set n) (putK kn t 1) ((groupsF c set t).map (·.2))
   (r.1, putK r.2 t (if r.1 then 2 else 3))
structure InU (c : WCase) (t : Tired) : Prop where
 slot : 0 ≤ t.slot ∧ t.slot < c.slots.length
 m : ∀ j, j < 5 → -2 ≤ t.get j ∧ t.get j ≤ 3
def val6 : List Int := [-2, -1, 0, 1, 2, 3]
def univ (c : WCase) : List Tired := (List.range c.slots.length).flatMap fun s => val6.flatMap fun a => val6.flatMap fun b => val6.flatMap fun d => val6.flatMap fun e => val6.map fun f => ⟨(s : Nat), a, b, d, e, f⟩
theorem mem_val6 {x : Int} (h : -2 ≤ x ∧ x ≤ 3) : x ∈ val6 := by
 have : x = -2 ∨ x = -1 ∨ x = 0 ∨ x = 1 ∨ x = 2 ∨ x = 3 := by omega
 rcases this with rfl | rfl | rfl | rfl | rfl | rfl <;> decide
theorem InU.mem {c : WCase} {t : Tired} (h : InU c t) : t ∈ univ c := by
 obtain ⟨hs, hm⟩ := h
 simp only [univ, List.mem_flatMap, List.mem_map, List.mem_range]
 refine ⟨t.slot.toNat, by omega, t.m0, mem_val6 (hm 0 (by decide)), t.m1, mem_val6 (hm 1 (by decide)), t.m2, mem_val6 (hm 2 (by decide)), t.m3, mem_val6 (hm 3 (by decide)), t.m4, mem_val6 (hm 4 (by decide)), ?_⟩
 have : ((t.slot.toNat : Nat) : Int) = t.slot := by omega
 rw [this]
theorem flatMap_len_eq {α β : Type} {f : α → List β} {k : Nat} : ∀ {l : List α}, (∀ x, (f x).length = k) → (l.flatMap f).length = l.length * k
 | [], _ => by simp
 | x :: r, h => by
  rw [List.flatMap_cons, List.length_append, h x, flatMap_len_eq (l := r) h, List.length_cons, Nat.add_mul]
  omega
theorem univ_len (c : WCase) : (univ c).length = c.slots.length * 7776 := by
 unfold univ
 rw [flatMap_len_eq (k := 7776), List.length_range]
 intro s
 rw [flatMap_len_eq (k := 1296)]; · rfl
 intro a
 rw [flatMap_len_eq (k := 216)]; · rfl
 intro b
 rw [flatMap_len_eq (k := 36)]; · rfl
 intro d
 rw [flatMap_len_eq (k := 6)]; · rfl
 intro e
 rfl
def cntK (c : WCase) (kn : Kn) : Nat := ((univ c).filter (freshK kn)).length
theorem filter_le {α : Type} {p q : α → Bool} (h : ∀ x, q x = true → p x = true) : ∀ (l : List α), (l.filter q).length ≤ (l.filter p).length
 | [] => Nat.le_refl _
 | x :: r => by
  have := filter_le h r
  rw [List.filter_cons, List.filter_cons]
  by_cases hq : q x = true
  ·rw [if_pos hq, if_pos (h x hq)]; simp; omega
  ·rw [if_neg hq]
   split
   ·simp; omega
   ·exact this
theorem filter_lt {α : Type} {p q : α → Bool} (h : ∀ x, q x = true → p x = true) : ∀ {l : List α} {y : α}, y ∈ l → p y = true → q y = false → (l.filter q).length < (l.filter p).length
 | [], y, hy, _, _ => by cases hy
 | x :: r, y, hy, hp, hq => by
  rw [List.filter_cons, List.filter_cons]
  rcases List.mem_cons.1 hy with rfl | hy
  ·rw [if_pos hp, if_neg (by rw [hq]; simp)]
   have := filter_le h r
   simp; omega
  ·have := filter_lt h hy hp hq
   by_cases hq' : q x = true
   ·rw [if_pos hq', if_pos (h x hq')]; simp; omega
   ·rw [if_neg hq']
    split
    ·simp; omega
    ·exact this
def KnLe (a b : Kn) : Prop := ∀ t, freshK b t = true → freshK a t = true
theorem KnLe.cnt {c : WCase} {a b : Kn} (h : KnLe a b) : cntK c b ≤ cntK c a := filter_le h _
theorem KnLe.put (kn : Kn) (t : Tired) {y : Int} (hy : y = 1 ∨ y = 2 ∨ y = 3) : KnLe kn (putK kn t y) := by
 intro u hu
 unfold freshK at hu ⊢
 rw [get_put_kn] at hu
 split at hu
 ·rcases hy with rfl | rfl | rfl <;> simp at hu
 ·exact hu
theorem cnt_put {c : WCase} {kn : Kn} {t : Tired} (ht : InU c t) (hf : freshK kn t = true) : cntK c (putK kn t 1) < cntK c kn := by
 refine filter_lt (KnLe.put kn t (.inl rfl)) ht.mem hf ?_
 unfold freshK
 rw [get_put_kn, if_pos rfl]; rfl
theorem tryF_le {f : Kn → Tired → Bool × Kn} (hf : ∀ kn t, KnLe kn (f kn t).2) : ∀ (l : List Tired) (kn : Kn), KnLe kn (tryF f kn l).2
 | [], kn => fun _ h => h
 | u :: r, kn => by
  rw [tryF]
  split
  ·exact hf kn u
  ·exact fun t h => hf kn u t (tryF_le hf r _ t h)
theorem endF_le {c : WCase} {set : Int} : ∀ (n : Nat) (kn : Kn) (t : Tired), KnLe kn (endF c set n kn t).2
 | 0, kn, t => fun _ h => h
 | n + 1, kn, t => by
  rw [endF]
  split
  ·exact fun _ h => h
  split
  ·exact fun _ h => h
  intro u hu
  refine KnLe.put kn t (y := 1) (.inl rfl) u (tryF_le (endF_le n) _ _ u (KnLe.put _ t ?_ u hu))
  split
  ·exact .inr (.inl rfl)
  ·exact .inr (.inr rfl)
theorem why_zero {c : WCase} {set : Int} {t : Tired} {s : Slot} {p : List Int} (h : (whyF c set t s p).1 = 0) : (p.length : Int) = s.men ∧ (∃ m ∈ p, (manAt c m).kind ≥ s.least) ∧ (∀ m ∈ p, inSet set m = true ∧ t.slot ∉ (manAt c m).no) ∧ (∀ m ∈ p, t.get m.toNat < c.run) ∧ (∀ m ∈ p, 0 ≤ t.get m.toNat) := by
 unfold whyF at h
 split at h
 ·simp at h
 rename_i h1
 split at h
 ·simp at h
 rename_i h2
 split at h
 ·simp at h
 rename_i h3
 split at h
 ·simp at h
 rename_i h4
 split at h
 ·simp at h
 rename_i h5
 refine ⟨by simpa using h1, ?_, ?_, ?_, ?_⟩
 ·simpa using h2
 ·intro m hm
  have := List.find?_eq_none.1 h3 m hm
  simpa using this
 ·intro m hm
  have := List.find?_eq_none.1 h4 m hm
  simpa using this
 ·intro m hm
  have := List.find?_eq_none.1 h5 m hm
  simpa using this
theorem behind_get {c : WCase} (hR : WR c) {t : Tired} {group : List Int} {j : Nat} (hj : j < 5) : (behindF c t group).get j = if j < c.men.length then tireF c.rest (decide ((j : Int) ∈ group)) (t.get j) else t.get j := by
 have hm := hR.men
 unfold behindF
 rw [tireTo_get (by omega) hj]
 have h2 : (Tired.mk ((t.slot + 1).tmod c.slots.length) t.m0 t.m1 t.m2 t.m3 t.m4).get j = t.get j := by
  have h2 : j = 0 ∨ j = 1 ∨ j = 2 ∨ j = 3 ∨ j = 4 := by omega
  rcases h2 with rfl | rfl | rfl | rfl | rfl <;> rfl
 show (if j < c.men.length then tireF c.rest (decide ((j : Int) ∈ group)) ((Tired.mk ((t.slot + 1).tmod c.slots.length) t.m0 t.m1 t.m2 t.m3 t.m4).get j) else (Tired.mk ((t.slot + 1).tmod c.slots.length) t.m0 t.m1 t.m2 t.m3 t.m4).get j) = _
 rw [h2]
theorem behind_InU {c : WCase} (hR : WR c) {set : Int} {t : Tired} {s : Slot} {p : List Int} (ht : InU c t) (h : (whyF c set t s p).1 = 0) : InU c (behindF c t p) := by
 have hr := hR.run
 have hre := hR.rest
 obtain ⟨_, _, _, h4, h5⟩ := why_zero h
 refine ⟨behind_slot hR ht.slot.1, fun j hj => ?_⟩
 have := ht.m j hj
 rw [behind_get hR hj]
 split
 ·unfold tireF
  split
  ·rename_i hin
   have hin : (j : Int) ∈ p := of_decide_eq_true hin
   have h6 := h4 _ hin
   have h7 := h5 _ hin
   simp only [Int.toNat_natCast] at h6 h7
   omega
  ·split
   ·omega
   ·split <;> omega
 ·exact this
theorem groupsL_ok {c : WCase} {set : Int} {t : Tired} {s : Slot} : ∀ {left : Nat} {p : List Int} {start : Nat} {x : List Int × Tired}, x ∈ groupsL c set t s left p start → (whyF c set t s x.1).1 = 0 ∧ x.2 = behindF c t x.1
 | 0, p, start, x, h => by
  rw [groupsL] at h
  split at h
  ·rename_i h0
   rw [List.mem_singleton] at h; subst h; exact ⟨h0, rfl⟩
  ·cases h
 | left + 1, p, start, x, h => by
  rw [groupsL, List.mem_flatMap] at h
  obtain ⟨i, _, h⟩ := h
  exact groupsL_ok h
theorem groups_InU {c : WCase} (hR : WR c) {set : Int} {t : Tired} (ht : InU c t) {x : List Int × Tired} (h : x ∈ groupsF c set t) : InU c x.2 := by
 obtain ⟨h1, h2⟩ := groupsL_ok h
 rw [h2]
 exact behind_InU hR ht h1
theorem InU.zero {c : WCase} (hR : WR c) : InU c Tired.zero := by
 have := hR.slots
 refine ⟨by simp [Tired.zero]; omega, fun j hj => ?_⟩
 have h2 : j = 0 ∨ j = 1 ∨ j = 2 ∨ j = 3 ∨ j = 4 := by omega
 rcases h2 with rfl | rfl | rfl | rfl | rfl <;> simp [Tired.zero, Tired.get]
theorem InU.tok {c : WCase} (hR : WR c) {t : Tired} (h : InU c t) : TOk t ∧ t.slot < c.slots.length := by
 have := hR.slots
 have h0 := h.m 0 (by decide); have h1 := h.m 1 (by decide); have h2 := h.m 2 (by decide); have h3 := h.m 3 (by decide); have h4 := h.m 4 (by decide)
 have hs := h.slot
 simp only [Tired.get] at h0 h1 h2 h3 h4
 exact ⟨⟨by omega, by omega, by omega, by omega, by omega, by omega⟩, hs.2⟩
end Go.PX
namespace Go.PX
open Go.Proofs
def webH (c : WCase) (set : Int) (k f : Kn) : Heap := [(1000000, .box (.vv [.d (crewD c set), .mp 1000001, .mp 1000002])), (1000001, .map (knD k)), (1000002, .map (knD f))]
def EndOk (c : WCase) (set : Int) (n : Nat) : Prop :=
 ∀ (kn fa : Kn) (t : Tired), InU c t → cntK c kn ≤ n → FnU Try.prog 73 [.ptr 1000000 0, .d t.d] (webH c set kn fa) fun v h' => v = .d (.bool (endF c set n kn t).1) ∧ h' = webH c set (endF c set n kn t).2 fa
theorem endF_12 {c : WCase} {set : Int} {kn : Kn} {t : Tired} (h : getK kn t = some 2 ∨ getK kn t = some 1) : ∀ n, endF c set n kn t = (true, kn)
 | 0 => by rw [endF]; rcases h with h | h <;> simp [h]
 | n + 1 => by rw [endF, if_pos h]
theorem endF_3 {c : WCase} {set : Int} {kn : Kn} {t : Tired} (h : getK kn t = some 3) : ∀ n, endF c set n kn t = (false, kn)
 | 0 => by rw [endF]; simp [h]
 | n + 1 => by rw [endF, if_neg (by simp [h]), if_pos h]
theorem endF_new {c : WCase} {set : Int} {kn : Kn} {t : Tired} (h : freshK kn t = true) (n : Nat) : endF c set (n + 1) kn t = ((tryF (endF c set n) (putK kn t 1) ((groupsF c set t).map (·.2))).1, putK (tryF (endF c set n) (putK kn t 1) ((groupsF c set t).map (·.2))).2 t (if (tryF (endF c set n) (putK kn t 1) ((groupsF c set t).map (·.2))).1 then 2 else 3)) := by
 rw [endF, if_neg, if_neg]
 ·intro h2; rw [freshK, h2] at h; simp at h
 ·intro h2; rcases h2 with h2 | h2 <;> rw [freshK, h2] at h <;> simp at h
theorem end_new {c : WCase} (hR : WR c) {set : Int} {n : Nat} (ih : ∀ m, n = m + 1 → EndOk c set m) : EndOk c set n := by
 intro kn fa t ht hc σ Y s
 refine fnC_of mixed tysOk Try.func73 rfl (ft := ft73) (args := [.ptr 1000000 0, .d t.d]) (show fnB ft73 Try.f73 2 = true from by decide +kernel) ?_
 conv=>whnf
 by_cases hf : freshK kn t = true
 ·obtain ⟨m, rfl⟩ : ∃ m, n = m + 1 := ⟨n - 1, by have := cnt_put ht hf; omega⟩
  rw [endF_new hf]
  have ih := ih m rfl
  have hc' : cntK c (putK kn t 1) ≤ m := by have := cnt_put ht hf; omega
  have hns : ∀ v, getK kn t = some v → v ≠ 2 ∧ v ≠ 1 ∧ v ≠ 3 := by
   intro v hv
   refine ⟨?_, ?_, ?_⟩ <;> rintro rfl <;> rw [freshK, hv] at hf <;> simp at hf
  cases hk : getK kn t with
  | none =>
   refine ⟨none, find_kn_none hk 0, ?_⟩
   conv=>whnf
   refine ⟨none, find_kn_none hk 0, ?_⟩
   conv=>whnf
   refine DrawCall_v (ds := [crewD c set, t.d]) (wa68 c set t) rfl rfl ?_
   conv=>whnf
   refine RangeA.wk (st' := ⟨[(2, .ptr 2 0), (3, .ptr 3 0), (4, .ptr 4 0), (28, .d (.clo 93 [.ref [crewD c set], .ref t.cells]))], [(1000000, .box (.vv [.d (crewD c set), .mp 1000001, .mp 1000002])), (1000001, .map (knD (putK kn t 1))), (1000002, .map (knD fa)), (2, .box (.vv [.ptr 1000000 0])), (3, .box (.dd t.cells)), (4, .box (.dd [.bool false]))], s⟩) (Wk.sub ⟨rfl, rfl, rfl, rfl, trivial⟩ ⟨rfl, (by rw [← put_kn_none hk]; rfl), rfl, rfl, rfl, rfl, trivial⟩) ?_
   obtain ⟨hto, hts⟩ := ht.tok hR
   refine RangeA_list tysOk (by exact drawsB_spec mixed tysOk (by decide +kernel)) (by exact drawsB_spec mixed tysOk (by decide +kernel)) rfl 1500000 1600000 [2, 3, 4] (by exact yields93 c hR set t hto hts)
    (fun (x : Kn) => ([(1000000, .box (.vv [.d (crewD c set), .mp 1000001, .mp 1000002])), (1000001, .map (knD x)), (1000002, .map (knD fa)), (1500000, .box (.vv [.ptr 1000000 0])), (1500001, .box (.dd t.cells)), (1500002, .box (.dd [.bool false]))], s))
    (fun (rest : List (List Int × Tired)) x => tryF (endF c set m) (putK kn t 1) ((groupsF c set t).map (·.2)) = tryF (endF c set m) x (rest.map (·.2)) ∧ cntK c x ≤ m ∧ ∀ p ∈ rest, InU c p.2) (putK kn t 1) rfl rfl rfl ⟨rfl, hc', fun p hp => groups_InU hR ht hp⟩ ?_ ?_
   ·rintro ⟨g, u⟩ rest x ⟨he, hcx, hin⟩ Q hQ1 hQ
    refine ⟨⟨rfl, item_okL _⟩, ?_⟩
    have hu : InU c u := hin (g, u) (by simp)
    rw [List.map_cons, tryF] at he
    conv=>whnf
    refine CallA_fn (ih x fa u hu hcx) [1000000, 1000001, 1000002] rfl ⟨_, _, rfl, rfl, _, _, rfl, rfl, _, _, rfl, rfl, rfl⟩ rfl ?_
    cases hb : (endF c set m x u).1 with
    | false =>
     rw [hb] at he
     simp only [Bool.false_eq_true, if_false] at he
     conv=>whnf
     exact ⟨(endF c set m x u).2, (Wk.sub trivial (by repeat' first|exact trivial|refine⟨?_,?_⟩|rfl|(simp only[List.length_map];rfl)|simp[PX.get])), rfl, hQ1 _ ⟨he, Nat.le_trans (endF_le m x u).cnt hcx, fun p hp => hin p (by simp [hp])⟩⟩
    | true =>
     rw [hb] at he
     simp only [if_true] at he
     conv=>whnf
     cases hk2 : getK (endF c set m x u).2 t with
     | none =>
      refine ⟨none, find_kn_none hk2 0, ?_⟩
      conv=>whnf
      refine ⟨[(1000000, .box (.vv [.d (crewD c set), .mp 1000001, .mp 1000002])), (1000001, .map (knD (putK (endF c set m x u).2 t 2))), (1000002, .map (knD fa)), (1500000, .box (.vv [.ptr 1000000 0])), (1500001, .box (.dd t.cells)), (1500002, .box (.dd [.bool true]))], s, Wk.sub trivial ⟨rfl, (by rw [← put_kn_none hk2]; rfl), rfl, rfl, rfl, rfl, rfl, trivial⟩, rfl, hQ _ _ _ ?_⟩
      conv=>whnf
      refine RetA_hand [] [.d (.bool true)] (webH c set (putK (endF c set m x u).2 t 2) fa) rfl ⟨rfl, rfl, rfl, trivial⟩ rfl ⟨⟨?_, ?_⟩, rfl⟩
      ·rw [he]; rfl
      ·rw [he]; rfl
     | some v2 =>
      obtain ⟨ix2, hy1, hy2⟩ := find_kn_some hk2 0
      refine ⟨_, hy1, ?_⟩
      conv=>whnf
      refine ⟨[(1000000, .box (.vv [.d (crewD c set), .mp 1000001, .mp 1000002])), (1000001, .map (knD (putK (endF c set m x u).2 t 2))), (1000002, .map (knD fa)), (1500000, .box (.vv [.ptr 1000000 0])), (1500001, .box (.dd t.cells)), (1500002, .box (.dd [.bool true]))], s, Wk.sub trivial ⟨rfl, (by rw [← hy2, Nat.zero_add]; rfl), rfl, rfl, rfl, rfl, rfl, trivial⟩, rfl, hQ _ _ _ ?_⟩
      conv=>whnf
      refine RetA_hand [] [.d (.bool true)] (webH c set (putK (endF c set m x u).2 t 2) fa) rfl ⟨rfl, rfl, rfl, trivial⟩ rfl ⟨⟨?_, ?_⟩, rfl⟩
      ·rw [he]; rfl
      ·rw [he]; rfl
   ·rintro x ⟨he, hcx, _⟩
    rw [List.map_nil, tryF] at he
    conv=>whnf
    cases hk2 : getK x t with
    | none =>
     refine ⟨none, find_kn_none hk2 0, ?_⟩
     conv=>whnf
     refine RetA_hand [] [.d (.bool false)] (webH c set (putK x t 3) fa) rfl ⟨rfl, (by rw [← put_kn_none hk2]; rfl), rfl, trivial⟩ rfl ⟨⟨?_, ?_⟩, rfl⟩
     ·rw [he]; rfl
     ·rw [he]; rfl
    | some v2 =>
     obtain ⟨ix2, hy1, hy2⟩ := find_kn_some hk2 0
     refine ⟨_, hy1, ?_⟩
     conv=>whnf
     refine RetA_hand [] [.d (.bool false)] (webH c set (putK x t 3) fa) rfl ⟨rfl, (by rw [← hy2, Nat.zero_add]; rfl), rfl, trivial⟩ rfl ⟨⟨?_, ?_⟩, rfl⟩
     ·rw [he]; rfl
     ·rw [he]; rfl
  | some v =>
   obtain ⟨ix, hx1, hx2⟩ := find_kn_some hk 0
   obtain ⟨n1, n2, n3⟩ := hns v hk
   refine ⟨_, hx1, ?_⟩
   conv=>whnf
   refine brk_i (fun h => absurd h (by simpa using n1)) (fun _ => ?_)
   conv=>whnf
   refine brk_i (fun h => absurd h (by simpa using n2)) (fun _ => ?_)
   conv=>whnf
   refine brk_i (fun h => absurd h (by simpa using n3)) (fun _ => ?_)
   conv=>whnf
   refine ⟨_, hx1, ?_⟩
   conv=>whnf
   refine DrawCall_v (ds := [crewD c set, t.d]) (wa68 c set t) rfl rfl ?_
   conv=>whnf
   refine RangeA.wk (st' := ⟨[(2, .ptr 2 0), (3, .ptr 3 0), (4, .ptr 4 0), (28, .d (.clo 93 [.ref [crewD c set], .ref t.cells]))], [(1000000, .box (.vv [.d (crewD c set), .mp 1000001, .mp 1000002])), (1000001, .map (knD (putK kn t 1))), (1000002, .map (knD fa)), (2, .box (.vv [.ptr 1000000 0])), (3, .box (.dd t.cells)), (4, .box (.dd [.bool false]))], s⟩) (Wk.sub ⟨rfl, rfl, rfl, rfl, trivial⟩ ⟨rfl, (by rw [← hx2, Nat.zero_add]; rfl), rfl, rfl, rfl, rfl, trivial⟩) ?_
   obtain ⟨hto, hts⟩ := ht.tok hR
   refine RangeA_list tysOk (by exact drawsB_spec mixed tysOk (by decide +kernel)) (by exact drawsB_spec mixed tysOk (by decide +kernel)) rfl 1500000 1600000 [2, 3, 4] (by exact yields93 c hR set t hto hts)
    (fun (x : Kn) => ([(1000000, .box (.vv [.d (crewD c set), .mp 1000001, .mp 1000002])), (1000001, .map (knD x)), (1000002, .map (knD fa)), (1500000, .box (.vv [.ptr 1000000 0])), (1500001, .box (.dd t.cells)), (1500002, .box (.dd [.bool false]))], s))
    (fun (rest : List (List Int × Tired)) x => tryF (endF c set m) (putK kn t 1) ((groupsF c set t).map (·.2)) = tryF (endF c set m) x (rest.map (·.2)) ∧ cntK c x ≤ m ∧ ∀ p ∈ rest, InU c p.2) (putK kn t 1) rfl rfl rfl ⟨rfl, hc', fun p hp => groups_InU hR ht hp⟩ ?_ ?_
   ·rintro ⟨g, u⟩ rest x ⟨he, hcx, hin⟩ Q hQ1 hQ
    refine ⟨⟨rfl, item_okL _⟩, ?_⟩
    have hu : InU c u := hin (g, u) (by simp)
    rw [List.map_cons, tryF] at he
    conv=>whnf
    refine CallA_fn (ih x fa u hu hcx) [1000000, 1000001, 1000002] rfl ⟨_, _, rfl, rfl, _, _, rfl, rfl, _, _, rfl, rfl, rfl⟩ rfl ?_
    cases hb : (endF c set m x u).1 with
    | false =>
     rw [hb] at he
     simp only [Bool.false_eq_true, if_false] at he
     conv=>whnf
     exact ⟨(endF c set m x u).2, (Wk.sub trivial (by repeat' first|exact trivial|refine⟨?_,?_⟩|rfl|(simp only[List.length_map];rfl)|simp[PX.get])), rfl, hQ1 _ ⟨he, Nat.le_trans (endF_le m x u).cnt hcx, fun p hp => hin p (by simp [hp])⟩⟩
    | true =>
     rw [hb] at he
     simp only [if_true] at he
     conv=>whnf
     cases hk2 : getK (endF c set m x u).2 t with
     | none =>
      refine ⟨none, find_kn_none hk2 0, ?_⟩
      conv=>whnf
      refine ⟨[(1000000, .box (.vv [.d (crewD c set), .mp 1000001, .mp 1000002])), (1000001, .map (knD (putK (endF c set m x u).2 t 2))), (1000002, .map (knD fa)), (1500000, .box (.vv [.ptr 1000000 0])), (1500001, .box (.dd t.cells)), (1500002, .box (.dd [.bool true]))], s, Wk.sub trivial ⟨rfl, (by rw [← put_kn_none hk2]; rfl), rfl, rfl, rfl, rfl, rfl, trivial⟩, rfl, hQ _ _ _ ?_⟩
      conv=>whnf
      refine RetA_hand [] [.d (.bool true)] (webH c set (putK (endF c set m x u).2 t 2) fa) rfl ⟨rfl, rfl, rfl, trivial⟩ rfl ⟨⟨?_, ?_⟩, rfl⟩
      ·rw [he]; rfl
      ·rw [he]; rfl
     | some v2 =>
      obtain ⟨ix2, hy1, hy2⟩ := find_kn_some hk2 0
      refine ⟨_, hy1, ?_⟩
      conv=>whnf
      refine ⟨[(1000000, .box (.vv [.d (crewD c set), .mp 1000001, .mp 1000002])), (1000001, .map (knD (putK (endF c set m x u).2 t 2))), (1000002, .map (knD fa)), (1500000, .box (.vv [.ptr 1000000 0])), (1500001, .box (.dd t.cells)), (1500002, .box (.dd [.bool true]))], s, Wk.sub trivial ⟨rfl, (by rw [← hy2, Nat.zero_add]; rfl), rfl, rfl, rfl, rfl, rfl, trivial⟩, rfl, hQ _ _ _ ?_⟩
      conv=>whnf
      refine RetA_hand [] [.d (.bool true)] (webH c set (putK (endF c set m x u).2 t 2) fa) rfl ⟨rfl, rfl, rfl, trivial⟩ rfl ⟨⟨?_, ?_⟩, rfl⟩
      ·rw [he]; rfl
      ·rw [he]; rfl
   ·rintro x ⟨he, hcx, _⟩
    rw [List.map_nil, tryF] at he
    conv=>whnf
    cases hk2 : getK x t with
    | none =>
     refine ⟨none, find_kn_none hk2 0, ?_⟩
     conv=>whnf
     refine RetA_hand [] [.d (.bool false)] (webH c set (putK x t 3) fa) rfl ⟨rfl, (by rw [← put_kn_none hk2]; rfl), rfl, trivial⟩ rfl ⟨⟨?_, ?_⟩, rfl⟩
     ·rw [he]; rfl
     ·rw [he]; rfl
    | some v2 =>
     obtain ⟨ix2, hy1, hy2⟩ := find_kn_some hk2 0
     refine ⟨_, hy1, ?_⟩
     conv=>whnf
     refine RetA_hand [] [.d (.bool false)] (webH c set (putK x t 3) fa) rfl ⟨rfl, (by rw [← hy2, Nat.zero_add]; rfl), rfl, trivial⟩ rfl ⟨⟨?_, ?_⟩, rfl⟩
     ·rw [he]; rfl
     ·rw [he]; rfl
 ·have hf : freshK kn t = false := by simpa using hf
  cases hk : getK kn t with
  | none => rw [freshK, hk] at hf; simp at hf
  | some v =>
   obtain ⟨ix, hx1, _⟩ := find_kn_some hk 0
   have hv : v = 2 ∨ v = 1 ∨ v = 3 := by
    rw [freshK, hk] at hf
    simp at hf
    omega
   refine ⟨_, hx1, ?_⟩
   rcases hv with rfl | rfl | rfl
   ·rw [endF_12 (.inl hk)]
    conv=>whnf
    refine RetA_hand [] [.d (.bool true)] (webH c set kn fa) rfl ⟨rfl, rfl, rfl, trivial⟩ rfl ⟨⟨rfl, rfl⟩, rfl⟩
   ·rw [endF_12 (.inr hk)]
    conv=>whnf
    refine RetA_hand [] [.d (.bool true)] (webH c set kn fa) rfl ⟨rfl, rfl, rfl, trivial⟩ rfl ⟨⟨rfl, rfl⟩, rfl⟩
   ·rw [endF_3 hk]
    conv=>whnf
    refine RetA_hand [] [.d (.bool false)] (webH c set kn fa) rfl ⟨rfl, rfl, rfl, trivial⟩ rfl ⟨⟨rfl, rfl⟩, rfl⟩
theorem endOk {c : WCase} (hR : WR c) {set : Int} : ∀ n, EndOk c set n
 | 0 => end_new hR fun m h => by omega
 | n + 1 => end_new hR fun m h => by
  have : m = n := by omega
  subst this
  exact endOk hR m
end Go.PX
namespace Go.PX
open Go.Proofs
def succF (c : WCase) (set : Int) (t : Tired) : List Tired := (groupsF c set t).map (·.2)
def deadN (c : WCase) (set : Int) : Nat → Tired → Prop
 | 0, _ => False
 | n + 1, t => ∀ u ∈ succF c set t, deadN c set n u
theorem deadN_up {c : WCase} {set : Int} : ∀ {n : Nat} {t : Tired}, deadN c set n t → deadN c set (n + 1) t
 | 0, t, h => h.elim
 | n + 1, t, h => fun u hu => deadN_up (h u hu)
theorem deadN_le {c : WCase} {set : Int} {n : Nat} {t : Tired} (h : deadN c set n t) : ∀ {m : Nat}, n ≤ m → deadN c set m t := by
 intro m hm
 induction hm with
 | refl => exact h
 | step _ ih => exact deadN_up ih
def hgtN (c : WCase) (set : Int) : Nat → Tired → Int
 | 0, _ => 0
 | n + 1, t => (succF c set t).foldl (fun x u => max x (1 + hgtN c set n u)) 0
theorem foldl_congr {α β : Type} {f g : β → α → β} : ∀ {l : List α} {x : β}, (∀ u ∈ l, ∀ y, f y u = g y u) → l.foldl f x = l.foldl g x
 | [], x, _ => rfl
 | u :: r, x, h => by
  rw [List.foldl_cons, List.foldl_cons, h u (by simp)]
  exact foldl_congr fun v hv => h v (by simp [hv])
theorem hgt_up {c : WCase} {set : Int} : ∀ {n : Nat} {t : Tired}, deadN c set n t → hgtN c set (n + 1) t = hgtN c set n t
 | 0, t, h => h.elim
 | n + 1, t, h => by
  rw [hgtN, hgtN]
  exact foldl_congr fun u hu y => by rw [hgt_up (h u hu)]
theorem hgt_le {c : WCase} {set : Int} {n : Nat} {t : Tired} (h : deadN c set n t) {m : Nat} (hm : n ≤ m) : hgtN c set m t = hgtN c set n t := by
 induction hm with
 | refl => rfl
 | step hm ih => rw [hgt_up (deadN_le h hm), ih]
theorem hgt_eq {c : WCase} {set : Int} {n m : Nat} {t : Tired} (h : deadN c set n t) (k : deadN c set m t) : hgtN c set n t = hgtN c set m t := by
 rcases Nat.le_total n m with h1 | h1
 ·exact (hgt_le h h1).symm
 ·exact hgt_le k h1
theorem foldl_max_bd {f : Tired → Int} {B : Int} : ∀ {l : List Tired} {x : Int}, 0 ≤ x → x ≤ B → (∀ u ∈ l, 1 + f u ≤ B) → 0 ≤ l.foldl (fun x u => max x (1 + f u)) x ∧ l.foldl (fun x u => max x (1 + f u)) x ≤ B
 | [], x, h0, h1, _ => ⟨h0, h1⟩
 | u :: r, x, h0, h1, h => by
  rw [List.foldl_cons]
  have := h u (by simp)
  exact foldl_max_bd (by omega) (by omega) fun v hv => h v (by simp [hv])
theorem hgt_bd {c : WCase} {set : Int} : ∀ (n : Nat) (t : Tired), 0 ≤ hgtN c set n t ∧ hgtN c set n t ≤ n
 | 0, t => by simp [hgtN]
 | n + 1, t => by
  rw [hgtN]
  refine foldl_max_bd (by omega) (by omega) fun u _ => ?_
  have := hgt_bd (c := c) (set := set) n u
  omega
def FaOk (c : WCase) (set : Int) (fa : Kn) : Prop := ∀ t v, getK fa t = some v → ∃ n, n ≤ 100000 ∧ deadN c set n t ∧ v = hgtN c set n t
def maxF (f : Kn → Tired → Int × Kn) : Int → Kn → List Tired → Int × Kn
 | x, fa, [] => (x, fa)
 | x, fa, u :: r => maxF f (max x (1 + (f fa u).1)) (f fa u).2 r
def lonF (c : WCase) (set : Int) : Nat → Kn → Tired → Int × Kn
 | 0, fa, _ => (0, fa)
 | n + 1, fa, t => match getK fa t with
  | some v => (v, fa)
  | none => ((maxF (lonF c set n) 0 fa (succF c set t)).1, putK (maxF (lonF c set n) 0 fa (succF c set t)).2 t (maxF (lonF c set n) 0 fa (succF c set t)).1)
theorem maxF_val {c : WCase} {set : Int} {n : Nat} (ih : ∀ {fa : Kn} {t : Tired}, deadN c set n t → FaOk c set fa → (lonF c set n fa t).1 = hgtN c set n t ∧ FaOk c set (lonF c set n fa t).2) :
  ∀ {l : List Tired} {x : Int} {fa : Kn}, (∀ u ∈ l, deadN c set n u) → FaOk c set fa → (maxF (lonF c set n) x fa l).1 = l.foldl (fun x u => max x (1 + hgtN c set n u)) x ∧ FaOk c set (maxF (lonF c set n) x fa l).2
 | [], x, fa, _, hf => ⟨rfl, hf⟩
 | u :: r, x, fa, hd, hf => by
  obtain ⟨h1, h2⟩ := ih (hd u (by simp)) hf
  rw [maxF, List.foldl_cons, h1]
  exact maxF_val ih (fun v hv => hd v (by simp [hv])) h2
theorem lonF_val {c : WCase} {set : Int} : ∀ {n : Nat} {fa : Kn} {t : Tired}, n ≤ 100000 → deadN c set n t → FaOk c set fa → (lonF c set n fa t).1 = hgtN c set n t ∧ FaOk c set (lonF c set n fa t).2
 | 0, fa, t, _, hd, _ => hd.elim
 | n + 1, fa, t, hn, hd, hf => by
  rw [lonF]
  cases hk : getK fa t with
  | some v =>
   obtain ⟨m, hm1, hm2, hm3⟩ := hf t v hk
   exact ⟨by rw [hm3]; exact hgt_eq hm2 hd, hf⟩
  | none =>
   obtain ⟨h1, h2⟩ := maxF_val (n := n) (fun hd' hf' => lonF_val (by omega) hd' hf') (l := succF c set t) (x := 0) hd hf
   refine ⟨h1, fun u v hu => ?_⟩
   simp only at hu
   rw [get_put_kn] at hu
   split at hu
   ·rename_i e
    subst e
    cases hu
    exact ⟨n + 1, hn, hd, h1⟩
   ·exact h2 u v hu
def LonOk (c : WCase) (set : Int) (n : Nat) : Prop :=
 ∀ (kn fa : Kn) (t : Tired), InU c t → deadN c set n t → FaOk c set fa → FnU Try.prog 77 [.ptr 1000000 0, .d t.d] (webH c set kn fa) fun v h' => v = .d (i64 (lonF c set n fa t).1) ∧ h' = webH c set kn (lonF c set n fa t).2
theorem lon_new {c : WCase} (hR : WR c) {set : Int} {n : Nat} (hn : n + 1 ≤ 100000) (ih : LonOk c set n) : LonOk c set (n + 1) := by
 intro kn fa t ht hd hfa σ Y s
 refine fnC_of mixed tysOk Try.func77 rfl (ft := ft77) (args := [.ptr 1000000 0, .d t.d]) (show fnB ft77 Try.f77 2 = true from by decide +kernel) ?_
 conv=>whnf
 cases hk : getK fa t with
 | some v =>
  obtain ⟨ix, hx1, hx2⟩ := find_kn_some hk 0
  refine ⟨_, hx1, ?_⟩
  conv=>whnf
  refine RetA_hand [] [.d (i64 v)] (webH c set kn fa) rfl ⟨rfl, rfl, rfl, trivial⟩ rfl ⟨⟨?_, ?_⟩, rfl⟩
  ·rw [lonF, hk]; rfl
  ·rw [lonF, hk]
 | none =>
  have hl : lonF c set (n + 1) fa t = ((maxF (lonF c set n) 0 fa (succF c set t)).1, putK (maxF (lonF c set n) 0 fa (succF c set t)).2 t (maxF (lonF c set n) 0 fa (succF c set t)).1) := by rw [lonF, hk]
  rw [hl]
  refine ⟨none, find_kn_none hk 0, ?_⟩
  conv=>whnf
  refine DrawCall_v (ds := [crewD c set, t.d]) (wa68 c set t) rfl rfl ?_
  conv=>whnf
  obtain ⟨hto, hts⟩ := ht.tok hR
  refine RangeA.wk (st' := ⟨[(2, .ptr 2 0), (3, .ptr 3 0), (5, .ptr 5 0), (25, .d (.clo 93 [.ref [crewD c set], .ref t.cells]))], [(1000000, .box (.vv [.d (crewD c set), .mp 1000001, .mp 1000002])), (1000001, .map (knD kn)), (1000002, .map (knD fa)), (2, .box (.vv [.ptr 1000000 0])), (3, .box (.dd t.cells)), (5, .box (.dd [i64 0]))], s⟩) (Wk.sub ⟨rfl, rfl, rfl, rfl, trivial⟩ ⟨rfl, rfl, rfl, rfl, rfl, rfl, trivial⟩) ?_
  refine RangeA_list tysOk (by exact drawsB_spec mixed tysOk (by decide +kernel)) (by exact drawsB_spec mixed tysOk (by decide +kernel)) rfl 1500000 1600000 [2, 3, 5] (by exact yields93 c hR set t hto hts)
   (fun (x : Int × Kn) => ([(1000000, .box (.vv [.d (crewD c set), .mp 1000001, .mp 1000002])), (1000001, .map (knD kn)), (1000002, .map (knD x.2)), (1500000, .box (.vv [.ptr 1000000 0])), (1500001, .box (.dd t.cells)), (1500002, .box (.dd [i64 x.1]))], s))
   (fun (rest : List (List Int × Tired)) x => maxF (lonF c set n) 0 fa (succF c set t) = maxF (lonF c set n) x.1 x.2 (rest.map (·.2)) ∧ (0 ≤ x.1 ∧ x.1 ≤ 100000) ∧ FaOk c set x.2 ∧ ∀ p ∈ rest, InU c p.2 ∧ deadN c set n p.2) (0, fa) rfl rfl rfl ⟨rfl, by simp, hfa, fun p hp => ⟨groups_InU hR ht hp, hd p.2 (List.mem_map.2 ⟨p, hp, rfl⟩)⟩⟩ ?_ ?_
  ·rintro ⟨g, u⟩ rest ⟨x, fx⟩ ⟨he, hx, hfx, hin⟩ Q hQ1 -
   refine ⟨⟨rfl, item_okL _⟩, ?_⟩
   obtain ⟨hu, hdu⟩ : InU c u ∧ deadN c set n u := hin (g, u) (by simp)
   rw [List.map_cons, maxF] at he
   simp only at hx hfx he
   obtain ⟨h1, h2⟩ := lonF_val (c := c) (set := set) (n := n) (by omega) hdu hfx
   have h3 := hgt_bd (c := c) (set := set) n u
   conv=>whnf
   refine DrawCall_fn (ih kn fx u hu hdu hfx) [1000000, 1000001, 1000002] rfl ⟨_, _, rfl, rfl, _, _, rfl, rfl, _, _, rfl, rfl, rfl⟩ rfl ?_
   conv=>whnf
   refine arith_in (wrap_i64 (by (try dsimp only); omega)) ?_
   conv=>whnf
   exact ⟨(max x (1 + (lonF c set n fx u).1), (lonF c set n fx u).2), (Wk.sub trivial (by repeat' first|exact trivial|refine⟨?_,?_⟩|rfl|(simp only[List.length_map];rfl)|simp[PX.get])), rfl, hQ1 _ ⟨he, by simp only; omega, h2, fun p hp => hin p (by simp [hp])⟩⟩
  ·rintro ⟨x, fx⟩ ⟨he, hx, hfx, _⟩
   rw [List.map_nil, maxF] at he
   simp only at he
   rw [he]
   conv=>whnf
   cases hk2 : getK fx t with
   | none =>
    refine ⟨none, find_kn_none hk2 0, ?_⟩
    conv=>whnf
    refine RetA_hand [] [.d (i64 x)] (webH c set kn (putK fx t x)) rfl ⟨rfl, rfl, (by rw [← put_kn_none hk2]; rfl), trivial⟩ rfl ⟨⟨rfl, rfl⟩, rfl⟩
   | some v2 =>
    obtain ⟨ix2, hy1, hy2⟩ := find_kn_some hk2 0
    refine ⟨_, hy1, ?_⟩
    conv=>whnf
    refine RetA_hand [] [.d (i64 x)] (webH c set kn (putK fx t x)) rfl ⟨rfl, rfl, (by rw [← hy2, Nat.zero_add]; rfl), trivial⟩ rfl ⟨⟨rfl, rfl⟩, rfl⟩
theorem lonOk {c : WCase} (hR : WR c) {set : Int} : ∀ n, n ≤ 100000 → LonOk c set n
 | 0, _ => fun kn fa t ht hd => hd.elim
 | n + 1, h => lon_new hR h (lonOk hR n (by omega))
end Go.PX
namespace Go.PX
open Go.Proofs
inductive Rp (c : WCase) (set : Int) : Tired → Tired → Prop
 | one {t u : Tired} (h : u ∈ succF c set t) : Rp c set t u
 | cons {t w u : Tired} (h : w ∈ succF c set t) (k : Rp c set w u) : Rp c set t u
theorem Rp.snoc {c : WCase} {set : Int} {t w u : Tired} (h : Rp c set t w) (k : u ∈ succF c set w) : Rp c set t u := by
 induction h with
 | one h => exact .cons h (.one k)
 | cons h _ ih => exact .cons h (ih k)
theorem deadN_rp {c : WCase} {set : Int} {t u : Tired} (h : Rp c set t u) : ∀ {n : Nat}, deadN c set (n + 1) t → deadN c set n u := by
 induction h with
 | one h => exact fun hd => hd _ h
 | cons h _ ih =>
  intro n hd
  have h1 := hd _ h
  cases n with
  | zero => exact h1.elim
  | succ n => exact deadN_up (ih h1)
def alive (c : WCase) (set : Int) (t : Tired) : Prop := ∀ n, ¬ deadN c set n t
theorem alive_cycle {c : WCase} {set : Int} {t : Tired} (h : Rp c set t t) : alive c set t := by
 intro n
 induction n with
 | zero => exact fun h => h
 | succ n ih => exact fun hd => ih (deadN_rp h hd)
theorem alive_succ {c : WCase} {set : Int} {t u : Tired} (h : u ∈ succF c set t) (ha : alive c set u) : alive c set t := by
 intro n hd
 cases n with
 | zero => exact hd
 | succ n => exact ha n (hd u h)
def cntD (c : WCase) (kn : Kn) : Nat := ((univ c).filter fun u => getK kn u != some 3).length
theorem cntD_le (c : WCase) (kn : Kn) : cntD c kn ≤ (univ c).length := List.length_filter_le ..
def Keeps3 (a b : Kn) : Prop := ∀ u, getK a u = some 3 → getK b u = some 3
theorem Keeps3.cnt {c : WCase} {a b : Kn} (h : Keeps3 a b) : cntD c b ≤ cntD c a := by
 refine filter_le (fun u hu => ?_) _
 simp only [bne_iff_ne, ne_eq] at hu ⊢
 exact fun h3 => hu (h u h3)
theorem cntD_put {c : WCase} {kn : Kn} {t : Tired} (ht : InU c t) (h : getK kn t ≠ some 3) : cntD c (putK kn t 3) < cntD c kn := by
 refine filter_lt (fun u hu => ?_) ht.mem ?_ ?_
 ·simp only [bne_iff_ne, ne_eq, get_put_kn] at hu ⊢
  intro h3
  apply hu
  split
  ·rfl
  ·exact h3
 ·simp [h]
 ·simp [get_put_kn]
structure KnTrue (c : WCase) (set : Int) (kn : Kn) : Prop where
 two : ∀ u, getK kn u = some 2 → alive c set u
 three : ∀ u, getK kn u = some 3 → deadN c set ((univ c).length - cntD c kn) u
structure EndPost (c : WCase) (set : Int) (kn : Kn) (t : Tired) (r : Bool × Kn) : Prop where
 yes : r.1 = true → alive c set t
 no : r.1 = false → deadN c set ((univ c).length - cntD c r.2) t
 tru : KnTrue c set r.2
 opn : ∀ u, getK r.2 u = some 1 → getK kn u = some 1
 thr : Keeps3 kn r.2
theorem try_ok {c : WCase} {set : Int} {t : Tired} {f : Kn → Tired → Bool × Kn} {n : Nat} (hf : ∀ kn u, InU c u → cntK c kn ≤ n → KnTrue c set kn → (∀ w, getK kn w = some 1 → Rp c set w u) → EndPost c set kn u (f kn u)) (hle : ∀ kn u, KnLe kn (f kn u).2) :
  ∀ (l : List Tired) (kn : Kn), (∀ u ∈ l, InU c u ∧ u ∈ succF c set t) → cntK c kn ≤ n → KnTrue c set kn → (∀ w, getK kn w = some 1 → w = t ∨ Rp c set w t) →
   ((tryF f kn l).1 = true → ∃ u ∈ l, alive c set u) ∧ ((tryF f kn l).1 = false → ∀ u ∈ l, deadN c set ((univ c).length - cntD c (tryF f kn l).2) u) ∧ KnTrue c set (tryF f kn l).2 ∧ (∀ u, getK (tryF f kn l).2 u = some 1 → getK kn u = some 1) ∧ Keeps3 kn (tryF f kn l).2
 | [], kn, _, _, hk, _ => ⟨fun h => by simp [tryF] at h, fun _ u hu => by simp at hu, hk, fun u hu => hu, fun u hu => hu⟩
 | u :: r, kn, hl, hc, hk, ho => by
  obtain ⟨hu, hus⟩ := hl u (by simp)
  have hp := hf kn u hu hc hk fun w hw => by
   rcases ho w hw with rfl | h
   ·exact .one hus
   ·exact h.snoc hus
  rw [tryF]
  cases hb : (f kn u).1 with
  | true =>
   simp only [if_true]
   exact ⟨fun _ => ⟨u, by simp, hp.yes hb⟩, fun h => by simp at h, hp.tru, hp.opn, hp.thr⟩
  | false =>
   simp only [Bool.false_eq_true, if_false]
   obtain ⟨h1, h2, h3, h4, h5⟩ := try_ok hf hle r (f kn u).2 (fun v hv => hl v (by simp [hv])) (Nat.le_trans (hle kn u).cnt hc) hp.tru fun w hw => ho w (hp.opn w hw)
   refine ⟨fun h => ?_, fun h v hv => ?_, h3, fun v hv => hp.opn v (h4 v hv), fun v hv => h5 v (hp.thr v hv)⟩
   ·obtain ⟨v, hv, hva⟩ := h1 h
    exact ⟨v, by simp [hv], hva⟩
   ·rcases List.mem_cons.1 hv with rfl | hv
    ·refine deadN_le (hp.no hb) ?_
     have := h5.cnt (c := c)
     omega
    ·exact h2 h v hv
theorem endF_ok {c : WCase} (hR : WR c) {set : Int} : ∀ (n : Nat) (kn : Kn) (t : Tired), InU c t → cntK c kn ≤ n → KnTrue c set kn → (∀ w, getK kn w = some 1 → Rp c set w t) → EndPost c set kn t (endF c set n kn t) := by
 intro n
 induction n with
 | zero =>
  intro kn t ht hc hk ho
  have hf : freshK kn t = false := by
   cases h : freshK kn t with
   | false => rfl
   | true => exact absurd (cnt_put ht h) (by omega)
  rw [endF]
  refine ⟨fun h => ?_, fun h => ?_, hk, fun u hu => hu, fun u hu => hu⟩
  ·simp at h
   rcases h with h | h
   ·exact hk.two t h
   ·exact alive_cycle (ho t h)
  ·simp only [Bool.or_eq_false_iff, beq_eq_false_iff_ne] at h
   refine hk.three t ?_
   simp only [freshK, Bool.not_eq_false', Bool.or_eq_true, beq_iff_eq] at hf
   rcases hf with (hf | hf) | hf
   ·exact absurd hf h.2
   ·exact absurd hf h.1
   ·exact hf
 | succ n ih =>
  intro kn t ht hc hk ho
  by_cases hf : freshK kn t = true
  ·have h3 : getK kn t ≠ some 3 := fun h => by rw [freshK, h] at hf; simp at hf
   have hk1 : KnTrue c set (putK kn t 1) := by
    refine ⟨fun u hu => ?_, fun u hu => ?_⟩
    ·rw [get_put_kn] at hu
     split at hu
     ·cases hu
     ·exact hk.two u hu
    ·rw [get_put_kn] at hu
     split at hu
     ·cases hu
     ·refine deadN_le (hk.three u hu) ?_
      have : Keeps3 kn (putK kn t 1) := by
       intro v hv
       rw [get_put_kn]
       split
       ·rename_i e; subst e; exact absurd hv h3
       ·exact hv
      have := this.cnt (c := c)
      omega
   obtain ⟨h1, h2, h4, h5, h6⟩ := try_ok (t := t) ih (fun kn u => endF_le n kn u) ((groupsF c set t).map (fun p : List Int × Tired => p.2)) (putK kn t 1) (fun u hu => ⟨by
    obtain ⟨p, hp, rfl⟩ := List.mem_map.1 hu
    exact groups_InU hR ht hp, (show u ∈ succF c set t from hu)⟩) (by have := cnt_put ht hf; omega) hk1 (fun w hw => by
    rw [get_put_kn] at hw
    split at hw
    ·rename_i e; exact .inl e
    ·exact .inr (ho w hw))
   rw [endF_new hf]
   generalize hr : tryF (endF c set n) (putK kn t 1) ((groupsF c set t).map (·.2)) = r at h1 h2 h4 h5 h6
   have ha : r.1 = true → alive c set t := fun h => by
    obtain ⟨u, hu, hua⟩ := h1 h
    exact alive_succ hu hua
   have hk3 : Keeps3 kn r.2 := fun u hu => h6 u (by
    rw [get_put_kn]
    split
    ·rename_i e; subst e; exact absurd hu h3
    ·exact hu)
   cases hb : r.1 with
   | true =>
    simp only [if_true]
    have hal := ha hb
    have hn3 : getK r.2 t ≠ some 3 := fun h => hal _ (h4.three t h)
    have hkp : Keeps3 r.2 (putK r.2 t 2) := by
     intro v hv
     rw [get_put_kn]
     split
     ·rename_i e; subst e; exact absurd hv hn3
     ·exact hv
    refine ⟨fun _ => hal, fun h => by simp at h, ⟨fun u hu => ?_, fun u hu => ?_⟩, fun u hu => ?_, fun u hu => hkp u (hk3 u hu)⟩
    ·rw [get_put_kn] at hu
     split at hu
     ·rename_i e; subst e; exact hal
     ·exact h4.two u hu
    ·rw [get_put_kn] at hu
     split at hu
     ·cases hu
     ·refine deadN_le (h4.three u hu) ?_
      have := hkp.cnt (c := c)
      show _ ≤ (univ c).length - cntD c (putK r.2 t 2)
      omega
    ·rw [get_put_kn] at hu
     split at hu
     ·cases hu
     ·rename_i e
      have := h5 u hu
      rw [get_put_kn, if_neg e] at this
      exact this
   | false =>
    simp only [Bool.false_eq_true, if_false]
    have hd := h2 hb
    have hkp : Keeps3 r.2 (putK r.2 t 3) := by
     intro v hv
     rw [get_put_kn]
     split
     ·rfl
     ·exact hv
    have hD := cntD_le c r.2
    have hdt : deadN c set ((univ c).length - cntD c r.2 + 1) t := fun u hu => hd u hu
    have hdt' : deadN c set ((univ c).length - cntD c (putK r.2 t 3)) t := by
     by_cases hn3 : getK r.2 t = some 3
     ·refine deadN_le (h4.three t hn3) ?_
      have := hkp.cnt (c := c)
      omega
     ·refine deadN_le hdt ?_
      have := cntD_put ht hn3
      omega
    refine ⟨fun h => by simp at h, fun _ => hdt', ⟨fun u hu => ?_, fun u hu => ?_⟩, fun u hu => ?_, fun u hu => hkp u (hk3 u hu)⟩
    ·rw [get_put_kn] at hu
     split at hu
     ·cases hu
     ·exact h4.two u hu
    ·rw [get_put_kn] at hu
     split at hu
     ·rename_i e; subst e; exact hdt'
     ·refine deadN_le (h4.three u hu) ?_
      have := hkp.cnt (c := c)
      show _ ≤ (univ c).length - cntD c (putK r.2 t 3)
      omega
    ·rw [get_put_kn] at hu
     split at hu
     ·cases hu
     ·rename_i e
      have := h5 u hu
      rw [get_put_kn, if_neg e] at this
      exact this
  ·have hf : freshK kn t = false := by simpa using hf
   simp only [freshK, Bool.not_eq_false', Bool.or_eq_true, beq_iff_eq] at hf
   rcases hf with (hf | hf) | hf
   ·rw [endF_12 (.inr hf)]
    exact ⟨fun _ => alive_cycle (ho t hf), fun h => by simp at h, hk, fun u hu => hu, fun u hu => hu⟩
   ·rw [endF_12 (.inl hf)]
    exact ⟨fun _ => hk.two t hf, fun h => by simp at h, hk, fun u hu => hu, fun u hu => hu⟩
   ·rw [endF_3 hf]
    exact ⟨fun h => by simp at h, fun _ => hk.three t hf, hk, fun u hu => hu, fun u hu => hu⟩
structure KnGood (c : WCase) (set : Int) (kn : Kn) : Prop where
 tru : KnTrue c set kn
 opn : ∀ w, getK kn w ≠ some 1
theorem KnGood.nil {c : WCase} {set : Int} : KnGood c set [] := ⟨⟨fun u h => (by cases h), fun u h => (by cases h)⟩, fun w h => by cases h⟩
def fuelW : Nat := 46656
def endB (c : WCase) (set : Int) (t : Tired) : Bool := (endF c set fuelW [] t).1
theorem univ_fuel {c : WCase} (hR : WR c) : (univ c).length ≤ fuelW := by
 rw [univ_len]
 have := hR.slots
 unfold fuelW
 omega
theorem cntK_fuel {c : WCase} (hR : WR c) (kn : Kn) : cntK c kn ≤ fuelW := Nat.le_trans (List.length_filter_le ..) (univ_fuel hR)
theorem end_post {c : WCase} (hR : WR c) {set : Int} {kn : Kn} (hk : KnGood c set kn) {t : Tired} (ht : InU c t) : EndPost c set kn t (endF c set fuelW kn t) :=
 endF_ok hR fuelW kn t ht (cntK_fuel hR kn) hk.tru fun w hw => absurd hw (hk.opn w)
theorem end_good {c : WCase} (hR : WR c) {set : Int} {kn : Kn} (hk : KnGood c set kn) {t : Tired} (ht : InU c t) : KnGood c set (endF c set fuelW kn t).2 :=
 ⟨(end_post hR hk ht).tru, fun w hw => hk.opn w ((end_post hR hk ht).opn w hw)⟩
theorem end_iff {c : WCase} (hR : WR c) {set : Int} {kn : Kn} (hk : KnGood c set kn) {t : Tired} (ht : InU c t) : (endF c set fuelW kn t).1 = true ↔ alive c set t := by
 have hp := end_post hR hk ht
 refine ⟨hp.yes, fun ha => ?_⟩
 cases hb : (endF c set fuelW kn t).1 with
 | true => rfl
 | false => exact absurd (hp.no hb) (ha _)
theorem endB_iff {c : WCase} (hR : WR c) {set : Int} {t : Tired} (ht : InU c t) : endB c set t = true ↔ alive c set t := end_iff hR .nil ht
theorem end_eq {c : WCase} (hR : WR c) {set : Int} {kn : Kn} (hk : KnGood c set kn) {t : Tired} (ht : InU c t) : (endF c set fuelW kn t).1 = endB c set t := by
 rw [Bool.eq_iff_iff, end_iff hR hk ht, endB_iff hR ht]
theorem dead_fuel {c : WCase} (hR : WR c) {set : Int} {t : Tired} (ht : InU c t) (h : endB c set t = false) : deadN c set fuelW t := by
 refine deadN_le ((end_post hR (set := set) .nil ht).no h) ?_
 have := univ_fuel hR
 omega
end Go.PX
namespace Go.PX
open Go.Proofs
theorem wa72 (c : WCase) (set : Int) : FnU Try.prog 72 [.d (crewD c set)] [] fun v h' => v = .ptr 2000002 0 ∧ h' = [(2000000, .map []), (2000001, .map []), (2000002, .box (.vv [.d (crewD c set), .mp 2000000, .mp 2000001]))] := by
 intro σ Y s
 refine fnC_of mixed tysOk Try.func72 rfl (ft := ft72) (args := [.d (crewD c set)]) (show fnB ft72 Try.f72 1 = true from by decide +kernel) ?_
 conv=>whnf
 exact RetA_hand [4, 5, 7] [.ptr 2000002 0] [(2000000, .map []), (2000001, .map []), (2000002, .box (.vv [.d (crewD c set), .mp 2000000, .mp 2000001]))] rfl ⟨rfl, rfl, rfl, trivial⟩ rfl ⟨⟨rfl, rfl⟩, rfl⟩
theorem end_call {c : WCase} (hR : WR c) {set : Int} {kn : Kn} (hk : KnGood c set kn) (fa : Kn) {t : Tired} (ht : InU c t) : ∃ kn', KnGood c set kn' ∧ FnU Try.prog 73 [.ptr 1000000 0, .d t.d] (webH c set kn fa) fun v h' => v = .d (.bool (endB c set t)) ∧ h' = webH c set kn' fa :=
 ⟨_, end_good hR hk ht, by
  rw [← end_eq hR hk ht]
  exact endOk hR fuelW kn fa t ht (cntK_fuel hR kn)⟩
theorem lon_call {c : WCase} (hR : WR c) {set : Int} (kn : Kn) {t : Tired} (ht : InU c t) (hb : endB c set t = false) : ∃ fa', FnU Try.prog 77 [.ptr 1000000 0, .d t.d] (webH c set kn []) fun v h' => v = .d (i64 (lonF c set fuelW [] t).1) ∧ h' = webH c set kn fa' :=
 ⟨_, lonOk hR fuelW (by decide) kn [] t ht (dead_fuel hR ht hb) (fun t v h => by cases h)⟩
def lonW (c : WCase) : Int := if endB c (allMen c) .zero then -1 else (lonF c (allMen c) fuelW [] .zero).1
theorem wa28 (c : WCase) : FnV Try.prog 28 [c.d] (.tup [i64 (if entE c [] = 0 then lonW c else 0), i64 (entE c [])]) := by
 refine fnV_of mixed tysOk Try.func28 rfl (ft := ft28) 1 (by decide +kernel) (by rfl) fun {σ} Y st => ?_
 conv=>whnf
 refine CallA_nil1 ?_
 refine CallA_v (ds := [c.d, rotaD []]) (wa63 c []) rfl rfl ?_
 conv=>whnf
 by_cases h0 : entE c [] = 0
 ·obtain ⟨hR, hl, _⟩ := ent_ok h0
  rw [h0]
  simp only [if_true]
  conv=>whnf
  refine CallA_fn (wa72 c (allMen c)) [] rfl rfl rfl ?_
  conv=>whnf
  obtain ⟨kn1, hk1, hE⟩ := end_call hR (set := allMen c) .nil [] (InU.zero hR)
  refine CallA_fn hE [101026, 101024, 101025] rfl ?lent rfl ?_
  case lent => exact ⟨_, _, rfl, box_same rfl ⟨rfl, rfl, rfl, trivial⟩, _, _, rfl, rfl, _, _, rfl, rfl, rfl⟩
  unfold lonW
  cases hb : endB c (allMen c) .zero with
  | true =>
   conv=>whnf
   exact RetA_view 0 rfl ⟨⟨rfl, rfl⟩, rfl⟩
  | false =>
   conv=>whnf
   obtain ⟨fa1, hL⟩ := lon_call hR kn1 (InU.zero hR) hb
   generalize (lonF c (allMen c) fuelW [] .zero).1 = lv at hL ⊢
   refine CallA_fn hL [101026, 101024, 101025] rfl ?lent rfl ?_
   case lent => exact ⟨_, _, rfl, box_same rfl ⟨rfl, rfl, rfl, trivial⟩, _, _, rfl, rfl, _, _, rfl, rfl, rfl⟩
   conv=>whnf
   exact RetA_view 0 rfl ⟨⟨rfl, rfl⟩, rfl⟩
 ·rw [if_neg h0, if_neg h0]
  conv=>whnf
  refine brk_i (fun _ => ?_) (fun h1 => absurd h1 (by simp [h0]))
  conv=>whnf
  exact RetA_view 0 rfl ⟨⟨rfl, rfl⟩, rfl⟩
end Go.PX
namespace Go.PX
open Go.Proofs
def nextG (c : WCase) (t : Tired) : List (List Int × Tired) := (groupsF c (allMen c) t).filter fun p => endB c (allMen c) p.2
def nextL (c : WCase) (rota : List (List Int)) : List (List Int) := (nextG c (goodT c rota)).map (·.1)
theorem walk_InU {c : WCase} (hR : WR c) {set : Int} : ∀ {rota : List (List Int)} {t : Tired} {i : Int}, 0 ≤ i → InU c t → (walkF c set t rota i).1.1 = -1 → InU c (walkF c set t rota i).2
 | [], t, i, _, ht, _ => ht
 | r :: rest, t, i, hi, ht, h => by
  rw [walkF] at h ⊢
  split
  ·rename_i h1
   rw [if_pos h1] at h
   exact walk_InU hR (by omega) (behind_InU hR ht h1) h
  ·rename_i h1
   rw [if_neg h1] at h
   simp only at h
   omega
theorem walk_at {c : WCase} {set : Int} : ∀ {rota : List (List Int)} {t : Tired} {i : Int}, (walkF c set t rota i).1.1 = -1 ∨ i ≤ (walkF c set t rota i).1.1
 | [], t, i => .inl rfl
 | r :: rest, t, i => by
  rw [walkF]
  split
  ·rcases walk_at (c := c) (set := set) (rota := rest) (t := behindF c t r) (i := i + 1) with h | h
   ·exact .inl h
   ·exact .inr (by omega)
  ·exact .inr (by simp)
theorem goodT_InU {c : WCase} {rota : List (List Int)} (h0 : goodE c rota = 0) : InU c (goodT c rota) := by
 have hR := (goodT_ok h0).1
 refine walk_InU hR (Int.le_refl 0) (InU.zero hR) ?_
 have hE : entE c rota = 0 := by
  unfold goodE at h0
  split at h0
  ·assumption
  ·exact h0
 rw [goodE, if_pos hE] at h0
 split at h0
 ·cases h0
 ·rename_i h1
  rcases walk_at (c := c) (set := allMen c) (rota := rota) (t := .zero) (i := 0) with h | h
  ·exact h
  ·exact absurd h (by omega)
def nextI (c : WCase) (t : Tired) (acc : List (List Int)) (kn : Kn) : Heap :=
 match acc with
 | [] => [(1500000, .box (.dd c.cells)), (1500001, .box (.dd [.nils])), (1500002, .box (.dd t.cells)), (1500003, .box (.vv [.ptr 1500006 0])), (1500004, .map (knD kn)), (1500005, .map []), (1500006, .box (.vv [.d (crewD c (allMen c)), .mp 1500004, .mp 1500005]))]
 | g :: r => [(1500000, .box (.dd c.cells)), (1500001, .box (.vv [.sl 35 1 0 (g :: r).length])), (1500002, .box (.dd t.cells)), (1500003, .box (.vv [.ptr 1500006 0])), (1500004, .map (knD kn)), (1500005, .map []), (1500006, .box (.vv [.d (crewD c (allMen c)), .mp 1500004, .mp 1500005])), (35, .arr 1 (.dd ((g :: r).map fun r => [intsD r])))]
theorem wa25 (c : WCase) (rota : List (List Int)) : FnV Try.prog 25 [c.d, rotaD rota] (.tup [if goodE c rota = 0 then rotaN (nextL c rota) else .nils, i64 (goodE c rota)]) := by
 refine fnV_of mixed tysOk Try.func25 rfl (ft := (ft25.more 9 [102112])) 2 (by decide +kernel) (by rfl) fun {σ} Y st => ?_
 conv=>whnf
 refine CallA_v (wa66 c rota) rfl rfl ?_
 conv=>whnf
 by_cases h0 : goodE c rota = 0
 ·obtain ⟨hR, hl, hto, hts⟩ := goodT_ok h0
  have hU := goodT_InU h0
  rw [h0]
  simp only [if_true]
  unfold nextL
  generalize goodT c rota = t at hto hts hU ⊢
  conv=>whnf
  refine CallA_fn (wa72 c (allMen c)) [] rfl rfl rfl ?_
  conv=>whnf
  refine CallA_v (wa68 c (allMen c) t) rfl rfl ?_
  conv=>whnf
  refine RangeA_list tysOk (by exact drawsB_spec mixed tysOk (by decide +kernel)) (by exact drawsB_spec mixed tysOk (by decide +kernel)) rfl 1500000 1600000 [2, 4, 7, 8, 101408, 101409, 101410] (by exact yields93 c hR (allMen c) t hto hts)
   (fun (x : List (List Int) × Kn) => (nextI c t x.1 x.2, st))
   (fun rest x => (nextG c t).map (·.1) = x.1 ++ (rest.filter fun p => endB c (allMen c) p.2).map (fun (p : List Int × Tired) => p.1) ∧ KnGood c (allMen c) x.2 ∧ ∀ p ∈ rest, p.1.length ≤ 2 ∧ InU c p.2) ([], []) rfl rfl rfl ⟨rfl, .nil, fun p hp => ⟨groups_len hR hp, groups_InU hR hU hp⟩⟩ ?_ ?_
  ·rintro ⟨g, u⟩ rest ⟨acc, kn⟩ ⟨he, hk, hgs⟩ Q hQ1 -
   obtain ⟨hg2, hu⟩ := hgs (g, u) (by simp)
   have hgl : g.length ≤ 1000 := by simp only at hg2; omega
   refine ⟨⟨rfl, item_okL _⟩, ?_⟩
   obtain ⟨kn', hk', hE⟩ := end_call hR hk [] hu
   have hrest : ∀ p ∈ rest, p.1.length ≤ 2 ∧ InU c p.2 := fun p hp => hgs p (by simp [hp])
   cases acc with
   | nil =>
    conv=>whnf
    refine CallA_fn hE [1500006, 1500004, 1500005] rfl ?lent rfl ?_
    case lent => exact ⟨_, _, rfl, box_same rfl ⟨rfl, rfl, rfl, trivial⟩, _, _, rfl, rfl, _, _, rfl, rfl, rfl⟩
    cases hb : endB c (allMen c) u with
    | false =>
     conv=>whnf
     exact ⟨([], kn'), (Wk.sub trivial (by repeat' first|exact trivial|refine⟨?_,?_⟩|rfl|(simp only[List.length_map];rfl)|simp[PX.get])), rfl, hQ1 _ ⟨by simpa [hb] using he, hk', hrest⟩⟩
    | true =>
     conv=>whnf
     refine DrawCall_fn (wa69o g hgl) [1600000] rfl ⟨_, _, rfl, rfl, rfl⟩ rfl ?_
     conv=>whnf
     refine ownK_whole rfl ?_
     conv=>whnf
     exact ⟨([g], kn'), (Wk.frzArr 1 [102112] 35 (vs := [[.sl 102112 1 0 g.length]]) (ds := [[intsD g]]) rfl (viewLL_one (viewL_cons (viewV_sl rfl (by simp [intsC])) rfl))).trans (Wk.sub trivial (by repeat' first|exact trivial|refine⟨?_,?_⟩|rfl|(simp only[List.length_map];rfl)|simp[PX.get])), rfl, hQ1 _ ⟨by simpa [hb] using he, hk', hrest⟩⟩
   | cons a r =>
    conv=>whnf
    refine CallA_fn hE [1500006, 1500004, 1500005] rfl ?lent rfl ?_
    case lent => exact ⟨_, _, rfl, box_same rfl ⟨rfl, rfl, rfl, trivial⟩, _, _, rfl, rfl, _, _, rfl, rfl, rfl⟩
    cases hb : endB c (allMen c) u with
    | false =>
     conv=>whnf
     exact ⟨(a :: r, kn'), (Wk.sub trivial (by repeat' first|exact trivial|refine⟨?_,?_⟩|rfl|(simp only[List.length_map];rfl)|simp[PX.get])), rfl, hQ1 _ ⟨by simpa [hb] using he, hk', hrest⟩⟩
    | true =>
     conv=>whnf
     refine DrawCall_fn (wa69o g hgl) [1600000] rfl ⟨_, _, rfl, rfl, rfl⟩ rfl ?_
     conv=>whnf
     refine ownK_whole rfl ?_
     conv=>whnf
     refine ownK_whole (by simp [Els.len]) ?_
     conv=>whnf
     have hacc : (a :: r).length ≤ 25 := by
      have h1 : ((nextG c t).map (·.1)).length ≤ 25 := by
       rw [List.length_map]; exact Nat.le_trans (List.length_filter_le ..) (groups_many hR)
      rw [he] at h1
      simp at h1 ⊢; omega
     have hfree : (true && !nameBL 35 ((injL ((a :: r).map fun r => [intsD r]) ++ [[V.sl 102112 1 0 g.length]]).flatten)) = true := by
      rw [nameBL_injL]; rfl
     refine chk_i hfree ?_
     conv=>whnf
     refine chk_i (decide_eq_true (by
      show (((a :: r).map fun r => [intsD r]).length + 1) * 24 ≤ 140737488355328
      rw [List.length_map]; omega)) ?_
     conv=>whnf
     refine forceN_to [102112, 35] (by
      show namesOfL ((injL ((a :: r).map fun r => [intsD r]) ++ [[V.sl 102112 1 0 g.length]]).flatten) ++ ([35] ++ []) = _
      rw [namesOfL_injL]; rfl) ?_
     conv=>whnf
     refine ⟨(a :: r ++ [g], kn'), (Wk.frzArr 1 [102112] 35 (sz := 1) (vs := injL ((a :: r).map fun r => [intsD r]) ++ [[.sl 102112 1 0 g.length]]) (ds := ((a :: r).map fun r => [intsD r]) ++ [[intsD g]]) ?_ (viewLL_app (viewLL_one (viewL_cons (viewV_sl rfl (by simp [intsC])) rfl)) _)).trans ?_, rfl, hQ1 _ ⟨by simpa [hb] using he, hk', hrest⟩⟩
     ·rfl
     ·refine Wk.sub trivial ⟨rfl, ?_, rfl, rfl, rfl, rfl, rfl, ?_, rfl, trivial⟩
      ·show some (Obj.box (Cells.vv [V.sl 35 1 0 (((a :: r).map fun r => [intsD r]).length + 1)])) = some (Obj.box (Cells.vv [V.sl 35 1 0 (a :: (r ++ [g])).length]))
       simp
      ·show some (Obj.arr 1 (Els.dd (((a :: r).map fun r => [intsD r]) ++ [[intsD g]]))) = some (Obj.arr 1 (Els.dd ((a :: (r ++ [g])).map fun r => [intsD r])))
       simp
  ·rintro ⟨acc, kn⟩ ⟨he, _, _⟩
   have he : (nextG c t).map (·.1) = acc := by simpa using he
   rw [he]
   cases acc with
   | nil =>
    conv=>whnf
    refine RetA_view 0 rfl ⟨⟨?_, rfl⟩, rfl⟩
    simp [packD, rotaN]
   | cons a r =>
    conv=>whnf
    refine RetA_view 1 (ds := [rotaD (a :: r), i64 0]) ?_ ⟨⟨?_, rfl⟩, rfl⟩
    ·exact viewL_cons (viewV_sl (es := (a :: r).map fun r => [intsD r]) rfl (by simp)) rfl
    ·simp [packD, rotaN]
 ·rw [if_neg h0, if_neg h0]
  conv=>whnf
  refine brk_i (fun _ => ?_) (fun h1 => absurd h1 (by simp [h0]))
  conv=>whnf
  rw [if_neg h0]
  exact RetA_view 0 rfl ⟨⟨rfl, rfl⟩, rfl⟩
end Go.PX
