import Derived.Test.YtiflhdanniajdaaPxK
import Derived.Test.YtiflhdanniajdaaPxJ
set_option linter.all false
set_option maxRecDepth 10000
namespace Go.PX

/- Nil and empty slices; yields that lend; regions that draw with own slices. -/

mutual
/-- Data with empty lists for nil slices. -/
def relax : D → D
  | .agg cs => .agg (relaxL cs)
  | .tup cs => .tup (relaxL cs)
  | .vs es => .vs (relaxE es)
  | .nils => .vs []
  | .ref cs => .ref (relaxL cs)
  | .bool b => .bool b
  | .int k n => .int k n
  | .str s => .str s
  | .nilp => .nilp
  | .mv kvs => .mv kvs
  | .nilm => .nilm
  | .clo f caps => .clo f caps
  | .mth f first => .mth f first
  | .nilf => .nilf
  | .ifc t v => .ifc t v
  | .nili => .nili
def relaxL : List D → List D
  | [] => []
  | c :: r => relax c :: relaxL r
def relaxE : List (List D) → List (List D)
  | [] => []
  | c :: r => relaxL c :: relaxE r
end

theorem relaxL_length : ∀ l : List D, (relaxL l).length = l.length
  | [] => rfl
  | c :: r => by simp only [relaxL, List.length_cons, relaxL_length r]
theorem relaxE_length : ∀ l : List (List D), (relaxE l).length = l.length
  | [] => rfl
  | c :: r => by simp only [relaxE, List.length_cons, relaxE_length r]

mutual
theorem RepD.relax {F : Nat → Nat} {w : World} : ∀ (a : D) (v : Value), RepD F w a v → RepD F w (relax a) v
  | .agg cs, _, hr => by
    obtain ⟨l, rfl, hl⟩ := hr
    exact ⟨l, rfl, RepDL.relax cs _ hl⟩
  | .tup cs, _, hr => by
    obtain ⟨l, rfl, hl⟩ := hr
    exact ⟨l, rfl, RepDL.relax cs _ hl⟩
  | .vs es, _, hr => by
    obtain ⟨a, len, cap, rfl, hl, hc, he⟩ := hr
    refine ⟨a, len, cap, rfl, by rw [relaxE_length]; exact hl, hc, fun hne => ?_⟩
    obtain ⟨b, off, sz, ha, hs, hes⟩ := he (by rintro rfl; exact hne rfl)
    exact ⟨b, off, sz, ha, hs, RepEs.relax es b off sz hes⟩
  | .nils, _, hr => by
    have hx : _ = Value.slice none 0 0 := hr
    subst hx
    exact ⟨none, 0, 0, rfl, rfl, Nat.le_refl _, fun h => absurd rfl h⟩
  | .ref cs, _, hr => by
    obtain ⟨b, off, rfl, hc⟩ := hr
    exact ⟨b, off, rfl, RepAt.relax cs b off hc⟩
  | .bool _, _, hr => hr
  | .int _ _, _, hr => hr
  | .str _, _, hr => hr
  | .nilp, _, hr => hr
  | .mv _, _, hr => hr
  | .nilm, _, hr => hr
  | .clo _ _, _, hr => hr
  | .mth _ _, _, hr => hr
  | .nilf, _, hr => hr
  | .ifc _ _, _, hr => hr
  | .nili, _, hr => hr
theorem RepDL.relax {F : Nat → Nat} {w : World} : ∀ (cs : List D) (l : List Value), RepDL F w cs l → RepDL F w (relaxL cs) l
  | [], _, hr => hr
  | c :: r, _, hr => by
    obtain ⟨x, l', rfl, hc, hl⟩ := hr
    exact ⟨x, l', rfl, RepD.relax c x hc, RepDL.relax r l' hl⟩
theorem RepAt.relax {F : Nat → Nat} {w : World} : ∀ (cs : List D) (b off : Nat), RepAt F w b off cs → RepAt F w b off (relaxL cs)
  | [], _, _, _ => trivial
  | c :: r, b, off, hr => by
    obtain ⟨hf, ⟨x, hx, hc⟩, hl⟩ := hr
    exact ⟨hf, ⟨x, hx, RepD.relax c x hc⟩, RepAt.relax r b (off + 1) hl⟩
theorem RepEs.relax {F : Nat → Nat} {w : World} : ∀ (es : List (List D)) (b off sz : Nat), RepEs F w b off sz es → RepEs F w b off sz (relaxE es)
  | [], _, _, _, _ => trivial
  | e :: r, b, off, sz, hr => by
    obtain ⟨hn, he, hl⟩ := hr
    exact ⟨by rw [relaxL_length]; exact hn, RepAt.relax e b off he, RepEs.relax r b (off + sz) sz hl⟩
end

theorem FnV.relax {P : Program} {f : FuncId} {ds : List D} {r : D} (h : FnV P f ds r) {r' : D} (hr : PX.relax r = r') : FnV P f ds r' := by
  subst hr
  intro σ Y s
  obtain ⟨h1, h2⟩ := h Y s
  refine ⟨h1, fun cx hY L F vals w hh hv => (h2 cx hY L F vals w hh hv).mono ?_⟩
  rintro e w' ⟨x, rfl, v, h', s', L', F', ⟨⟨rfl, rfl⟩, rfl⟩, hh', hx, tr, hp⟩
  exact ⟨x, rfl, _, _, _, L', F', ⟨⟨rfl, rfl⟩, rfl⟩, hh', RepD.relax r x hx, tr, hp⟩

section
variable {P : Program} {σ : Type} {Y : Hd σ}

/-- A call of yield, by what it leaves. -/
theorem YldA_y {args0 : List V} {h0 : Heap} {s : σ} {Q : V → Heap → σ → Prop} (tb : List Nat) {e : Env} {h : Heap} {d : Option Nat} {args : List V} {K : St σ → Prop} (hy : Y.y args0 h0 s Q)
    (hargs : renL (callR tb (d.getD 0)) args0 = args) (hlent : lentOk (callR tb (d.getD 0)) h 1000000 tb h0) (htb : nodupB tb = true) (hln : Nat.ble tb.length 1000 = true)
    (hq : ∀ v h1 s', Q v h1 s' → callB tb d v h1 = true ∧ applyK (callWs tb d v h1) e h fun e h => K ⟨e, h, s'⟩) : YldA P Y ⟨e, h, s⟩ d args K := by
  refine yldY_of tb hy hargs hlent htb hln fun v h1 s' hv => ?_
  obtain ⟨h2, h3⟩ := hq v h1 s' hv
  refine ⟨h2, ?_⟩
  rw [applyK_eq s'] at h3
  have hs : (applyWs (⟨e, h, s'⟩ : St σ) (callWs tb d v h1)).s = s' := applyWs_s _ _
  generalize applyWs (⟨e, h, s'⟩ : St σ) (callWs tb d v h1) = st at h3 hs
  obtain ⟨e1, h1, s1⟩ := st
  simp only at hs; subst hs; exact h3
end

theorem CallA_rep {P : Program} {σ : Type} {Y : Hd σ} {st : St σ} {d : Option Nat} {f : FuncId} {args args' : List V} {K : St σ → Prop} (h : ∀ (yv : Option Nat) (L : Loc) (F : Nat → Nat) (w : World) (l : List Value), RepVL yv L F w args l → RepVL yv L F w args' l) (hc : CallA P Y st d f args' K) : CallA P Y st d f args K := by
  obtain ⟨h1, h2⟩ := hc
  exact ⟨h1, fun cx hY r m L F a w vals hg hd hr => h2 cx hY r m L F a w vals hg hd (h _ _ _ _ _ hr)⟩

/-- A nil slice that is handed over second is an empty list. -/
theorem CallA_nil1 {P : Program} {σ : Type} {Y : Hd σ} {st : St σ} {d : Option Nat} {f : FuncId} {a : V} {r : List V} {K : St σ → Prop} (hc : CallA P Y st d f (a :: .d (.vs []) :: r) K) : CallA P Y st d f (a :: .d .nils :: r) K := by
  refine CallA_rep (fun yv L F w l h => ?_) hc
  obtain ⟨x, l', rfl, h1, y, l'', rfl, h2, h3⟩ := h
  exact ⟨x, _, rfl, h1, y, _, rfl, RepD.relax .nils y h2, h3⟩

/-- A region is left to its own rule. -/
def FT.less (ft : FT) (id : Nat) : FT := ⟨ft.ks, cut ft.tb id⟩

/-- A map is asked for a key. -/
theorem findK_none {kvs : List (D × D)} {k : D} {K : Option (Nat × D) → Prop} (h : findD k kvs 0 = some none) (hk : K none) : findK kvs k K := ⟨none, h, hk⟩

theorem yfreeL_inj : ∀ l : List D, yfreeL (inj l) = true
  | [] => rfl
  | x :: r => by simp only [inj, yfreeL, yfree, yfreeL_inj r]; rfl

theorem forceN_to {l : List Nat} {K : List Nat → Prop} (l' : List Nat) (h : l = l') (k : forceN l' K) : forceN l K := by subst h; exact k

theorem namesOfL_inj : ∀ l : List D, namesOfL (inj l) = []
  | [] => rfl
  | x :: r => by simp only [inj, namesOfL, namesOf, namesOfL_inj r]; rfl

theorem namesOfL_app : ∀ a b : List V, namesOfL (a ++ b) = namesOfL a ++ namesOfL b
  | [], b => rfl
  | x :: r, b => by simp only [List.cons_append, namesOfL, namesOfL_app r b, List.append_assoc]

theorem namesOfL_injL (l : List (List D)) (vs : List (List V)) : namesOfL (injL l ++ vs).flatten = namesOfL vs.flatten := by
  rw [List.flatten_append, namesOfL_app, injL_flatten, namesOfL_inj]; rfl

/-- More objects are made in a region that draws. -/
def FT.more (ft : FT) (id : Nat) (l : List Nat) : FT := ⟨ft.ks, ft.tb.map fun p => match Nat.beq p.1 id with
  | true => (p.1, ⟨p.2.made ++ l, p.2.ots⟩)
  | false => p⟩

theorem get_enterE : ∀ (l : List V) (i k : Nat) (v : V), l[k]? = some v → get (enterE i l) (i + k) = some v
  | [], _, k, v, h => by simp at h
  | a :: r, i, 0, v, h => by
    simp at h
    subst h
    simp [enterE, get]
  | a :: r, i, k + 1, v, h => by
    have hne : Nat.beq i (i + (k + 1)) = false := by
      rw [Bool.eq_false_iff]; intro e
      have := Nat.eq_of_beq_eq_true e; omega
    simp only [enterE, get, hne]
    rw [show i + (k + 1) = i + 1 + k by omega]
    exact get_enterE r (i + 1) k v (by simpa using h)

theorem RepVL.of {yv : Option Nat} {L : Loc} {F : Nat → Nat} {w : World} : ∀ {l : List V} {vals : List Value}, l.length = vals.length → (∀ (k : Nat) (v : V), l[k]? = some v → ∃ x, vals[k]? = some x ∧ RepV yv L F w v x) → RepVL yv L F w l vals
  | [], [], _, _ => rfl
  | [], _ :: _, h, _ => by simp at h
  | _ :: _, [], h, _ => by simp at h
  | v :: l, x :: vals, h, hk => by
    obtain ⟨y, hy, hr⟩ := hk 0 v rfl
    simp at hy
    subst hy
    exact ⟨x, vals, rfl, hr, RepVL.of (by simpa using h) fun k u hu => by simpa using hk (k + 1) u (by simpa using hu)⟩

/-- What is handed back, in other words. -/
theorem RetA_wk {σ : Type} {l l' : List V} {h h' : Heap} {s : σ} {Q : V → Heap → σ → Prop} (hw : Wk (⟨enterE 0 l, h, s⟩ : St σ) ⟨enterE 0 l', h', s⟩) (hlen : l'.length = l.length) (hl : Nat.ble l.length 1000 = true) (hr : RetA l' h' s Q) : RetA l h s Q := by
  obtain ⟨hr⟩ := hr
  refine ⟨fun cx L F vals w hh hv => ?_⟩
  have hvl : vals.length = l.length := by simpa using hv.length
  have hl := Nat.le_of_ble_eq_true hl
  have hg : Good { cx with pρ := L.ρ, pκ := L.κ } none [] L F ⟨enterE 0 l, h, s⟩ { tmps := vals.toArray, defers := [] } w := by
    refine ⟨⟨hh.hg, hh.csz, hh.fresh, hh.obj, hh.own, hh.inj⟩, fun t v ht => ?_, rfl, (fun b hb => by cases hb), List.nodup_nil, (fun l hl => by cases hl), fun _ _ => ⟨rfl, rfl⟩, by simp; omega⟩
    obtain ⟨k, hk, hv'⟩ := get_enter ht
    rw [Nat.zero_add] at hk; subst hk
    obtain ⟨x, hx, hrx⟩ := hv.get t hv'
    exact ⟨x, by simpa using hx, hrx⟩
  obtain ⟨L1, F1, hg1, tr⟩ := hw _ _ _ _ _ _ _ hg
  have hv1 : RepVL cx.yv L1 F1 w l' vals := by
    refine RepVL.of (by omega) fun k v hk => ?_
    obtain ⟨x, hx, hrx⟩ := hg1.env k v (by simpa using get_enterE l' 0 k v hk)
    exact ⟨x, by simpa using hx, hrx⟩
  have hh1 : HeapOk cx L1 F1 h' s w := ⟨hg1.heap.hg, hg1.heap.csz, hg1.heap.fresh, hg1.heap.obj, hg1.heap.own, hg1.heap.inj⟩
  obtain ⟨v, h2, L2, F2, q1, q2, q3, q4, q5⟩ := hr cx L1 F1 vals w hh1 hv1
  refine ⟨v, h2, L2, F2, q1, q2, q3, Tr.trans tr q4, fun i hi => ?_⟩
  obtain ⟨p1, p2⟩ := q5 i hi
  obtain ⟨p3, p4⟩ := hg1.pin i hi
  exact ⟨p1.trans p3, p2.trans p4⟩

theorem keysOf_keepT (ids : List Nat) : ∀ (h : Heap) (i : Nat), i ∈ keysOf (keepT ids h) → i ∈ ids
  | [], i, hi => by simp [keepT, keysOf] at hi
  | (k, o) :: r, i, hi => by
    simp only [keepT] at hi
    split at hi
    · rename_i hk
      simp only [keysOf, List.mem_cons] at hi
      rcases hi with rfl | hi
      · exact inL_iff.1 hk
      · exact keysOf_keepT ids r i hi
    · exact keysOf_keepT ids r i hi

/-- Objects of a part are frozen for good; what names them is data. -/
theorem Good.frzPart2 {σ : Type} {cx : Cx σ} {r : Option Nat} {m : List Nat} {L : Loc} {F : Nat → Nat} {st : St σ} {a : Act} {w : World} (hg : Good cx r m L F st a w) {h : Heap} (hsub : SubT h st.heap) (n : Nat) :
    ∃ F1, Good cx r m L F1 (applyWs st (delL (keysOf h))) a w ∧ Tr F w F1 w ∧ ∀ args vals, RepVL cx.yv L F w args vals → RepVL cx.yv L F1 w (replL (objD h n) args) vals := by
  have hok : HeapOk cx L F h st.s w := (hg.sub (e := st.env) (h := h) (fun _ _ h => h) hsub).heap
  have tr := frzAll_tr hok
  have hF1C : ∀ b, cx.C st.s b → frzAll L F h w b = F b := fun b hb => frzAll_C hok hb
  have hF1o : ∀ id o, get st.heap id = some o → id ∉ keysOf h → Backed L id o → frzAll L F h w (L.ρ id) = F (L.ρ id) := by
    intro id o hi hn hb
    refine frzAll_other ?_
    rintro ⟨j, p, hj, hbj, hij⟩
    have := hg.heap.inj j id p o (hsub j p hj) hi hbj hb hij
    subst this
    exact hn (keysOf_mem hj)
  have hfr := frzAll_fresh hok
  have hobj := objD_t hok n
  generalize frzAll L F h w = F1 at tr hF1C hF1o hfr hobj
  rw [applyWs_delL]
  have hget : ∀ i o, get (cutL st.heap (keysOf h)) i = some o → i ∉ keysOf h ∧ get st.heap i = some o := by
    intro i o hi
    rw [get_cutL] at hi
    split at hi
    · cases hi
    · rename_i hn; exact ⟨hn, hi⟩
  refine ⟨F1, ⟨⟨cx.stable hg.heap.hg tr hfr fun b hb => ⟨rfl, hF1C b hb⟩, hg.heap.csz, hfr, ?_, ?_, ?_⟩, ?_, hg.dfr, hg.mks, hg.mnd, hg.lk, hg.pin, hg.tsz⟩, tr, fun args vals hr => RepVL.repl tr hobj args vals hr⟩
  · intro i o hi
    exact RepO.mono tr i o (fun _ _ => ⟨rfl, rfl⟩) ⟨rfl, rfl⟩ (fun _ => rfl) (hg.heap.obj i o (hget i o hi).2)
  · intro i o hi hb
    obtain ⟨hn, h0⟩ := hget i o hi
    rw [hF1o i o h0 hn hb]
    exact hg.heap.own i o h0 hb
  · intro i j o p hi hj hbi hbj he
    exact hg.heap.inj i j o p (hget i o hi).2 (hget j p hj).2 hbi hbj he
  · intro t v ht
    obtain ⟨x, hx, hr⟩ := hg.env t v ht
    exact ⟨x, hx, RepV.mono tr v x (fun _ _ => ⟨rfl, rfl⟩) hr⟩

theorem outCall_part {P : Program} {f : FuncId} {ws : List Wr} (n : Nat) (ids : List Nat) {e : Env} {h : Heap} {d : Option Nat} {args : List V} (ho : OutCall P e (cutL h ids) d f (replL (objD (keepT ids h) n) args) ws) :
    OutCall P e h d f args (delL (keysOf (keepT ids h)) ++ ws) := by
  refine ⟨ho.1, fun {σ} cx r m L F st a w vals he hh hg hdt hr => ?_⟩
  have hsub : SubT (keepT ids h) st.heap := fun i o hi => hh i o (sub_keepT ids h i o hi)
  obtain ⟨F1, hg1, tr1, hvw⟩ := hg.frzPart2 hsub n
  rw [applyWs_append]
  refine (ho.2 cx r m L F1 (applyWs st (delL (keysOf (keepT ids h)))) a w vals (by rw [applyWs_delL]; exact he) (fun i o hi => ?_) hg1 hdt (hvw _ _ hr)).mono ?_
  · rw [applyWs_delL]
    rw [get_cutL] at hi
    split at hi
    · cases hi
    · rename_i hn
      show get (cutL st.heap (keysOf (keepT ids h))) i = some o
      rw [get_cutL, if_neg fun hm => hn (keysOf_keepT ids h i hm)]
      exact hh i o hi
  · rintro en w' ⟨x, rfl, L', F', hg', tr'⟩
    exact ⟨x, rfl, L', F', hg', Tr.trans tr1 tr'⟩

/-- A call in a region that draws; some objects that are handed over are data from then on. -/
theorem DrawCall_part {P : Program} {f : FuncId} (n : Nat) (ids : List Nat) {e : Env} {h : Heap} {d : Option Nat} {args : List V} {K : List Wr → Prop}
    (hk : DrawCall P e (cutL h ids) d f (replL (objD (keepT ids h) n) args) fun ws => K (delL (keysOf (keepT ids h)) ++ ws)) : DrawCall P e h d f args K := by
  obtain ⟨ws, h1, h2⟩ := hk
  exact ⟨_, h1, outCall_part n ids h2⟩

theorem DrawCall_rep {P : Program} {f : FuncId} {e : Env} {h : Heap} {d : Option Nat} {args args' : List V} {K : List Wr → Prop} (hr : ∀ (yv : Option Nat) (L : Loc) (F : Nat → Nat) (w : World) (l : List Value), RepVL yv L F w args l → RepVL yv L F w args' l)
    (hk : DrawCall P e h d f args' K) : DrawCall P e h d f args K := by
  obtain ⟨ws, h1, h2⟩ := hk
  exact ⟨ws, h1, h2.1, fun {σ} cx r m L F st a w vals he hh hg hdt hv => h2.2 cx r m L F st a w vals he hh hg hdt (hr _ _ _ _ _ hv)⟩

theorem RepV_sl {yv : Option Nat} {L : Loc} {F : Nat → Nat} {w : World} {g : Nat → Option DO} {id sz n : Nat} {d : D} {x : Value} (h : RepV yv L F w (repl g (.sl id sz 0 n)) x) (hv : viewV g (.sl id sz 0 n) = some d) : RepD F w d x := by
  rw [repl_sl hv] at h
  exact h

end Go.PX

namespace Go.PX
open Go.Proofs

/- Lamp: the plain data, and the looks at it (the program). -/

structure LLamp where
  drum : Int
  lit : List Span
  start : Span
  speed : Span
  slow : Int
  night : Int
  deriving DecidableEq

structure LSight where
  second : Int
  lit : Bool
  deriving DecidableEq

structure LCase where
  lamp : LLamp
  windings : List Int
  sights : List LSight
  deriving DecidableEq

def LLamp.cells (x : LLamp) : List D := [i64 x.drum, spansD x.lit, i64 x.start.lo, i64 x.start.hi, i64 x.speed.lo, i64 x.speed.hi, i64 x.slow, i64 x.night]
def LLamp.d (x : LLamp) : D := .agg x.cells
def LSight.cells (s : LSight) : List D := [i64 s.second, .bool s.lit]
def sightsD (l : List LSight) : D := .vs (l.map LSight.cells)
def LCase.cells (c : LCase) : List D := [i64 c.lamp.drum, spansD c.lamp.lit, i64 c.lamp.start.lo, i64 c.lamp.start.hi, i64 c.lamp.speed.lo, i64 c.lamp.speed.hi, i64 c.lamp.slow, i64 c.lamp.night, intsD c.windings, sightsD c.sights]
def LCase.d (c : LCase) : D := .agg c.cells

/-- The first sector with an error. -/
def litF (drum : Int) : Int → List Span → Int → Int × Int
  | _, [], _ => (0, 0)
  | last, s :: r, i => if inB s.lo 0 (drum - 1) && inB s.hi 0 (drum - 1) then (if s.lo > s.hi || s.lo ≤ last then (i, 2) else litF drum s.hi r (i + 1)) else (i, 7)

def wheelF (x : LLamp) : Int × Int × Int :=
  if inB x.drum 2 120 && (inB x.slow 1 200 && inB x.night 1 200) then
    (if 4 < x.lit.length then (1, 0, 3)
    else if (litF x.drum (-1) x.lit 0).2 = 0 then
      (if (inB x.start.lo 0 (x.drum - 1) && inB x.start.hi 0 (x.drum - 1)) && (inB x.speed.lo 1 40 && inB x.speed.hi 1 40) then
        (if inB (x.start.hi - x.start.lo) 0 12 && inB (x.speed.hi - x.speed.lo) 0 4 then (0, 0, 0) else (3, 0, 2))
      else (3, 0, 7))
    else (2, (litF x.drum (-1) x.lit 0).1, (litF x.drum (-1) x.lit 0).2))
  else (1, 0, 7)

theorem litF_err {drum : Int} : ∀ {l : List Span} {last i : Int}, (litF drum last l i).2 = 0 ∨ (litF drum last l i).2 = 2 ∨ (litF drum last l i).2 = 7
  | [], _, _ => .inl rfl
  | s :: r, last, i => by
    rw [litF]
    split
    · split
      · exact .inr (.inl rfl)
      · exact litF_err
    · exact .inr (.inr rfl)

set_option maxHeartbeats 1000000 in
theorem la60 (x : LLamp) : FnV Try.prog 60 [x.d] (tri (wheelF x)) := by
  refine fnV_of mixed tysOk Try.func60 rfl (ft := ft60) 1 (by decide +kernel) (by rfl) fun {σ} Y st => ?_
  conv => whnf
  refine CallA_view (fn51_1 2 120 x.drum) rfl 1 rfl ?_
  conv => whnf
  by_cases h1 : inB x.drum 2 120 = true
  case neg =>
    have h1 : inB x.drum 2 120 = false := by simpa using h1
    rw [h1]
    conv => whnf
    unfold wheelF
    rw [h1]
    exact RetA_view 0 rfl ⟨⟨rfl, rfl⟩, rfl⟩
  rw [h1]
  conv => whnf
  refine CallA_view (fn51_2 1 200 x.slow x.night) rfl 1 rfl ?_
  conv => whnf
  by_cases h2 : (inB x.slow 1 200 && inB x.night 1 200) = true
  case neg =>
    have h2 : (inB x.slow 1 200 && inB x.night 1 200) = false := by simpa using h2
    rw [h2]
    conv => whnf
    unfold wheelF
    rw [h1, h2]
    exact RetA_view 0 rfl ⟨⟨rfl, rfl⟩, rfl⟩
  rw [h2]
  conv => whnf
  have hw : wheelF x = if 4 < x.lit.length then (1, 0, 3)
    else if (litF x.drum (-1) x.lit 0).2 = 0 then
      (if (inB x.start.lo 0 (x.drum - 1) && inB x.start.hi 0 (x.drum - 1)) && (inB x.speed.lo 1 40 && inB x.speed.hi 1 40) then
        (if inB (x.start.hi - x.start.lo) 0 12 && inB (x.speed.hi - x.speed.lo) 0 4 then (0, 0, 0) else (3, 0, 2))
      else (3, 0, 7))
    else (2, (litF x.drum (-1) x.lit 0).1, (litF x.drum (-1) x.lit 0).2) := by
    unfold wheelF
    rw [h1, h2]; rfl
  rw [hw]
  have hd := inB_iff.1 h1
  refine brk_i (fun h3 => ?_) (fun h3 => ?_)
  · have h3 : 4 < x.lit.length := by have := of_decide_eq_true h3; simp at this; omega
    conv => whnf
    rw [if_pos h3]
    exact RetA_view 0 rfl ⟨⟨rfl, rfl⟩, rfl⟩
  have h3 : ¬ 4 < x.lit.length := by have := of_decide_eq_false h3; simp at this; omega
  rw [if_neg h3]
  conv => whnf
  refine LoopA_i (T := tys) tysOk (by exact drawsB_spec mixed tysOk (by decide +kernel)) x.lit (fun i (p : Int × List D) => ⟨[(1, .ptr 1 0), (5, .d (i64 p.1)), (27, .d (spansD x.lit)), (28, .d (i64 x.lit.length)), (29, .d (i64 i))], [(1, .box (.dd x.cells))], st⟩) (fun i r p => litF x.drum (-1) x.lit 0 = litF x.drum p.1 r i ∧ -1 ≤ p.1 ∧ p.1 ≤ 1000) ((-1), []) (Wk.sub ⟨(by first | rfl | (simp only [List.length_map]; rfl) | simp [PX.get]), (by first | rfl | (simp only [List.length_map]; rfl) | simp [PX.get]), (by first | rfl | (simp only [List.length_map]; rfl) | simp [PX.get]), (by first | rfl | (simp only [List.length_map]; rfl) | simp [PX.get]), (by first | rfl | (simp only [List.length_map]; rfl) | simp [PX.get]), trivial⟩ ⟨(by first | rfl | (simp only [List.length_map]; rfl) | simp [PX.get]), trivial⟩) ⟨rfl, by simp only; omega, by simp only; omega⟩ ?_ ?_
  · intro i s r p hx hi hr he
    obtain ⟨last, _⟩ := p
    obtain ⟨he, hl1, hl2⟩ := he
    simp only at he hl1 hl2
    rw [litF] at he
    conv => whnf
    refine brk_i (fun _ => ?_) (fun h => absurd hi (by simpa using h))
    conv => whnf
    refine elemK_nat hx ?_
    conv => whnf
    refine arith_in (wrap_i64 (by (try dsimp only); omega)) ?_
    conv => whnf
    refine CallA_view (fn51_2 0 (x.drum - 1) s.lo s.hi) rfl 1 rfl ?_
    conv => whnf
    by_cases h4 : (inB s.lo 0 (x.drum - 1) && inB s.hi 0 (x.drum - 1)) = true
    case neg =>
      have h4 : (inB s.lo 0 (x.drum - 1) && inB s.hi 0 (x.drum - 1)) = false := by simpa using h4
      rw [h4] at he ⊢
      rw [if_neg (by simp)] at he
      conv => whnf
      rw [he]
      exact RetA_view 0 rfl ⟨⟨rfl, rfl⟩, rfl⟩
    rw [h4] at he ⊢
    rw [if_pos rfl] at he
    simp only [Bool.and_eq_true, inB_iff] at h4
    conv => whnf
    refine brk_i (fun h5 => ?_) (fun h5 => ?_)
    · have h5 : s.lo > s.hi := by simpa using h5
      rw [if_pos (by simp [h5])] at he
      conv => whnf
      rw [he]
      exact RetA_view 0 rfl ⟨⟨rfl, rfl⟩, rfl⟩
    have h5 : ¬ s.lo > s.hi := by simpa using h5
    conv => whnf
    refine brk_i (fun h6 => ?_) (fun h6 => ?_)
    · have h6 : s.lo ≤ last := by simpa using h6
      rw [if_pos (by simp [h6])] at he
      conv => whnf
      rw [he]
      exact RetA_view 0 rfl ⟨⟨rfl, rfl⟩, rfl⟩
    have h6 : ¬ s.lo ≤ last := by simpa using h6
    rw [if_neg (by simp [h5, h6])] at he
    conv => whnf
    refine arith_in (wrap_i64 (by (try dsimp only); omega)) ?_
    conv => whnf
    exact ⟨(s.hi, []), ⟨by simpa using he, by simp only; omega, by simp only; omega⟩, (Wk.sub ⟨(by first | rfl | (simp only [List.length_map]; rfl) | simp [PX.get]), (by first | rfl | (simp only [List.length_map]; rfl) | simp [PX.get]), (by first | rfl | (simp only [List.length_map]; rfl) | simp [PX.get]), (by first | rfl | (simp only [List.length_map]; rfl) | simp [PX.get]), (by first | rfl | (simp only [List.length_map]; rfl) | simp [PX.get]), trivial⟩ ⟨(by first | rfl | (simp only [List.length_map]; rfl) | simp [PX.get]), trivial⟩)⟩
  · rintro ⟨last, _⟩ ⟨he, _, _⟩
    simp only [litF] at he
    conv => whnf
    refine brk_i (fun h => absurd h (by simp)) (fun _ => ?_)
    conv => whnf
    rw [he]
    simp only [if_true]
    refine arith_in (wrap_i64 (by (try dsimp only); omega)) ?_
    conv => whnf
    refine CallA_view (fn51_2 0 (x.drum - 1) x.start.lo x.start.hi) rfl 1 rfl ?_
    conv => whnf
    by_cases h4 : (inB x.start.lo 0 (x.drum - 1) && inB x.start.hi 0 (x.drum - 1)) = true
    case neg =>
      have h4 : (inB x.start.lo 0 (x.drum - 1) && inB x.start.hi 0 (x.drum - 1)) = false := by simpa using h4
      rw [h4]
      conv => whnf
      exact RetA_view 0 rfl ⟨⟨rfl, rfl⟩, rfl⟩
    rw [h4]
    simp only [Bool.and_eq_true, inB_iff] at h4
    conv => whnf
    refine CallA_view (fn51_2 1 40 x.speed.lo x.speed.hi) rfl 1 rfl ?_
    conv => whnf
    by_cases h5 : (inB x.speed.lo 1 40 && inB x.speed.hi 1 40) = true
    case neg =>
      have h5 : (inB x.speed.lo 1 40 && inB x.speed.hi 1 40) = false := by simpa using h5
      rw [h5]
      conv => whnf
      exact RetA_view 0 rfl ⟨⟨rfl, rfl⟩, rfl⟩
    rw [h5]
    simp only [Bool.and_eq_true, inB_iff] at h5
    conv => whnf
    refine arith_in (wrap_i64 (by (try dsimp only); omega)) ?_
    conv => whnf
    refine CallA_view (fn51_1 0 12 (x.start.hi - x.start.lo)) rfl 1 rfl ?_
    conv => whnf
    by_cases h6 : inB (x.start.hi - x.start.lo) 0 12 = true
    case neg =>
      have h6 : inB (x.start.hi - x.start.lo) 0 12 = false := by simpa using h6
      rw [h6]
      conv => whnf
      exact RetA_view 0 rfl ⟨⟨rfl, rfl⟩, rfl⟩
    rw [h6]
    conv => whnf
    refine arith_in (wrap_i64 (by (try dsimp only); omega)) ?_
    conv => whnf
    refine CallA_view (fn51_1 0 4 (x.speed.hi - x.speed.lo)) rfl 1 rfl ?_
    conv => whnf
    by_cases h7 : inB (x.speed.hi - x.speed.lo) 0 4 = true
    case neg =>
      have h7 : inB (x.speed.hi - x.speed.lo) 0 4 = false := by simpa using h7
      rw [h7]
      conv => whnf
      exact RetA_view 0 rfl ⟨⟨rfl, rfl⟩, rfl⟩
    rw [h7]
    conv => whnf
    exact RetA_view 0 rfl ⟨⟨rfl, rfl⟩, rfl⟩
end Go.PX

namespace Go.PX
open Go.Proofs

/- Lamp: Check (the program). -/

/-- What is known of a good lamp. -/
structure LampR (x : LLamp) : Prop where
  drum : 2 ≤ x.drum ∧ x.drum ≤ 120
  slow : 1 ≤ x.slow ∧ x.slow ≤ 200
  night : 1 ≤ x.night ∧ x.night ≤ 200
  lits : x.lit.length ≤ 4
  lit : ∀ s ∈ x.lit, 0 ≤ s.lo ∧ s.lo ≤ s.hi ∧ s.hi ≤ x.drum - 1
  start : 0 ≤ x.start.lo ∧ x.start.lo ≤ x.start.hi ∧ x.start.hi ≤ x.drum - 1
  speed : 1 ≤ x.speed.lo ∧ x.speed.lo ≤ x.speed.hi ∧ x.speed.hi ≤ 40 ∧ x.speed.hi ≤ x.speed.lo + 4

theorem litF_ok {drum : Int} : ∀ {l : List Span} {last i : Int}, (litF drum last l i).2 = 0 → ∀ s ∈ l, 0 ≤ s.lo ∧ s.lo ≤ s.hi ∧ s.hi ≤ drum - 1
  | [], _, _, _, s, hs => by cases hs
  | x :: r, last, i, h, s, hs => by
    rw [litF] at h
    split at h
    · rename_i h1
      simp only [Bool.and_eq_true, inB_iff] at h1
      split at h
      · cases h
      · rename_i h2
        simp only [Bool.or_eq_true, decide_eq_true_eq, not_or] at h2
        rcases List.mem_cons.1 hs with rfl | hs
        · omega
        · exact litF_ok h s hs
    · cases h

theorem wheel_ok {x : LLamp} (h : (wheelF x).2.2 = 0) : LampR x := by
  unfold wheelF at h
  split at h
  case isFalse => cases h
  rename_i h1
  simp only [Bool.and_eq_true, inB_iff] at h1
  split at h
  · cases h
  rename_i h2
  split at h
  case isFalse => rename_i h3; exact absurd h h3
  rename_i h3
  split at h
  case isFalse => cases h
  rename_i h4
  simp only [Bool.and_eq_true, inB_iff] at h4
  split at h
  case isFalse => cases h
  rename_i h5
  simp only [Bool.and_eq_true, inB_iff] at h5
  exact ⟨h1.1, h1.2.1, h1.2.2, by omega, litF_ok h3, by omega, by omega⟩

theorem wheel_far {x : LLamp} (h : (wheelF x).2.2 = 0) : x.start.hi ≤ x.start.lo + 12 := by
  unfold wheelF at h
  split at h
  case isFalse => cases h
  split at h
  · cases h
  split at h
  case isFalse => rename_i h3; exact absurd h h3
  split at h
  case isFalse => cases h
  split at h
  case isFalse => cases h
  rename_i h5
  simp only [Bool.and_eq_true, inB_iff] at h5
  omega

def windF (night : Int) : Int → List Int → Int → Int × Int
  | _, [], _ => (0, 0)
  | last, s :: r, i => if inB s 1 (night - 1) then (if s ≤ last then (i, 2) else windF night s r (i + 1)) else (i, 7)

def sightF (night : Int) : List LSight → Int → Int × Int
  | [], _ => (0, 0)
  | s :: r, i => if inB s.second 0 (night - 1) then sightF night r (i + 1) else (i, 7)

def checkL (c : LCase) : Int × Int × Int :=
  if (wheelF c.lamp).2.2 = 0 then
    (if 2 < c.windings.length then (4, 0, 3)
    else if (windF c.lamp.night 0 c.windings 0).2 = 0 then
      (if 8 < c.sights.length then (5, 0, 3)
      else if (sightF c.lamp.night c.sights 0).2 = 0 then (0, 0, 0)
      else (5, (sightF c.lamp.night c.sights 0).1, (sightF c.lamp.night c.sights 0).2))
    else (4, (windF c.lamp.night 0 c.windings 0).1, (windF c.lamp.night 0 c.windings 0).2))
  else wheelF c.lamp

set_option maxHeartbeats 1000000 in
theorem la15 (c : LCase) : FnV Try.prog 15 [c.d] (tri (checkL c)) := by
  refine fnV_of mixed tysOk Try.func15 rfl (ft := ft15) 1 (by decide +kernel) (by rfl) fun {σ} Y st => ?_
  conv => whnf
  refine CallA_v (la60 c.lamp) rfl rfl ?_
  conv => whnf
  unfold checkL
  refine brk_i (fun h1 => ?_) (fun h1 => ?_)
  · have h1 : ¬ (wheelF c.lamp).2.2 = 0 := by simpa using h1
    conv => whnf
    rw [if_neg h1]
    exact RetA_view 0 rfl ⟨⟨rfl, rfl⟩, rfl⟩
  have h1 : (wheelF c.lamp).2.2 = 0 := by simpa using h1
  rw [if_pos h1]
  have hR := wheel_ok h1
  have hn := hR.night
  conv => whnf
  refine brk_i (fun h2 => ?_) (fun h2 => ?_)
  · have h2 : 2 < c.windings.length := by have := of_decide_eq_true h2; simp at this; omega
    conv => whnf
    rw [if_pos h2]
    exact RetA_view 0 rfl ⟨⟨rfl, rfl⟩, rfl⟩
  have h2 : ¬ 2 < c.windings.length := by have := of_decide_eq_false h2; simp at this; omega
  rw [if_neg h2]
  conv => whnf
  refine LoopA_i (T := tys) tysOk (by exact drawsB_spec mixed tysOk (by decide +kernel)) c.windings (fun i (last : Int) => ⟨[(1, .ptr 1 0), (5, .d (i64 last)), (27, .d (intsD c.windings)), (28, .d (i64 c.windings.length)), (29, .d (i64 i))], [(1, .box (.dd c.cells))], st⟩) (fun i r last => windF c.lamp.night 0 c.windings 0 = windF c.lamp.night last r i) 0 (Wk.sub ⟨(by first | rfl | (simp only [List.length_map]; rfl) | simp [PX.get]), (by first | rfl | (simp only [List.length_map]; rfl) | simp [PX.get]), (by first | rfl | (simp only [List.length_map]; rfl) | simp [PX.get]), (by first | rfl | (simp only [List.length_map]; rfl) | simp [PX.get]), (by first | rfl | (simp only [List.length_map]; rfl) | simp [PX.get]), trivial⟩ ⟨(by first | rfl | (simp only [List.length_map]; rfl) | simp [PX.get]), trivial⟩) rfl ?_ ?_
  · intro i s r last hx hi hr he
    rw [windF] at he
    conv => whnf
    refine brk_i (fun _ => ?_) (fun h => absurd hi (by simpa using h))
    conv => whnf
    refine elemK_nat hx ?_
    conv => whnf
    refine arith_in (wrap_i64 (by (try dsimp only); omega)) ?_
    conv => whnf
    refine CallA_view (fn51_1 1 (c.lamp.night - 1) s) rfl 1 rfl ?_
    conv => whnf
    by_cases h3 : inB s 1 (c.lamp.night - 1) = true
    case neg =>
      have h3 : inB s 1 (c.lamp.night - 1) = false := by simpa using h3
      rw [h3] at he ⊢
      rw [if_neg (by simp)] at he
      conv => whnf
      rw [he]
      exact RetA_view 0 rfl ⟨⟨rfl, rfl⟩, rfl⟩
    rw [h3] at he ⊢
    rw [if_pos rfl] at he
    conv => whnf
    refine brk_i (fun h4 => ?_) (fun h4 => ?_)
    · have h4 : s ≤ last := by simpa using h4
      rw [if_pos h4] at he
      conv => whnf
      rw [he]
      exact RetA_view 0 rfl ⟨⟨rfl, rfl⟩, rfl⟩
    have h4 : ¬ s ≤ last := by simpa using h4
    rw [if_neg h4] at he
    conv => whnf
    refine arith_in (wrap_i64 (by (try dsimp only); omega)) ?_
    conv => whnf
    exact ⟨s, by simpa using he, (Wk.sub ⟨(by first | rfl | (simp only [List.length_map]; rfl) | simp [PX.get]), (by first | rfl | (simp only [List.length_map]; rfl) | simp [PX.get]), (by first | rfl | (simp only [List.length_map]; rfl) | simp [PX.get]), (by first | rfl | (simp only [List.length_map]; rfl) | simp [PX.get]), (by first | rfl | (simp only [List.length_map]; rfl) | simp [PX.get]), trivial⟩ ⟨(by first | rfl | (simp only [List.length_map]; rfl) | simp [PX.get]), trivial⟩)⟩
  · intro last he
    simp only [windF] at he
    conv => whnf
    refine brk_i (fun h => absurd h (by simp)) (fun _ => ?_)
    rw [he]
    simp only [if_true]
    conv => whnf
    refine brk_i (fun h2 => ?_) (fun h2 => ?_)
    · have h2 : 8 < c.sights.length := by have := of_decide_eq_true h2; simp at this; omega
      conv => whnf
      rw [if_pos h2]
      exact RetA_view 0 rfl ⟨⟨rfl, rfl⟩, rfl⟩
    have h2 : ¬ 8 < c.sights.length := by have := of_decide_eq_false h2; simp at this; omega
    rw [if_neg h2]
    conv => whnf
    refine LoopA_i (T := tys) tysOk (by exact drawsB_spec mixed tysOk (by decide +kernel)) c.sights (fun i (_ : Unit) => ⟨[(1, .ptr 1 0), (55, .d (sightsD c.sights)), (56, .d (i64 c.sights.length)), (57, .d (i64 i))], [(1, .box (.dd c.cells))], st⟩) (fun i r _ => sightF c.lamp.night c.sights 0 = sightF c.lamp.night r i) () (Wk.sub ⟨(by first | rfl | (simp only [List.length_map]; rfl) | simp [PX.get]), (by first | rfl | (simp only [List.length_map]; rfl) | simp [PX.get]), (by first | rfl | (simp only [List.length_map]; rfl) | simp [PX.get]), (by first | rfl | (simp only [List.length_map]; rfl) | simp [PX.get]), trivial⟩ ⟨(by first | rfl | (simp only [List.length_map]; rfl) | simp [PX.get]), trivial⟩) rfl ?_ ?_
    · intro i s r _ hx hi hr he
      rw [sightF] at he
      conv => whnf
      refine brk_i (fun _ => ?_) (fun h => absurd hi (by simpa using h))
      conv => whnf
      refine elemK_nat hx ?_
      conv => whnf
      refine arith_in (wrap_i64 (by (try dsimp only); omega)) ?_
      conv => whnf
      refine CallA_view (fn51_1 0 (c.lamp.night - 1) s.second) rfl 1 rfl ?_
      conv => whnf
      by_cases h3 : inB s.second 0 (c.lamp.night - 1) = true
      case neg =>
        have h3 : inB s.second 0 (c.lamp.night - 1) = false := by simpa using h3
        rw [h3] at he ⊢
        rw [if_neg (by simp)] at he
        conv => whnf
        rw [he]
        exact RetA_view 0 rfl ⟨⟨rfl, rfl⟩, rfl⟩
      rw [h3] at he ⊢
      rw [if_pos rfl] at he
      conv => whnf
      refine arith_in (wrap_i64 (by (try dsimp only); omega)) ?_
      conv => whnf
      exact ⟨(), by simpa using he, (Wk.sub ⟨(by first | rfl | (simp only [List.length_map]; rfl) | simp [PX.get]), (by first | rfl | (simp only [List.length_map]; rfl) | simp [PX.get]), (by first | rfl | (simp only [List.length_map]; rfl) | simp [PX.get]), (by first | rfl | (simp only [List.length_map]; rfl) | simp [PX.get]), trivial⟩ ⟨(by first | rfl | (simp only [List.length_map]; rfl) | simp [PX.get]), trivial⟩)⟩
    · intro _ he
      simp only [sightF] at he
      conv => whnf
      refine brk_i (fun h => absurd h (by simp)) (fun _ => ?_)
      rw [he]
      simp only [if_true]
      conv => whnf
      exact RetA_view 0 rfl ⟨⟨rfl, rfl⟩, rfl⟩
end Go.PX

namespace Go.PX
open Go.Proofs

/- Lamp: Lights (the program). -/

structure LPhase where
  flash : Span
  dark : Span
  deriving DecidableEq

structure LLight where
  name : ByteArray
  phases : List LPhase
  deriving DecidableEq

def LPhase.cells (p : LPhase) : List D := [i64 p.flash.lo, i64 p.flash.hi, i64 p.dark.lo, i64 p.dark.hi]
def phasesD (l : List LPhase) : D := .vs (l.map LPhase.cells)
def LLight.cells (x : LLight) : List D := [.str x.name, phasesD x.phases]
def LLight.d (x : LLight) : D := .agg x.cells
def lightsD (l : List LLight) : D := .vs (l.map LLight.cells)

theorem la105 (l : List LLight) (g : FuncId) (caps : List D) (p : LLight → Bool) (hl : l.length < 4000000000000000000) (hp : ∀ x ∈ l, FnV Try.prog g (.agg x.cells :: caps) (.bool (p x))) :
    FnV Try.prog 105 [lightsD l, .clo g caps] (i64 (indexOf p l 0)) := by
  refine fnV_of mixed tysOk Try.func105 rfl (ft := ft105) 2 (by decide +kernel) (by rfl) fun {σ} Y st => ?_
  conv => whnf
  refine LoopA_i (T := tys) tysOk (by exact drawsB_spec mixed tysOk (by decide +kernel)) l (fun i (_ : Unit) => ⟨[(0, .d (lightsD l)), (1, .d (.clo g caps)), (7, .d (i64 l.length)), (8, .d (i64 i))], [], st⟩) (fun i r _ => indexOf p l 0 = indexOf p r i) () (Wk.sub ⟨(by first | rfl | (simp only [List.length_map]; rfl) | simp [PX.get]), (by first | rfl | (simp only [List.length_map]; rfl) | simp [PX.get]), (by first | rfl | (simp only [List.length_map]; rfl) | simp [PX.get]), (by first | rfl | (simp only [List.length_map]; rfl) | simp [PX.get]), trivial⟩ trivial) rfl ?_ ?_
  · intro i x r _ hx hi hr he
    rw [indexOf] at he
    conv => whnf
    refine brk_i (fun _ => ?_) (fun h => absurd hi (by simpa using h))
    conv => whnf
    refine elemK_nat hx ?_
    conv => whnf
    refine CallA_v (hp x (List.mem_of_getElem? hx)) rfl rfl ?_
    conv => whnf
    refine brk_i (fun h1 => ?_) (fun h1 => ?_)
    · conv => whnf
      rw [he, if_pos h1]
      exact RetA_view 0 rfl ⟨⟨rfl, rfl⟩, rfl⟩
    · rw [if_neg (by simp [h1])] at he
      conv => whnf
      refine arith_in (wrap_i64 (by (try dsimp only); omega)) ?_
      conv => whnf
      exact ⟨(), he, (Wk.sub ⟨(by first | rfl | (simp only [List.length_map]; rfl) | simp [PX.get]), (by first | rfl | (simp only [List.length_map]; rfl) | simp [PX.get]), (by first | rfl | (simp only [List.length_map]; rfl) | simp [PX.get]), (by first | rfl | (simp only [List.length_map]; rfl) | simp [PX.get]), trivial⟩ trivial)⟩
  · intro _ he
    conv => whnf
    refine brk_i (fun h => absurd h (by simp)) (fun _ => ?_)
    conv => whnf
    rw [he]
    exact RetA_view 0 rfl ⟨⟨rfl, rfl⟩, rfl⟩

theorem la65 (l : List LLight) (g : FuncId) (caps : List D) (p : LLight → Bool) (hl : l.length < 4000000000000000000) (hp : ∀ x ∈ l, FnV Try.prog g (.agg x.cells :: caps) (.bool (p x))) :
    FnV Try.prog 65 [lightsD l, .clo g caps] (.bool (l.any p)) := by
  refine fnV_of mixed tysOk Try.func65 rfl (ft := ft65) 2 (by decide +kernel) (by rfl) fun {σ} Y st => ?_
  conv => whnf
  refine CallA_v (la105 l g caps p hl hp) rfl rfl ?_
  conv => whnf
  refine RetA_view 0 rfl ⟨⟨?_, rfl⟩, rfl⟩
  rw [← indexOf_any p l 0 (by omega)]; rfl

theorem la106 (l : List LPhase) (g : FuncId) (caps : List D) (p : LPhase → Bool) (hl : l.length < 4000000000000000000) (hp : ∀ x ∈ l, FnV Try.prog g (.agg x.cells :: caps) (.bool (p x))) :
    FnV Try.prog 106 [phasesD l, .clo g caps] (i64 (indexOf p l 0)) := by
  refine fnV_of mixed tysOk Try.func106 rfl (ft := ft106) 2 (by decide +kernel) (by rfl) fun {σ} Y st => ?_
  conv => whnf
  refine LoopA_i (T := tys) tysOk (by exact drawsB_spec mixed tysOk (by decide +kernel)) l (fun i (_ : Unit) => ⟨[(0, .d (phasesD l)), (1, .d (.clo g caps)), (7, .d (i64 l.length)), (8, .d (i64 i))], [], st⟩) (fun i r _ => indexOf p l 0 = indexOf p r i) () (Wk.sub ⟨(by first | rfl | (simp only [List.length_map]; rfl) | simp [PX.get]), (by first | rfl | (simp only [List.length_map]; rfl) | simp [PX.get]), (by first | rfl | (simp only [List.length_map]; rfl) | simp [PX.get]), (by first | rfl | (simp only [List.length_map]; rfl) | simp [PX.get]), trivial⟩ trivial) rfl ?_ ?_
  · intro i x r _ hx hi hr he
    rw [indexOf] at he
    conv => whnf
    refine brk_i (fun _ => ?_) (fun h => absurd hi (by simpa using h))
    conv => whnf
    refine elemK_nat hx ?_
    conv => whnf
    refine CallA_v (hp x (List.mem_of_getElem? hx)) rfl rfl ?_
    conv => whnf
    refine brk_i (fun h1 => ?_) (fun h1 => ?_)
    · conv => whnf
      rw [he, if_pos h1]
      exact RetA_view 0 rfl ⟨⟨rfl, rfl⟩, rfl⟩
    · rw [if_neg (by simp [h1])] at he
      conv => whnf
      refine arith_in (wrap_i64 (by (try dsimp only); omega)) ?_
      conv => whnf
      exact ⟨(), he, (Wk.sub ⟨(by first | rfl | (simp only [List.length_map]; rfl) | simp [PX.get]), (by first | rfl | (simp only [List.length_map]; rfl) | simp [PX.get]), (by first | rfl | (simp only [List.length_map]; rfl) | simp [PX.get]), (by first | rfl | (simp only [List.length_map]; rfl) | simp [PX.get]), trivial⟩ trivial)⟩
  · intro _ he
    conv => whnf
    refine brk_i (fun h => absurd h (by simp)) (fun _ => ?_)
    conv => whnf
    rw [he]
    exact RetA_view 0 rfl ⟨⟨rfl, rfl⟩, rfl⟩

theorem la67 (l : List LPhase) (g : FuncId) (caps : List D) (p : LPhase → Bool) (hl : l.length < 4000000000000000000) (hp : ∀ x ∈ l, FnV Try.prog g (.agg x.cells :: caps) (.bool (p x))) :
    FnV Try.prog 67 [phasesD l, .clo g caps] (.bool (l.any p)) := by
  refine fnV_of mixed tysOk Try.func67 rfl (ft := ft67) 2 (by decide +kernel) (by rfl) fun {σ} Y st => ?_
  conv => whnf
  refine CallA_v (la106 l g caps p hl hp) rfl rfl ?_
  conv => whnf
  refine RetA_view 0 rfl ⟨⟨?_, rfl⟩, rfl⟩
  rw [← indexOf_any p l 0 (by omega)]; rfl

theorem la66 (y x : LLight) : FnV Try.prog 66 [.agg y.cells, .ref x.cells] (.bool (decide (y.name = x.name))) := by
  refine fnV_of mixed tysOk Try.func66 rfl (ft := ft66) 2 (by decide +kernel) (by rfl) fun {σ} Y st => ?_
  conv => whnf
  exact RetA_view 0 rfl ⟨⟨rfl, rfl⟩, rfl⟩

theorem fn51_4 (lo hi a b c d : Int) : FnV Try.prog 61 [i64 lo, i64 hi, .vs [[i64 a], [i64 b], [i64 c], [i64 d]]] (.bool (!((inB a lo hi && inB b lo hi) && (inB c lo hi && inB d lo hi)))) := by
  exact FnV.cast (fn51 lo hi [a, b, c, d] (by simp)) (by simp only [List.any_cons, List.any_nil, out_eq]; cases inB a lo hi <;> cases inB b lo hi <;> cases inB c lo hi <;> cases inB d lo hi <;> rfl)

def phaseIn (p : LPhase) : Bool := (inB p.flash.lo 1 200 && inB p.flash.hi 1 200) && (inB p.dark.lo 1 200 && inB p.dark.hi 1 200)
def phaseUp (p : LPhase) : Bool := decide (p.flash.lo > p.flash.hi) || decide (p.dark.lo > p.dark.hi)

theorem la68 (p : LPhase) : FnV Try.prog 68 [.agg p.cells] (.bool (!phaseIn p)) := by
  refine fnV_of mixed tysOk Try.func68 rfl (ft := ft68) 1 (by decide +kernel) (by rfl) fun {σ} Y st => ?_
  conv => whnf
  refine CallA_view (fn51_4 1 200 p.flash.lo p.flash.hi p.dark.lo p.dark.hi) rfl 1 rfl ?_
  conv => whnf
  exact RetA_view 0 rfl ⟨⟨rfl, rfl⟩, rfl⟩

theorem la69 (p : LPhase) : FnV Try.prog 69 [.agg p.cells] (.bool (phaseUp p)) := by
  refine fnV_of mixed tysOk Try.func69 rfl (ft := ft69) 1 (by decide +kernel) (by rfl) fun {σ} Y st => ?_
  conv => whnf
  unfold phaseUp
  refine brk_i (fun h1 => ?_) (fun h1 => ?_)
  · rw [h1]
    conv => whnf
    exact RetA_view 0 rfl ⟨⟨rfl, rfl⟩, rfl⟩
  · rw [h1]
    conv => whnf
    exact RetA_view 0 rfl ⟨⟨rfl, rfl⟩, rfl⟩

/-- The error of phases, as the program looks at them. -/
def phasesF (l : List LPhase) : Int :=
  if inB l.length 1 3 then (if l.any (fun p => !phaseIn p) then 7 else if l.any phaseUp then 2 else 0) else 3

def lightF (b : List LLight) (x : LLight) : Int :=
  if nameF x.name then (if b.any (fun y => decide (y.name = x.name)) then 5 else phasesF x.phases) else 6

def lightsF (l : List LLight) : Int × Int :=
  if inB l.length 1 6 then firstE lightF [] l 0 else (0, 3)

set_option maxHeartbeats 1000000 in
theorem la17 (l : List LLight) : FnV Try.prog 17 [lightsD l] (.tup [i64 (lightsF l).1, i64 (lightsF l).2]) := by
  refine fnV_of mixed tysOk Try.func17 rfl (ft := ft17) 1 (by decide +kernel) (by rfl) fun {σ} Y st => ?_
  conv => whnf
  refine CallA_view (fn51_1 1 6 l.length) rfl 1 (by simp; rfl) ?_
  conv => whnf
  unfold lightsF
  by_cases h0 : inB l.length 1 6 = true
  case neg =>
    have h0 : inB l.length 1 6 = false := by simpa using h0
    rw [h0]
    conv => whnf
    exact RetA_view 0 rfl ⟨⟨rfl, rfl⟩, rfl⟩
  rw [h0]
  rw [inB_iff] at h0
  simp only [if_true]
  conv => whnf
  refine LoopA_i (T := tys) tysOk (by exact drawsB_spec mixed tysOk (by decide +kernel)) l (fun i (_ : Unit) => ⟨[(0, .d (lightsD l)), (10, .d (lightsD l)), (11, .d (i64 l.length)), (12, .d (i64 i))], [], st⟩) (fun i r _ => firstE lightF [] l 0 = firstE lightF (l.take i) r i) () (Wk.sub ⟨(by first | rfl | (simp only [List.length_map]; rfl) | simp [PX.get]), (by first | rfl | (simp only [List.length_map]; rfl) | simp [PX.get]), (by first | rfl | (simp only [List.length_map]; rfl) | simp [PX.get]), (by first | rfl | (simp only [List.length_map]; rfl) | simp [PX.get]), trivial⟩ trivial) rfl ?_ ?_
  · intro i x r _ hx hi hr he
    rw [firstE] at he
    have htk : l.take (i + 1) = l.take i ++ [x] := by rw [List.take_succ, hx]; rfl
    conv => whnf
    refine brk_i (fun _ => ?_) (fun h => absurd hi (by simpa using h))
    conv => whnf
    refine elemK_nat hx ?_
    conv => whnf
    refine CallA_v (fn47 x.name) rfl rfl ?_
    conv => whnf
    refine brk_i (fun h4 => ?_) (fun h4 => ?_)
    · conv => whnf
      have h4 : nameF x.name = false := by simpa using h4
      rw [he]
      simp only [lightF, h4]
      exact RetA_view 0 rfl ⟨⟨rfl, rfl⟩, rfl⟩
    have h4 : nameF x.name = true := by simpa using h4
    conv => whnf
    refine chk_i (by simp; omega) ?_
    conv => whnf
    refine chk_i (by cases l <;> rfl) ?_
    conv => whnf
    refine CallA_view (ds := [lightsD (l.take i), .clo 66 [.ref x.cells]]) (la65 (l.take i) 66 [.ref x.cells] (fun y => decide (y.name = x.name)) (by simp; omega) fun y _ => la66 y x) rfl 1 (by show some _ = some _; simp [lightsD, List.map_take]; rfl) ?_
    conv => whnf
    refine brk_i (fun h5 => ?_) (fun h5 => ?_)
    · conv => whnf
      rw [he]
      simp only [lightF, h4, h5]
      exact RetA_view 0 rfl ⟨⟨rfl, rfl⟩, rfl⟩
    have hlf : lightF (l.take i) x = phasesF x.phases := by simp only [lightF, h4, h5]; rfl
    rw [hlf] at he
    conv => whnf
    refine CallA_view (fn51_1 1 3 x.phases.length) rfl 1 (by simp; rfl) ?_
    conv => whnf
    by_cases h6 : inB x.phases.length 1 3 = true
    case neg =>
      have h6 : inB x.phases.length 1 3 = false := by simpa using h6
      rw [h6]
      conv => whnf
      rw [he]
      simp only [phasesF, h6]
      exact RetA_view 0 rfl ⟨⟨rfl, rfl⟩, rfl⟩
    rw [h6]
    have hpl : x.phases.length < 4000000000000000000 := by rw [inB_iff] at h6; omega
    conv => whnf
    refine CallA_v (la67 x.phases 68 [] (fun p => !phaseIn p) hpl fun p _ => la68 p) rfl rfl ?_
    conv => whnf
    by_cases h7 : x.phases.any (fun p => !phaseIn p) = true
    · rw [h7]
      conv => whnf
      rw [he]
      simp only [phasesF, h6, h7]
      exact RetA_view 0 rfl ⟨⟨rfl, rfl⟩, rfl⟩
    have h7 : x.phases.any (fun p => !phaseIn p) = false := by simpa using h7
    rw [h7]
    conv => whnf
    refine CallA_v (la67 x.phases 69 [] phaseUp hpl fun p _ => la69 p) rfl rfl ?_
    conv => whnf
    by_cases h8 : x.phases.any phaseUp = true
    · rw [h8]
      conv => whnf
      rw [he]
      simp only [phasesF, h6, h7, h8]
      exact RetA_view 0 rfl ⟨⟨rfl, rfl⟩, rfl⟩
    have h8 : x.phases.any phaseUp = false := by simpa using h8
    rw [h8]
    have hs : phasesF x.phases = 0 := by simp [phasesF, h6, h7, h8]
    rw [if_pos hs, ← htk] at he
    conv => whnf
    refine arith_in (wrap_i64 (by (try dsimp only); omega)) ?_
    conv => whnf
    exact ⟨(), he, (Wk.sub ⟨(by first | rfl | (simp only [List.length_map]; rfl) | simp [PX.get]), (by first | rfl | (simp only [List.length_map]; rfl) | simp [PX.get]), (by first | rfl | (simp only [List.length_map]; rfl) | simp [PX.get]), (by first | rfl | (simp only [List.length_map]; rfl) | simp [PX.get]), trivial⟩ trivial)⟩
  intro _ he
  rw [List.take_length, firstE] at he
  rw [he]
  conv => whnf
  refine brk_i (fun h => absurd h (by simp)) (fun _ => ?_)
  conv => whnf
  exact RetA_view 0 rfl ⟨⟨rfl, rfl⟩, rfl⟩
end Go.PX

namespace Go.PX
open Go.Proofs

/- Lamp: look (the program). -/

/-- The openings of a drum, as cells: a list that is not laid out. -/
noncomputable def bsOf (p : Nat → Bool) : List D := Classical.choose (⟨(List.range 120).map fun k => .bool (p k), rfl⟩ : ∃ l, l = (List.range 120).map fun k => D.bool (p k))
theorem bsOf_eq (p : Nat → Bool) : bsOf p = (List.range 120).map fun k => .bool (p k) := Classical.choose_spec (⟨(List.range 120).map fun k => .bool (p k), rfl⟩ : ∃ l, l = (List.range 120).map fun k => D.bool (p k))

theorem bsOf_len (p : Nat → Bool) : (bsOf p).length = 120 := by rw [bsOf_eq]; simp
theorem bsOf_get (p : Nat → Bool) {n : Nat} (h : n < 120) : (bsOf p)[n]? = some (.bool (p n)) := by rw [bsOf_eq]; simp [h]
theorem bsOf_set (p : Nat → Bool) {n : Nat} (h : n < 120) : (bsOf p).set n (.bool true) = bsOf fun k => p k || k == n := by
  rw [bsOf_eq, bsOf_eq]
  apply List.ext_getElem?
  intro i
  rw [List.getElem?_set]
  by_cases hi : n = i
  · subst hi; simp [h]
  · simp [hi, Ne.symm hi]
    by_cases h2 : i < 120
    · simp [h2]; intro e; exact absurd e.symm hi
    · simp [h2]

theorem forceLD_i {l : List D} {K : List D → Prop} (h : K l) : forceLD l K := by rw [forceLD_eq]; exact h

def openB (x : LLamp) (k : Int) : Bool := x.lit.any fun s => inB k s.lo s.hi
noncomputable def lampC (x : LLamp) : List D := x.cells ++ bsOf fun (k : Nat) => openB x k

def openU (x : LLamp) (i : Nat) (k : Nat) : Bool := (x.lit.take i).any fun s => inB k s.lo s.hi

theorem openU_succ {x : LLamp} {i : Nat} {s : Span} (h : x.lit[i]? = some s) (k : Nat) : openU x (i + 1) k = (openU x i k || inB k s.lo s.hi) := by
  unfold openU
  rw [List.take_succ, h]
  simp

theorem splice_bs (x : LLamp) (p : Nat → Bool) {n : Nat} (h : n < 120) : (x.cells ++ bsOf p).take (8 + n) ++ [D.bool true] ++ (x.cells ++ bsOf p).drop (8 + n + 1) = x.cells ++ bsOf fun k => p k || k == n := by
  have hc : x.cells.length = 8 := rfl
  rw [← bsOf_set p h, List.set_eq_take_append_cons_drop, if_pos (by rw [bsOf_len]; exact h)]
  rw [List.take_append, List.drop_append, hc]
  rw [List.take_of_length_le (by omega), List.drop_eq_nil_of_le (by omega)]
  have e1 : 8 + n - 8 = n := by omega
  have e2 : 8 + n + 1 - 8 = n + 1 := by omega
  rw [e1, e2]
  simp

set_option maxHeartbeats 1000000 in
theorem la80 (x : LLamp) (hR : LampR x) : FnV Try.prog 80 [x.d] (.ref (lampC x)) := by
  refine fnV_of mixed tysOk Try.func80 rfl (ft := ft80) 1 (by decide +kernel) (by rfl) fun {σ} Y st => ?_
  conv => whnf
  refine LoopA_i (T := tys) tysOk (by exact drawsB_spec mixed tysOk (by decide +kernel)) x.lit (fun i (_ : Unit) => ⟨[(1, .ptr 1 0), (3, .ptr 9 0), (11, .d (spansD x.lit)), (12, .d (i64 x.lit.length)), (13, .d (i64 i))], [(1, .box (.dd x.cells)), (9, .box (.dd (x.cells ++ bsOf (openU x i))))], st⟩) (fun i r _ => ∀ s ∈ r, s ∈ x.lit) () ?wk (fun s h => h) ?_ ?_
  case wk =>
    refine Wk.sub ⟨rfl, rfl, rfl, by simp [PX.get], rfl, trivial⟩ ⟨rfl, ?_, trivial⟩
    rw [bsOf_eq]
    rfl
  · intro i s r _ hx hi hr hs
    obtain ⟨h1, h2, h3⟩ := hR.lit s (hs s (by simp))
    have hd := hR.drum
    conv => whnf
    refine brk_i (fun _ => ?_) (fun h => absurd hi (by simpa using h))
    conv => whnf
    repeat (refine forceLD_i ?_; conv => whnf)
    refine elemK_nat hx ?_
    conv => whnf
    repeat (refine forceLD_i ?_; conv => whnf)
    refine LoopA_p (T := tys) tysOk (by exact drawsB_spec mixed tysOk (by decide +kernel)) (α := Nat)
      (fun k => ⟨[(1, .ptr 1 0), (3, .ptr 9 0), (5, .ptr 5 0), (6, .d (i64 (s.lo + (k : Int)))), (11, .d (spansD x.lit)), (12, .d (i64 x.lit.length)), (13, .d (i64 i))], [(1, .box (.dd x.cells)), (9, .box (.dd (x.cells ++ bsOf fun j => openU x i j || inB j s.lo (s.lo + k - 1)))), (5, .box (.dd s.cells))], st⟩)
      (fun k => s.lo + k ≤ s.hi + 1) (fun k => (s.hi + 1 - s.lo).toNat - k) 0 ?wk (by omega) ?_
    case wk =>
      refine Wk.sub ⟨rfl, rfl, rfl, by simp [PX.get], rfl, rfl, rfl, trivial⟩ ⟨rfl, ?_, rfl, trivial⟩
      have : (fun (j : Nat) => openU x i j || inB j s.lo (s.lo + (0 : Nat) - 1)) = openU x i := by
        funext j
        have : inB (j : Int) s.lo (s.lo + (0 : Nat) - 1) = false := by
          rw [Bool.eq_false_iff]; intro h; rw [inB_iff] at h; omega
        rw [this, Bool.or_false]
      rw [this]
      rfl
    intro k hk
    conv => whnf
    repeat (refine forceLD_i ?_; conv => whnf)
    refine brk_i (fun h4 => ?_) (fun h4 => ?_)
    · have h4 : s.lo + (k : Int) ≤ s.hi := by simpa using h4
      conv => whnf
      repeat (refine forceLD_i ?_; conv => whnf)
      refine chk_i (by simp; omega) ?_
      conv => whnf
      repeat (refine forceLD_i ?_; conv => whnf)
      refine chk_i (Nat.ble_eq_true_of_le (by
        show 0 + 8 + (s.lo + (k : Int)).toNat * 1 + 1 ≤ (x.cells ++ bsOf _).length
        rw [List.length_append, bsOf_len]
        have : x.cells.length = 8 := rfl
        omega)) ?_
      conv => whnf
      repeat (refine forceLD_i ?_; conv => whnf)
      refine arith_in (wrap_i64 (by (try dsimp only); omega)) ?_
      conv => whnf
      refine ⟨k + 1, by omega, by omega, Wk.sub ⟨rfl, rfl, rfl, ?_, rfl, rfl, rfl, trivial⟩ ⟨rfl, ?_, rfl, trivial⟩⟩
      · show some (V.d (i64 (s.lo + (k : Int) + 1))) = some (V.d (i64 (s.lo + ((k + 1 : Nat) : Int))))
        rw [show s.lo + (k : Int) + 1 = s.lo + ((k + 1 : Nat) : Int) by omega]
      · show some (Obj.box (Cells.dd ((x.cells ++ bsOf fun j => openU x i j || inB j s.lo (s.lo + k - 1)).take (0 + 8 + (s.lo + (k : Int)).toNat * 1) ++ [D.bool true] ++ (x.cells ++ bsOf fun j => openU x i j || inB j s.lo (s.lo + k - 1)).drop (0 + 8 + (s.lo + (k : Int)).toNat * 1 + 1)))) = _
        have hn : (s.lo + (k : Int)).toNat < 120 := by omega
        rw [show 0 + 8 + (s.lo + (k : Int)).toNat * 1 = 8 + (s.lo + (k : Int)).toNat by omega, splice_bs x _ hn]
        have : (fun (j : Nat) => (openU x i j || inB (j : Int) s.lo (s.lo + (k : Int) - 1)) || j == (s.lo + (k : Int)).toNat) = fun (j : Nat) => openU x i j || inB (j : Int) s.lo (s.lo + ((k + 1 : Nat) : Int) - 1) := by
          funext j
          rw [Bool.or_assoc]
          congr 1
          rw [Bool.eq_iff_iff]
          simp only [Bool.or_eq_true, inB_iff, beq_iff_eq]
          omega
        rw [this]
    · have h4 : ¬ s.lo + (k : Int) ≤ s.hi := by simpa using h4
      conv => whnf
      repeat (refine forceLD_i ?_; conv => whnf)
      refine arith_in (wrap_i64 (by have := hR.lits; omega)) ?_
      conv => whnf
      repeat (refine forceLD_i ?_; conv => whnf)
      refine ⟨(), fun s hs2 => hs s (by simp [hs2]), Wk.sub ⟨rfl, rfl, rfl, rfl, rfl, trivial⟩ ⟨rfl, ?_, trivial⟩⟩
      have : (fun (j : Nat) => openU x i j || inB (j : Int) s.lo (s.lo + (k : Int) - 1)) = openU x (i + 1) := by
        funext j
        rw [openU_succ hx, show s.lo + (k : Int) - 1 = s.hi by omega]
      rw [← this]
      rfl
  · intro _ _
    conv => whnf
    repeat (refine forceLD_i ?_; conv => whnf)
    refine brk_i (fun h => absurd h (by simp)) (fun _ => ?_)
    conv => whnf
    repeat (refine forceLD_i ?_; conv => whnf)
    refine RetA_view 1 (ds := [.ref (lampC x)]) ?_ ⟨⟨rfl, rfl⟩, rfl⟩
    have : openU x x.lit.length = fun (k : Nat) => openB x k := by
      funext k
      simp only [openU, openB, List.take_length]
    rw [this]
    rfl
end Go.PX

namespace Go.PX
open Go.Proofs

/- Lamp: next, checkTruth, course (the program). -/

def nextF (x : LLamp) (at' speed since : Int) : Int := (at' + max 0 (speed - since / x.slow)) % x.drum

theorem nextF_bd {x : LLamp} (hR : LampR x) (a s n : Int) : 0 ≤ nextF x a s n ∧ nextF x a s n < x.drum := by
  have hd := hR.drum
  unfold nextF
  exact ⟨Int.emod_nonneg _ (by omega), Int.emod_lt_of_pos _ (by omega)⟩

theorem la110 (x : LLamp) (hR : LampR x) (a s n : Int) (ha : 0 ≤ a ∧ a < x.drum) (hs : 0 ≤ s ∧ s ≤ 1000) (hn : 0 ≤ n ∧ n ≤ 1000) : FnV Try.prog 110 [.ref (lampC x), i64 a, i64 s, i64 n] (i64 (nextF x a s n)) := by
  refine fnV_of mixed tysOk Try.func110 rfl (ft := ft110) 4 (by decide +kernel) (by rfl) fun {σ} Y st => ?_
  conv => whnf
  have hd := hR.drum
  have hsl := hR.slow
  have e1 : n.tdiv x.slow = n / x.slow := Int.tdiv_eq_ediv_of_nonneg hn.1
  have b1 : 0 ≤ n / x.slow ∧ n / x.slow ≤ n := ⟨Int.ediv_nonneg hn.1 (by omega), Int.ediv_le_self _ hn.1⟩
  have e2 : (a + max 0 (s - n / x.slow)).tmod x.drum = nextF x a s n := Int.tmod_eq_emod_of_nonneg (by omega)
  refine chk_i (by simp; omega) ?_
  conv => whnf
  refine arith_in (wrap_i64 (by rw [e1]; omega)) ?_
  conv => whnf
  rw [e1]
  refine arith_in (wrap_i64 (by (try dsimp only); omega)) ?_
  conv => whnf
  refine arith_in (wrap_i64 (by (try dsimp only); omega)) ?_
  conv => whnf
  refine chk_i (by simp; omega) ?_
  conv => whnf
  rw [e2]
  exact RetA_view 0 rfl ⟨⟨rfl, rfl⟩, rfl⟩

structure LTruth where
  start : Int
  speeds : List Int
  deriving DecidableEq

def LTruth.cells (t : LTruth) : List D := [i64 t.start, intsD t.speeds]
def LTruth.d (t : LTruth) : D := .agg t.cells

def truthE (c : LCase) (t : LTruth) : Int :=
  if t.speeds.length = c.windings.length + 1 then (if inB t.start c.lamp.start.lo c.lamp.start.hi && t.speeds.all (fun s => inB s c.lamp.speed.lo c.lamp.speed.hi) then 0 else 7) else 3

theorem la72 (c : LCase) (t : LTruth) (hw : c.windings.length ≤ 1000) : FnV Try.prog 72 [c.d, t.d] (i64 (truthE c t)) := by
  refine fnV_of mixed tysOk Try.func72 rfl (ft := ft72) 2 (by decide +kernel) (by rfl) fun {σ} Y st => ?_
  conv => whnf
  refine arith_in (wrap_i64 (by simp only [List.length_map]; omega)) ?_
  conv => whnf
  unfold truthE
  refine brk_i (fun h1 => ?_) (fun h1 => ?_)
  · have h1 : ¬ t.speeds.length = c.windings.length + 1 := by
      simp at h1; omega
    conv => whnf
    rw [if_neg h1]
    exact RetA_view 0 rfl ⟨⟨rfl, rfl⟩, rfl⟩
  have h1 : t.speeds.length = c.windings.length + 1 := by simp at h1; omega
  rw [if_pos h1]
  conv => whnf
  refine CallA_view (fn51_1 c.lamp.start.lo c.lamp.start.hi t.start) rfl 1 rfl ?_
  conv => whnf
  by_cases h2 : inB t.start c.lamp.start.lo c.lamp.start.hi = true
  case neg =>
    have h2 : inB t.start c.lamp.start.lo c.lamp.start.hi = false := by simpa using h2
    rw [h2]
    conv => whnf
    exact RetA_view 0 rfl ⟨⟨rfl, rfl⟩, rfl⟩
  rw [h2]
  conv => whnf
  refine CallA_v (fn51 c.lamp.speed.lo c.lamp.speed.hi t.speeds (by omega)) rfl rfl ?_
  have h3 : (t.speeds.any fun n => decide (n < c.lamp.speed.lo) || decide (n > c.lamp.speed.hi)) = !(t.speeds.all fun s => inB s c.lamp.speed.lo c.lamp.speed.hi) := by
    rw [List.not_all_eq_any_not]
    congr 1
    funext n
    exact out_eq _ _ n
  rw [h3]
  conv => whnf
  cases h4 : t.speeds.all fun s => inB s c.lamp.speed.lo c.lamp.speed.hi with
  | true =>
    conv => whnf
    exact RetA_view 0 rfl ⟨⟨rfl, rfl⟩, rfl⟩
  | false =>
    conv => whnf
    exact RetA_view 0 rfl ⟨⟨rfl, rfl⟩, rfl⟩

def boolsD (l : List Bool) : D := .vs (l.map fun b => [.bool b])

def courseF (x : LLamp) (w sp : List Int) : Nat → Int → Int → Int → Nat → List Bool
  | 0, _, _, _, _ => []
  | k + 1, s, at', begin, n => openB x at' :: (if w[n]? = some s then courseF x w sp k (s + 1) (nextF x at' (sp.getD (n + 1) 0) 0) s (n + 1) else courseF x w sp k (s + 1) (nextF x at' (sp.getD n 0) (s - begin)) begin n)

def courseL (x : LLamp) (w : List Int) (t : LTruth) : List Bool := courseF x w t.speeds x.night.toNat 0 t.start 0 0

theorem courseF_len {x : LLamp} {w sp : List Int} : ∀ {k : Nat} {s a b : Int} {n : Nat}, (courseF x w sp k s a b n).length = k
  | 0, _, _, _, _ => rfl
  | k + 1, s, a, b, n => by
    rw [courseF]
    split <;> simp [courseF_len]

theorem lampC_get (x : LLamp) {a : Int} (ha : 0 ≤ a ∧ a < 120) : ((lampC x).drop 8)[a.toNat]? = some (.bool (openB x a)) := by
  have h : (lampC x).drop 8 = bsOf fun (k : Nat) => openB x k := rfl
  rw [h, bsOf_get _ (by omega)]
  rw [show ((a.toNat : Nat) : Int) = a by omega]

/-- A position of the drum, behind a pointer to a lamp. -/
theorem lampC_at {K : D → Prop} (x : LLamp) {a : Int} (ha : 0 ≤ a ∧ a < 120) {l : List D} (hl : l = ((lampC x).drop 8).drop (a.toNat * 1)) (h : K (.bool (openB x a))) : cellK l 0 K := by
  subst hl
  refine cellK_i (.bool (openB x a)) ?_ h
  rw [List.getElem?_drop, Nat.add_zero, Nat.mul_one]
  exact lampC_get x ha

/-- What is known of a truth of a good case. -/
structure TruthR (c : LCase) (t : LTruth) : Prop where
  start : c.lamp.start.lo ≤ t.start ∧ t.start ≤ c.lamp.start.hi
  len : t.speeds.length = c.windings.length + 1
  speed : ∀ s ∈ t.speeds, c.lamp.speed.lo ≤ s ∧ s ≤ c.lamp.speed.hi

theorem truth_ok {c : LCase} {t : LTruth} (h : truthE c t = 0) : TruthR c t := by
  unfold truthE at h
  split at h
  case isFalse => cases h
  rename_i h1
  split at h
  case isFalse => cases h
  rename_i h2
  simp only [Bool.and_eq_true, inB_iff, List.all_eq_true] at h2
  exact ⟨h2.1, h1, fun s hs => (h2.2 s hs)⟩

set_option maxHeartbeats 1000000 in
theorem la73 (c : LCase) (t : LTruth) (hR : LampR c.lamp) (hw : c.windings.length ≤ 2) (hT : TruthR c t) : FnV Try.prog 73 [c.d, t.d] (boolsD (courseL c.lamp c.windings t)) := by
  refine fnV_of mixed tysOk Try.func73 rfl (ft := ft73) 2 (by decide +kernel) (by rfl) fun {σ} Y st => ?_
  conv => whnf
  have hd := hR.drum
  have hn := hR.night
  have hst := hR.start
  have hspd := hR.speed
  refine CallA_v (la80 c.lamp hR) rfl rfl ?_
  conv => whnf
  refine LoopA_p (T := tys) tysOk (by exact drawsB_spec mixed tysOk (by decide +kernel)) (α := Nat × (Int × (Int × (Nat × List Bool))))
    (fun x => ⟨[(2, .ptr 2 0), (3, .ptr 3 0), (4, .sl 48 1 0 x.2.2.2.2.length), (5, .d (.ref (lampC c.lamp))), (6, .d (i64 x.2.1)), (7, .d (i64 x.2.2.1)), (8, .d (i64 x.2.2.2.1)), (19, .d (i64 c.lamp.night)), (20, .d (i64 x.1))], [(2, .box (.dd c.cells)), (3, .box (.dd t.cells)), (48, .arr 1 (.dd (x.2.2.2.2.map fun b => [D.bool b])))], st⟩)
    (fun x => (x.1 : Int) ≤ c.lamp.night ∧ (0 ≤ x.2.1 ∧ x.2.1 < c.lamp.drum) ∧ (0 ≤ x.2.2.1 ∧ x.2.2.1 ≤ x.1) ∧ x.2.2.2.1 ≤ c.windings.length ∧ x.2.2.2.2.length = x.1 ∧ courseL c.lamp c.windings t = x.2.2.2.2 ++ courseF c.lamp c.windings t.speeds (c.lamp.night.toNat - x.1) x.1 x.2.1 x.2.2.1 x.2.2.2.1)
    (fun x => c.lamp.night.toNat - x.1) (0, (t.start, (0, (0, [])))) ?wk ?pr ?_
  case wk => exact ((Wk.born 4 48 1 rfl rfl rfl).trans (Wk.sub ⟨(by first | rfl | (simp only [List.length_map]; rfl) | simp [PX.get]), (by first | rfl | (simp only [List.length_map]; rfl) | simp [PX.get]), (by first | rfl | (simp only [List.length_map]; rfl) | simp [PX.get]), (by first | rfl | (simp only [List.length_map]; rfl) | simp [PX.get]), (by first | rfl | (simp only [List.length_map]; rfl) | simp [PX.get]), (by first | rfl | (simp only [List.length_map]; rfl) | simp [PX.get]), (by first | rfl | (simp only [List.length_map]; rfl) | simp [PX.get]), (by first | rfl | (simp only [List.length_map]; rfl) | simp [PX.get]), (by first | rfl | (simp only [List.length_map]; rfl) | simp [PX.get]), trivial⟩ ⟨(by first | rfl | (simp only [List.length_map]; rfl) | simp [PX.get]), (by first | rfl | (simp only [List.length_map]; rfl) | simp [PX.get]), (by first | rfl | (simp only [List.length_map]; rfl) | simp [PX.get]), trivial⟩))
  case pr =>
    have hts := hT.start
    refine ⟨by simp only; omega, by simp only; omega, by simp only; omega, Nat.zero_le _, rfl, ?_⟩
    simp only [courseL, List.nil_append, Nat.sub_zero]; rfl
  rintro ⟨s, a, b, n, acc⟩ ⟨h1, h2, h3, h4, h5, h6⟩
  simp only at h1 h2 h3 h4 h5 h6
  have hslen := hT.len
  have hspn : ∀ m : Nat, m ≤ c.windings.length → 1 ≤ t.speeds.getD m 0 ∧ t.speeds.getD m 0 ≤ 40 := by
    intro m hm
    have hml : m < t.speeds.length := by omega
    have e : t.speeds.getD m 0 = t.speeds[m] := by simp [List.getD_eq_getElem?_getD, hml]
    have := hT.speed _ (List.getElem_mem hml)
    rw [e]; omega
  have hspg : ∀ m : Nat, m ≤ c.windings.length → (t.speeds.map fun n => [i64 n])[m]? = some [i64 (t.speeds.getD m 0)] := by
    intro m hm
    have hml : m < t.speeds.length := by omega
    simp [List.getD_eq_getElem?_getD, hml]
  conv => whnf
  refine brk_i (fun h7 => ?_) (fun h7 => ?_)
  case refine_2 =>
    have h7 : ¬ (s : Int) < c.lamp.night := by have := of_decide_eq_false h7; simpa using this
    rw [show c.lamp.night.toNat - s = 0 by omega, courseF, List.append_nil] at h6
    conv => whnf
    rw [h6]
    exact RetA_sl rfl (by simp) ⟨⟨rfl, rfl⟩, rfl⟩
  have h7 : (s : Int) < c.lamp.night := by have := of_decide_eq_true h7; simpa using this
  obtain ⟨k, hk⟩ : ∃ k, c.lamp.night.toNat - s = k + 1 := ⟨c.lamp.night.toNat - s - 1, by omega⟩
  have hk2 : c.lamp.night.toNat - (s + 1) = k := by omega
  rw [hk, courseF] at h6
  have hs1 : ((s : Int) + 1) = ((s + 1 : Nat) : Int) := by omega
  conv => whnf
  refine brk_i (fun h8 => ?_) (fun h8 => ?_)
  · have h8 : n < c.windings.length := by have := of_decide_eq_true h8; simp at this; omega
    conv => whnf
    refine elemK_i [i64 c.windings[n]] ⟨by omega, by simp [h8]⟩ ?_
    conv => whnf
    refine brk_i (fun h9 => ?_) (fun h9 => ?_)
    · have h9 : c.windings[n] = s := by simpa using h9
      rw [if_pos (by simp [h8, h9])] at h6
      conv => whnf
      refine arith_to (((n + 1 : Nat) : Int)) (by (try dsimp only); omega) (wrap_i64 (by (try dsimp only); omega)) ?_
      conv => whnf
      refine chk_i (by simp; omega) ?_
      conv => whnf
      refine lampC_at c.lamp (a := a) (by omega) rfl ?_
      conv => whnf
      refine ownK_whole rfl ?_
      conv => whnf
      refine ownK_whole (by simp [Els.len]) ?_
      conv => whnf
      refine chk_i (decide_eq_true (by
        show ((acc.map fun b => [D.bool b]).length + 1) * 1 ≤ 140737488355328
        rw [List.length_map]; omega)) ?_
      conv => whnf
      refine elemK_i [i64 (t.speeds.getD (n + 1) 0)] ⟨by omega, hspg (n + 1) (by omega)⟩ ?_
      conv => whnf
      refine arith_to (0) (by first | omega | (dsimp only; done) | (dsimp only; omega)) (wrap_i64 (by (try dsimp only); omega)) ?_
      conv => whnf
      refine CallA_v (la110 c.lamp hR a (t.speeds.getD (n + 1) 0) (0) h2 (by have := hspn (n + 1) (by omega); omega) (by omega)) rfl rfl ?_
      conv => whnf
      refine arith_to ((s + 1 : Nat) : Int) (by omega) (wrap_i64 (by omega)) ?_
      conv => whnf
      refine ⟨(s + 1, (nextF c.lamp a (t.speeds.getD (n + 1) 0) (0), ((s : Int), (n + 1, acc ++ [openB c.lamp a])))), by simp only; omega, ⟨by simp only; omega, nextF_bd hR _ _ _, by simp only; omega, by simp only; omega, by simp [h5], ?_⟩, Wk.sub ⟨rfl, rfl, ?_, rfl, rfl, rfl, rfl, rfl, rfl, trivial⟩ ⟨rfl, rfl, ?_, trivial⟩⟩
      · simp only [hk2]
        rw [h6, List.append_assoc]
        rfl
      · simp [PX.get, Els.len]
      · simp [PX.get, Els.app]
    · have h9 : ¬ c.windings[n] = s := by simpa using h9
      rw [if_neg (by simp [h8, h9])] at h6
      conv => whnf
      refine chk_i (by simp; omega) ?_
      conv => whnf
      refine lampC_at c.lamp (a := a) (by omega) rfl ?_
      conv => whnf
      refine ownK_whole rfl ?_
      conv => whnf
      refine ownK_whole (by simp [Els.len]) ?_
      conv => whnf
      refine chk_i (decide_eq_true (by
        show ((acc.map fun b => [D.bool b]).length + 1) * 1 ≤ 140737488355328
        rw [List.length_map]; omega)) ?_
      conv => whnf
      refine elemK_i [i64 (t.speeds.getD (n) 0)] ⟨by omega, hspg (n) (by omega)⟩ ?_
      conv => whnf
      refine arith_to (s - b) (by first | omega | (dsimp only; done) | (dsimp only; omega)) (wrap_i64 (by (try dsimp only); omega)) ?_
      conv => whnf
      refine CallA_v (la110 c.lamp hR a (t.speeds.getD (n) 0) (s - b) h2 (by have := hspn (n) (by omega); omega) (by omega)) rfl rfl ?_
      conv => whnf
      refine arith_to ((s + 1 : Nat) : Int) (by omega) (wrap_i64 (by omega)) ?_
      conv => whnf
      refine ⟨(s + 1, (nextF c.lamp a (t.speeds.getD (n) 0) (s - b), (b, (n, acc ++ [openB c.lamp a])))), by simp only; omega, ⟨by simp only; omega, nextF_bd hR _ _ _, by simp only; omega, by simp only; omega, by simp [h5], ?_⟩, Wk.sub ⟨rfl, rfl, ?_, rfl, rfl, rfl, rfl, rfl, rfl, trivial⟩ ⟨rfl, rfl, ?_, trivial⟩⟩
      · simp only [hk2]
        rw [h6, List.append_assoc]
        rfl
      · simp [PX.get, Els.len]
      · simp [PX.get, Els.app]
  · have h8 : ¬ n < c.windings.length := by have := of_decide_eq_false h8; simp at this; omega
    rw [if_neg (by rw [List.getElem?_eq_none (by omega)]; simp)] at h6
    conv => whnf
    refine chk_i (by simp; omega) ?_
    conv => whnf
    refine lampC_at c.lamp (a := a) (by omega) rfl ?_
    conv => whnf
    refine ownK_whole rfl ?_
    conv => whnf
    refine ownK_whole (by simp [Els.len]) ?_
    conv => whnf
    refine chk_i (decide_eq_true (by
      show ((acc.map fun b => [D.bool b]).length + 1) * 1 ≤ 140737488355328
      rw [List.length_map]; omega)) ?_
    conv => whnf
    refine elemK_i [i64 (t.speeds.getD (n) 0)] ⟨by omega, hspg (n) (by omega)⟩ ?_
    conv => whnf
    refine arith_to (s - b) (by first | omega | (dsimp only; done) | (dsimp only; omega)) (wrap_i64 (by (try dsimp only); omega)) ?_
    conv => whnf
    refine CallA_v (la110 c.lamp hR a (t.speeds.getD (n) 0) (s - b) h2 (by have := hspn (n) (by omega); omega) (by omega)) rfl rfl ?_
    conv => whnf
    refine arith_to ((s + 1 : Nat) : Int) (by omega) (wrap_i64 (by omega)) ?_
    conv => whnf
    refine ⟨(s + 1, (nextF c.lamp a (t.speeds.getD (n) 0) (s - b), (b, (n, acc ++ [openB c.lamp a])))), by simp only; omega, ⟨by simp only; omega, nextF_bd hR _ _ _, by simp only; omega, by simp only; omega, by simp [h5], ?_⟩, Wk.sub ⟨rfl, rfl, ?_, rfl, rfl, rfl, rfl, rfl, rfl, trivial⟩ ⟨rfl, rfl, ?_, trivial⟩⟩
    · simp only [hk2]
      rw [h6, List.append_assoc]
      rfl
    · simp [PX.get, Els.len]
    · simp [PX.get, Els.app]
end Go.PX

namespace Go.PX
open Go.Proofs Go.RowKit Go.ChangeShapes

theorem c3 : Try.prog.cellsOf 3 = 1 := by kernel_rfl
theorem c4 : Try.prog.cellsOf 4 = 1 := by kernel_rfl
theorem c9 : Try.prog.cellsOf 9 = 1 := by kernel_rfl
theorem c22 : Try.prog.cellsOf 22 = 1 := by kernel_rfl
theorem c24 : Try.prog.cellsOf 24 = 2 := by kernel_rfl
theorem c26 : Try.prog.cellsOf 26 = 8 := by kernel_rfl
theorem c27 : Try.prog.cellsOf 27 = 1 := by kernel_rfl
theorem c28 : Try.prog.cellsOf 28 = 1 := by kernel_rfl
theorem c30 : Try.prog.cellsOf 30 = 10 := by kernel_rfl
theorem c33 : Try.prog.cellsOf 33 = 2 := by kernel_rfl
theorem c51 : Try.prog.cellsOf 51 = 1 := by kernel_rfl
theorem c53 : Try.prog.cellsOf 53 = 2 := by kernel_rfl
theorem c76 : Try.prog.cellsOf 76 = 2 := by kernel_rfl
theorem c93 : Try.prog.cellsOf 93 = 4 := by kernel_rfl

theorem RepDL.one {F : Nat → Nat} {w : World} {d : D} {v : Value} (h : RepDL F w [d] [v]) : RepD F w d v := by
  obtain ⟨x, l', h1, hd, hl⟩ := h
  cases h1
  exact hd

section
variable (W : World)
theorem rdInt : Rd Try.prog W 3 fun ds => ∃ n, ds = [i64 n] := Rd.int Try.underlying3
theorem rdStr : Rd Try.prog W 9 fun ds => ∃ s, ds = [.str s] := Rd.str Try.underlying9
theorem rdBool : Rd Try.prog W 4 fun ds => ∃ s, ds = [.bool s] := Rd.bool Try.underlying4

theorem rdInts : Rd Try.prog W 27 fun ds => ∃ l : List Int, ds = [intsD l] :=
  (Rd.slice Try.underlying27 c3 (by omega) (rdInt W)).mono fun ds h => by
    obtain ⟨es, rfl, he⟩ := h
    obtain ⟨l, rfl⟩ := list_of (f := fun n => [i64 n]) (fun _ h => h) he
    exact ⟨l, rfl⟩

theorem rdSpan : Rd Try.prog W 24 fun ds => ∃ s : Span, ds = s.cells :=
  (Rd.struct Try.underlying24 c24 (.cons rfl c3 (rdInt W) (.cons rfl c3 (rdInt W) (.nil _)))).mono fun ds h => by
    obtain ⟨_, _, rfl, ⟨a, rfl⟩, _, _, rfl, ⟨b, rfl⟩, rfl⟩ := h
    exact ⟨⟨a, b⟩, rfl⟩

theorem rdSpans : Rd Try.prog W 22 fun ds => ∃ l : List Span, ds = [spansD l] :=
  (Rd.slice Try.underlying22 c24 (by omega) (rdSpan W)).mono fun ds h => by
    obtain ⟨es, rfl, he⟩ := h
    obtain ⟨l, rfl⟩ := list_of (f := Span.cells) (fun _ h => h) he
    exact ⟨l, rfl⟩

theorem rdSight : Rd Try.prog W 76 fun ds => ∃ s : LSight, ds = s.cells :=
  (Rd.struct Try.underlying76 c76 (.cons rfl c3 (rdInt W) (.cons rfl c4 (rdBool W) (.nil _)))).mono fun ds h => by
    obtain ⟨_, _, rfl, ⟨a, rfl⟩, _, _, rfl, ⟨b, rfl⟩, rfl⟩ := h
    exact ⟨⟨a, b⟩, rfl⟩

theorem rdSights : Rd Try.prog W 28 fun ds => ∃ l : List LSight, ds = [sightsD l] :=
  (Rd.slice Try.underlying28 c76 (by omega) (rdSight W)).mono fun ds h => by
    obtain ⟨es, rfl, he⟩ := h
    obtain ⟨l, rfl⟩ := list_of (f := LSight.cells) (fun _ h => h) he
    exact ⟨l, rfl⟩

theorem rdLamp : Rd Try.prog W 26 fun ds => ∃ x : LLamp, ds = x.cells :=
  (Rd.struct Try.underlying26 c26 (.cons rfl c3 (rdInt W) (.cons rfl c22 (rdSpans W) (.cons rfl c24 (rdSpan W) (.cons rfl c24 (rdSpan W) (.cons rfl c3 (rdInt W) (.cons rfl c3 (rdInt W) (.nil _)))))))).mono fun ds h => by
    obtain ⟨_, _, rfl, ⟨a, rfl⟩, _, _, rfl, ⟨b, rfl⟩, _, _, rfl, ⟨c, rfl⟩, _, _, rfl, ⟨d, rfl⟩, _, _, rfl, ⟨e, rfl⟩, _, _, rfl, ⟨f, rfl⟩, rfl⟩ := h
    exact ⟨⟨a, b, c, d, e, f⟩, rfl⟩

theorem rdCase : Rd Try.prog W 30 fun ds => ∃ c : LCase, ds = c.cells :=
  (Rd.struct Try.underlying30 c30 (.cons rfl c26 (rdLamp W) (.cons rfl c27 (rdInts W) (.cons rfl c28 (rdSights W) (.nil _))))).mono fun ds h => by
    obtain ⟨_, _, rfl, ⟨a, rfl⟩, _, _, rfl, ⟨b, rfl⟩, _, _, rfl, ⟨c, rfl⟩, rfl⟩ := h
    exact ⟨⟨a, b, c⟩, rfl⟩

theorem rdPhase : Rd Try.prog W 93 fun ds => ∃ s : LPhase, ds = s.cells :=
  (Rd.struct Try.underlying93 c93 (.cons rfl c24 (rdSpan W) (.cons rfl c24 (rdSpan W) (.nil _)))).mono fun ds h => by
    obtain ⟨_, _, rfl, ⟨a, rfl⟩, _, _, rfl, ⟨b, rfl⟩, rfl⟩ := h
    exact ⟨⟨a, b⟩, rfl⟩

theorem rdPhases : Rd Try.prog W 51 fun ds => ∃ l : List LPhase, ds = [phasesD l] :=
  (Rd.slice Try.underlying51 c93 (by omega) (rdPhase W)).mono fun ds h => by
    obtain ⟨es, rfl, he⟩ := h
    obtain ⟨l, rfl⟩ := list_of (f := LPhase.cells) (fun _ h => h) he
    exact ⟨l, rfl⟩

theorem rdLight : Rd Try.prog W 53 fun ds => ∃ x : LLight, ds = x.cells :=
  (Rd.struct Try.underlying53 c53 (.cons rfl c9 (rdStr W) (.cons rfl c51 (rdPhases W) (.nil _)))).mono fun ds h => by
    obtain ⟨_, _, rfl, ⟨a, rfl⟩, _, _, rfl, ⟨b, rfl⟩, rfl⟩ := h
    exact ⟨⟨a, b⟩, rfl⟩

theorem rdLights : Rd Try.prog W 31 fun ds => ∃ l : List LLight, ds = [lightsD l] :=
  (Rd.slice Try.underlying31 c53 (by omega) (rdLight W)).mono fun ds h => by
    obtain ⟨es, rfl, he⟩ := h
    obtain ⟨l, rfl⟩ := list_of (f := LLight.cells) (fun _ h => h) he
    exact ⟨l, rfl⟩

theorem rdTruth : Rd Try.prog W 33 fun ds => ∃ t : LTruth, ds = t.cells :=
  (Rd.struct Try.underlying33 c33 (.cons rfl c3 (rdInt W) (.cons rfl c27 (rdInts W) (.nil _)))).mono fun ds h => by
    obtain ⟨_, _, rfl, ⟨a, rfl⟩, _, _, rfl, ⟨b, rfl⟩, rfl⟩ := h
    exact ⟨⟨a, b⟩, rfl⟩
end
end Go.PX

namespace Go.PX
open Go.Proofs

/- Lamp: the reference: the error of a lamp. -/

def narrowF (s : Span) (lo hi wide : Int) : Int := if spread lo hi [s] 0 = 0 then (if s.hi - s.lo > wide then 2 else 0) else spread lo hi [s] 0

theorem spread1 {s : Span} {lo hi : Int} : spread lo hi [s] 0 = if inB s.lo lo hi && inB s.hi lo hi then (if s.lo > s.hi then 2 else 0) else 7 := rfl

theorem la104 (s : Span) (lo hi wide : Int) (h : -1000000 ≤ lo ∧ hi ≤ 1000000) : FnV Try.prog 104 [s.d, i64 lo, i64 hi, i64 wide] (i64 (narrowF s lo hi wide)) := by
  refine fnV_of mixed tysOk Try.func104 rfl (ft := ft104) 4 (by decide +kernel) (by rfl) fun {σ} Y st => ?_
  conv => whnf
  refine CallA_v (fn90 s lo hi) rfl rfl ?_
  conv => whnf
  unfold narrowF
  refine brk_i (fun h0 => ?_) (fun h0 => ?_)
  · have h0 : spread lo hi [s] 0 = 0 := by simpa using h0
    rw [if_pos h0]
    have hb : inB s.lo lo hi = true ∧ inB s.hi lo hi = true := by
      rw [spread1] at h0
      split at h0
      · rename_i h1; simpa using h1
      · cases h0
    rw [inB_iff, inB_iff] at hb
    refine arith_to (s.hi - s.lo) (by simp) (wrap_i64 (by omega)) ?_
    conv => whnf
    refine brk_i (fun h1 => ?_) (fun h1 => ?_)
    · have h1 : s.hi - s.lo > wide := by simpa using h1
      rw [if_pos h1]
      conv => whnf
      exact RetA_view 0 rfl ⟨⟨rfl, rfl⟩, rfl⟩
    · have h1 : ¬ s.hi - s.lo > wide := by simpa using h1
      rw [if_neg h1]
      conv => whnf
      rw [h0]
      exact RetA_view 0 rfl ⟨⟨rfl, rfl⟩, rfl⟩
  · have h0 : ¬ spread lo hi [s] 0 = 0 := by simpa using h0
    rw [if_neg h0]
    conv => whnf
    exact RetA_view 0 rfl ⟨⟨rfl, rfl⟩, rfl⟩

theorem narrow_eq (s : Span) (lo hi wide : Int) : narrowF s lo hi wide = if inB s.lo lo hi && inB s.hi lo hi then (if inB (s.hi - s.lo) 0 wide then 0 else 2) else 7 := by
  unfold narrowF
  rw [spread1]
  by_cases h1 : (inB s.lo lo hi && inB s.hi lo hi) = true
  · rw [if_pos h1, if_pos h1]
    by_cases h2 : s.lo > s.hi
    · have : ¬ inB (s.hi - s.lo) 0 wide = true := by rw [inB_iff]; omega
      rw [if_pos h2, if_neg this]; rfl
    · rw [if_neg h2, if_pos rfl]
      by_cases h3 : s.hi - s.lo > wide
      · have : ¬ inB (s.hi - s.lo) 0 wide = true := by rw [inB_iff]; omega
        rw [if_pos h3, if_neg this]
      · have : inB (s.hi - s.lo) 0 wide = true := by rw [inB_iff]; omega
        rw [if_neg h3, if_pos this]
  · rw [if_neg h1, if_neg h1]; rfl

theorem litF_at {drum : Int} {l : List Span} {i : Nat} {x : Span} {r : List Span} {last : Int} (h : litF drum (-1) l 0 = litF drum last (x :: r) i) : litF drum (-1) l 0 = if inB x.lo 0 (drum - 1) && inB x.hi 0 (drum - 1) then (if x.lo > x.hi || x.lo ≤ last then ((i : Int), 2) else litF drum x.hi r (i + 1)) else ((i : Int), 7) := by
  rw [h, litF]

/-- The error of an opening, as the reference looks at it. -/
def sectE (drum last : Int) (x : Span) : Int := if inB x.lo 0 (drum - 1) && inB x.hi 0 (drum - 1) then (if x.lo > x.hi || x.lo ≤ last then 2 else 0) else 7

theorem litF_step {drum last : Int} {x : Span} {r : List Span} {i : Int} : litF drum last (x :: r) i = if sectE drum last x = 0 then litF drum x.hi r (i + 1) else (i, sectE drum last x) := by
  rw [litF, sectE]
  split
  · split <;> simp
  · simp

theorem la62 (x : LLamp) : FnV Try.prog 62 [x.d] (tri (wheelF x)) := by
  refine fnV_of mixed tysOk Try.func62 rfl (ft := ft62) 1 (by decide +kernel) (by rfl) fun {σ} Y st => ?_
  conv => whnf
  refine CallA_v (fn55 x.drum 2 120) rfl rfl ?_
  conv => whnf
  unfold wheelF
  cases h1 : inB x.drum 2 120 with
  | false =>
    conv => whnf
    exact RetA_view 0 rfl ⟨⟨rfl, rfl⟩, rfl⟩
  | true =>
  conv => whnf
  refine CallA_v (fn55 x.slow 1 200) rfl rfl ?_
  conv => whnf
  cases h2 : inB x.slow 1 200 with
  | false =>
    conv => whnf
    exact RetA_view 0 rfl ⟨⟨rfl, rfl⟩, rfl⟩
  | true =>
  conv => whnf
  refine CallA_v (fn55 x.night 1 200) rfl rfl ?_
  conv => whnf
  cases h3 : inB x.night 1 200 with
  | false =>
    conv => whnf
    exact RetA_view 0 rfl ⟨⟨rfl, rfl⟩, rfl⟩
  | true =>
  simp only [Bool.and_self, if_true]
  rw [inB_iff] at h1 h2 h3
  conv => whnf
  refine brk_i (fun h4 => ?_) (fun h4 => ?_)
  · have h4 : 4 < x.lit.length := by have := of_decide_eq_true h4; simp at this; omega
    rw [if_pos h4]
    conv => whnf
    exact RetA_view 0 rfl ⟨⟨rfl, rfl⟩, rfl⟩
  have h4 : ¬ 4 < x.lit.length := by have := of_decide_eq_false h4; simp at this; omega
  rw [if_neg h4]
  conv => whnf
  refine LoopA_i (T := tys) tysOk (by exact drawsB_spec mixed tysOk (by decide +kernel)) x.lit (fun i (last : Int) => ⟨[(1, .ptr 1 0), (5, .d (i64 i))], [(1, .box (.dd x.cells))], st⟩)
    (fun i r last => litF x.drum (-1) x.lit 0 = litF x.drum last r i ∧ (i = 0 ∧ last = -1 ∨ 0 < i ∧ ∃ y, x.lit[i - 1]? = some y ∧ last = y.hi)) (-1) (Wk.sub ⟨(by first | rfl | (simp only [List.length_map]; rfl) | simp [PX.get]), (by first | rfl | (simp only [List.length_map]; rfl) | simp [PX.get]), trivial⟩ ⟨(by first | rfl | (simp only [List.length_map]; rfl) | simp [PX.get]), trivial⟩) ⟨rfl, .inl ⟨rfl, rfl⟩⟩ ?_ ?_
  · intro i y r last hx hi hr ⟨he, hla⟩
    rw [litF_step] at he
    have hnext : (i + 1 = 0 ∧ y.hi = -1 ∨ 0 < i + 1 ∧ ∃ z, x.lit[i + 1 - 1]? = some z ∧ y.hi = z.hi) := .inr ⟨by omega, y, by rw [Nat.add_sub_cancel]; exact hx, rfl⟩
    conv => whnf
    refine brk_i (fun _ => ?_) (fun h => absurd hi (by simpa using h))
    conv => whnf
    refine elemK_nat hx ?_
    conv => whnf
    refine arith_in (wrap_i64 (by (try dsimp only); omega)) ?_
    conv => whnf
    refine DrawCall_v (fn90 y 0 (x.drum - 1)) rfl rfl ?_
    conv => whnf
    rw [spread1]
    by_cases h5 : (inB y.lo 0 (x.drum - 1) && inB y.hi 0 (x.drum - 1)) = true
    case neg =>
      have ho : sectE x.drum last y = 7 := by unfold sectE; rw [if_neg h5]
      rw [ho, if_neg (by decide)] at he
      rw [if_neg h5]
      conv => whnf
      rw [he]
      exact RetA_view 0 rfl ⟨⟨rfl, rfl⟩, rfl⟩
    rw [if_pos h5]
    by_cases h6 : y.lo > y.hi
    · have ho : sectE x.drum last y = 2 := by unfold sectE; rw [if_pos h5, if_pos (by simp [h6])]
      rw [ho, if_neg (by decide)] at he
      rw [if_pos h6]
      conv => whnf
      rw [he]
      exact RetA_view 0 rfl ⟨⟨rfl, rfl⟩, rfl⟩
    rw [if_neg h6]
    conv => whnf
    refine brk_i (fun h7 => ?_) (fun h7 => ?_)
    · have h7 : 0 < i := by simpa using h7
      rcases hla with ⟨h0, _⟩ | ⟨_, z, hz, hzl⟩
      · omega
      subst hzl
      conv => whnf
      refine elemK_nat hx ?_
      conv => whnf
      refine arith_to ((i - 1 : Nat) : Int) (by omega) (wrap_i64 (by omega)) ?_
      conv => whnf
      refine elemK_nat hz ?_
      conv => whnf
      refine brk_i (fun h8 => ?_) (fun h8 => ?_)
      · have h8 : y.lo ≤ z.hi := by simpa using h8
        have ho : sectE x.drum z.hi y = 2 := by unfold sectE; rw [if_pos h5, if_pos (by simp [h8])]
        rw [ho, if_neg (by decide)] at he
        conv => whnf
        rw [he]
        exact RetA_view 0 rfl ⟨⟨rfl, rfl⟩, rfl⟩
      · have h8 : ¬ y.lo ≤ z.hi := by simpa using h8
        have ho : sectE x.drum z.hi y = 0 := by unfold sectE; rw [if_pos h5, if_neg (by simp [h8, h6])]
        rw [ho, if_pos rfl] at he
        conv => whnf
        refine arith_in (wrap_i64 (by (try dsimp only); omega)) ?_
        conv => whnf
        exact ⟨y.hi, ⟨he, hnext⟩, (Wk.sub ⟨(by first | rfl | (simp only [List.length_map]; rfl) | simp [PX.get]), (by first | rfl | (simp only [List.length_map]; rfl) | simp [PX.get]), trivial⟩ ⟨(by first | rfl | (simp only [List.length_map]; rfl) | simp [PX.get]), trivial⟩)⟩
    · have h7 : i = 0 := by have := of_decide_eq_false h7; omega
      rcases hla with ⟨_, hl⟩ | ⟨h0, _⟩
      · have h5' := h5
        simp only [Bool.and_eq_true, inB_iff] at h5'
        have ho : sectE x.drum last y = 0 := by unfold sectE; rw [if_pos h5, if_neg (by simp [h6]; omega)]
        rw [ho, if_pos rfl] at he
        conv => whnf
        refine arith_in (wrap_i64 (by (try dsimp only); omega)) ?_
        conv => whnf
        exact ⟨y.hi, ⟨he, hnext⟩, (Wk.sub ⟨(by first | rfl | (simp only [List.length_map]; rfl) | simp [PX.get]), (by first | rfl | (simp only [List.length_map]; rfl) | simp [PX.get]), trivial⟩ ⟨(by first | rfl | (simp only [List.length_map]; rfl) | simp [PX.get]), trivial⟩)⟩
      · omega
  · intro last ⟨he, _⟩
    rw [litF] at he
    rw [he]
    simp only [if_true]
    conv => whnf
    refine brk_i (fun h => absurd h (by simp)) (fun _ => ?_)
    conv => whnf
    refine arith_in (wrap_i64 (by (try dsimp only); omega)) ?_
    conv => whnf
    refine DrawCall_v (la104 x.start 0 (x.drum - 1) 12 (by omega)) rfl rfl ?_
    conv => whnf
    refine DrawCall_v (la104 x.speed 1 40 4 (by omega)) rfl rfl ?_
    conv => whnf
    have ht : (if (inB x.start.lo 0 (x.drum - 1) && inB x.start.hi 0 (x.drum - 1)) && (inB x.speed.lo 1 40 && inB x.speed.hi 1 40) then
        (if inB (x.start.hi - x.start.lo) 0 12 && inB (x.speed.hi - x.speed.lo) 0 4 then ((0, 0, 0) : Int × Int × Int) else (3, 0, 2)) else (3, 0, 7)) =
        if narrowF x.start 0 (x.drum - 1) 12 = 7 ∨ narrowF x.speed 1 40 4 = 7 then (3, 0, 7) else if narrowF x.start 0 (x.drum - 1) 12 ≠ 0 ∨ narrowF x.speed 1 40 4 ≠ 0 then (3, 0, 2) else (0, 0, 0) := by
      rw [narrow_eq, narrow_eq]
      by_cases q1 : (inB x.start.lo 0 (x.drum - 1) && inB x.start.hi 0 (x.drum - 1)) = true <;> by_cases q2 : (inB x.speed.lo 1 40 && inB x.speed.hi 1 40) = true <;>
        by_cases q3 : inB (x.start.hi - x.start.lo) 0 12 = true <;> by_cases q4 : inB (x.speed.hi - x.speed.lo) 0 4 = true <;> simp [q1, q2, q3, q4]
    rw [ht]
    generalize narrowF x.start 0 (x.drum - 1) 12 = A
    generalize narrowF x.speed 1 40 4 = B
    by_cases hA7 : A = 7
    · rw [if_pos (.inl hA7)]
      rw [decide_eq_true hA7]
      conv => whnf
      exact RetA_view 0 rfl ⟨⟨rfl, rfl⟩, rfl⟩
    rw [decide_eq_false hA7]
    conv => whnf
    by_cases hB7 : B = 7
    · rw [if_pos (.inr hB7)]
      rw [decide_eq_true hB7]
      conv => whnf
      exact RetA_view 0 rfl ⟨⟨rfl, rfl⟩, rfl⟩
    rw [decide_eq_false hB7, if_neg (fun h => h.elim hA7 hB7)]
    conv => whnf
    by_cases hA0 : A = 0
    case neg =>
      rw [if_pos (.inl hA0), decide_eq_false hA0]
      conv => whnf
      exact RetA_view 0 rfl ⟨⟨rfl, rfl⟩, rfl⟩
    rw [decide_eq_true hA0]
    conv => whnf
    by_cases hB0 : B = 0
    case neg =>
      rw [if_pos (.inr hB0), decide_eq_false hB0]
      conv => whnf
      exact RetA_view 0 rfl ⟨⟨rfl, rfl⟩, rfl⟩
    rw [decide_eq_true hB0, if_neg (fun h => h.elim (fun h => h hA0) (fun h => h hB0))]
    conv => whnf
    exact RetA_view 0 rfl ⟨⟨rfl, rfl⟩, rfl⟩
end Go.PX

namespace Go.PX
open Go.Proofs

/- Lamp: the reference: Check. -/

set_option maxHeartbeats 1000000 in
theorem la16 (c : LCase) : FnV Try.prog 16 [c.d] (tri (checkL c)) := by
  refine fnV_of mixed tysOk Try.func16 rfl (ft := ft16) 1 (by decide +kernel) (by rfl) fun {σ} Y st => ?_
  conv => whnf
  refine CallA_v (la62 c.lamp) rfl rfl ?_
  conv => whnf
  unfold checkL
  refine brk_i (fun h1 => ?_) (fun h1 => ?_)
  · have h1 : ¬ (wheelF c.lamp).2.2 = 0 := by simpa using h1
    conv => whnf
    rw [if_neg h1]
    exact RetA_view 0 rfl ⟨⟨rfl, rfl⟩, rfl⟩
  have h1 : (wheelF c.lamp).2.2 = 0 := by simpa using h1
  rw [if_pos h1]
  have hR := wheel_ok h1
  have hn := hR.night
  conv => whnf
  refine arith_in (wrap_i64 (by (try dsimp only); omega)) ?_
  conv => whnf
  refine brk_i (fun h2 => ?_) (fun h2 => ?_)
  · have h2 : 2 < c.windings.length := by have := of_decide_eq_true h2; simp at this; omega
    conv => whnf
    rw [if_pos h2]
    exact RetA_view 0 rfl ⟨⟨rfl, rfl⟩, rfl⟩
  have h2 : ¬ 2 < c.windings.length := by have := of_decide_eq_false h2; simp at this; omega
  rw [if_neg h2]
  conv => whnf
  refine LoopA_i (T := tys) tysOk (by exact drawsB_spec mixed tysOk (by decide +kernel)) c.windings (fun i (last : Int) => ⟨[(1, .ptr 1 0), (8, .d (i64 (c.lamp.night - 1))), (9, .d (i64 i))], [(1, .box (.dd c.cells))], st⟩)
    (fun i r last => windF c.lamp.night 0 c.windings 0 = windF c.lamp.night last r i ∧ (i = 0 ∧ last = 0 ∨ 0 < i ∧ c.windings[i - 1]? = some last)) 0 (Wk.sub ⟨(by first | rfl | (simp only [List.length_map]; rfl) | simp [PX.get]), (by first | rfl | (simp only [List.length_map]; rfl) | simp [PX.get]), (by first | rfl | (simp only [List.length_map]; rfl) | simp [PX.get]), trivial⟩ ⟨(by first | rfl | (simp only [List.length_map]; rfl) | simp [PX.get]), trivial⟩) ⟨rfl, .inl ⟨rfl, rfl⟩⟩ ?_ ?_
  · intro i s r last hx hi hr ⟨he, hla⟩
    rw [windF] at he
    have hnext : (i + 1 = 0 ∧ s = 0 ∨ 0 < i + 1 ∧ c.windings[i + 1 - 1]? = some s) := .inr ⟨by omega, by rw [Nat.add_sub_cancel]; exact hx⟩
    conv => whnf
    refine brk_i (fun _ => ?_) (fun h => absurd hi (by simpa using h))
    conv => whnf
    refine elemK_nat hx ?_
    conv => whnf
    refine CallA_v (fn55 s 1 (c.lamp.night - 1)) rfl rfl ?_
    conv => whnf
    by_cases h3 : inB s 1 (c.lamp.night - 1) = true
    case neg =>
      have h3 : inB s 1 (c.lamp.night - 1) = false := by simpa using h3
      rw [h3] at he ⊢
      rw [if_neg (by simp)] at he
      conv => whnf
      rw [he]
      exact RetA_view 0 rfl ⟨⟨rfl, rfl⟩, rfl⟩
    have h3' := h3
    rw [inB_iff] at h3'
    rw [h3] at he ⊢
    rw [if_pos rfl] at he
    conv => whnf
    refine brk_i (fun h7 => ?_) (fun h7 => ?_)
    · have h7 : 0 < i := by simpa using h7
      rcases hla with ⟨h0, _⟩ | ⟨_, hz⟩
      · omega
      conv => whnf
      refine elemK_nat hx ?_
      conv => whnf
      refine arith_to ((i - 1 : Nat) : Int) (by omega) (wrap_i64 (by omega)) ?_
      conv => whnf
      refine elemK_nat hz ?_
      conv => whnf
      refine brk_i (fun h8 => ?_) (fun h8 => ?_)
      · have h8 : s ≤ last := by simpa using h8
        rw [if_pos h8] at he
        conv => whnf
        rw [he]
        exact RetA_view 0 rfl ⟨⟨rfl, rfl⟩, rfl⟩
      · have h8 : ¬ s ≤ last := by simpa using h8
        rw [if_neg h8] at he
        conv => whnf
        refine arith_in (wrap_i64 (by (try dsimp only); omega)) ?_
        conv => whnf
        exact ⟨s, ⟨he, hnext⟩, (Wk.sub ⟨(by first | rfl | (simp only [List.length_map]; rfl) | simp [PX.get]), (by first | rfl | (simp only [List.length_map]; rfl) | simp [PX.get]), (by first | rfl | (simp only [List.length_map]; rfl) | simp [PX.get]), trivial⟩ ⟨(by first | rfl | (simp only [List.length_map]; rfl) | simp [PX.get]), trivial⟩)⟩
    · have h7 : i = 0 := by have := of_decide_eq_false h7; omega
      rcases hla with ⟨_, hl⟩ | ⟨h0, _⟩
      · rw [if_neg (by omega)] at he
        conv => whnf
        refine arith_in (wrap_i64 (by (try dsimp only); omega)) ?_
        conv => whnf
        exact ⟨s, ⟨he, hnext⟩, (Wk.sub ⟨(by first | rfl | (simp only [List.length_map]; rfl) | simp [PX.get]), (by first | rfl | (simp only [List.length_map]; rfl) | simp [PX.get]), (by first | rfl | (simp only [List.length_map]; rfl) | simp [PX.get]), trivial⟩ ⟨(by first | rfl | (simp only [List.length_map]; rfl) | simp [PX.get]), trivial⟩)⟩
      · omega
  · intro last ⟨he, _⟩
    simp only [windF] at he
    rw [he]
    simp only [if_true]
    conv => whnf
    refine brk_i (fun h => absurd h (by simp)) (fun _ => ?_)
    conv => whnf
    refine brk_i (fun h5 => ?_) (fun h5 => ?_)
    · have h5 : 8 < c.sights.length := by have := of_decide_eq_true h5; simp at this; omega
      conv => whnf
      rw [if_pos h5]
      exact RetA_view 0 rfl ⟨⟨rfl, rfl⟩, rfl⟩
    have h5 : ¬ 8 < c.sights.length := by have := of_decide_eq_false h5; simp at this; omega
    rw [if_neg h5]
    conv => whnf
    refine LoopA_i (T := tys) tysOk (by exact drawsB_spec mixed tysOk (by decide +kernel)) c.sights (fun i (_ : Unit) => ⟨[(1, .ptr 1 0), (8, .d (i64 (c.lamp.night - 1))), (10, .d (i64 i))], [(1, .box (.dd c.cells))], st⟩)
      (fun i r _ => sightF c.lamp.night c.sights 0 = sightF c.lamp.night r i) () (Wk.sub ⟨(by first | rfl | (simp only [List.length_map]; rfl) | simp [PX.get]), (by first | rfl | (simp only [List.length_map]; rfl) | simp [PX.get]), (by first | rfl | (simp only [List.length_map]; rfl) | simp [PX.get]), trivial⟩ ⟨(by first | rfl | (simp only [List.length_map]; rfl) | simp [PX.get]), trivial⟩) rfl ?_ ?_
    · intro i s r _ hx hi hr he
      rw [sightF] at he
      conv => whnf
      refine brk_i (fun _ => ?_) (fun h => absurd hi (by simpa using h))
      conv => whnf
      refine elemK_nat hx ?_
      conv => whnf
      refine CallA_v (fn55 s.second 0 (c.lamp.night - 1)) rfl rfl ?_
      conv => whnf
      by_cases h3 : inB s.second 0 (c.lamp.night - 1) = true
      case neg =>
        have h3 : inB s.second 0 (c.lamp.night - 1) = false := by simpa using h3
        rw [h3] at he ⊢
        rw [if_neg (by simp)] at he
        conv => whnf
        rw [he]
        exact RetA_view 0 rfl ⟨⟨rfl, rfl⟩, rfl⟩
      rw [h3] at he ⊢
      rw [if_pos rfl] at he
      conv => whnf
      refine arith_in (wrap_i64 (by (try dsimp only); omega)) ?_
      conv => whnf
      exact ⟨(), he, (Wk.sub ⟨(by first | rfl | (simp only [List.length_map]; rfl) | simp [PX.get]), (by first | rfl | (simp only [List.length_map]; rfl) | simp [PX.get]), (by first | rfl | (simp only [List.length_map]; rfl) | simp [PX.get]), trivial⟩ ⟨(by first | rfl | (simp only [List.length_map]; rfl) | simp [PX.get]), trivial⟩)⟩
    · intro _ he
      simp only [sightF] at he
      rw [he]
      simp only [if_true]
      conv => whnf
      refine brk_i (fun h => absurd h (by simp)) (fun _ => ?_)
      conv => whnf
      exact RetA_view 0 rfl ⟨⟨rfl, rfl⟩, rfl⟩
end Go.PX
