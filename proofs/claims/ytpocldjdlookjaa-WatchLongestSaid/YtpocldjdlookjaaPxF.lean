import Derived.Test.YtpocldjdlookjaaPxE
import Derived.RangeFuncLeaves
import Derived.RangeFuncRecord
set_option linter.all false
/- PX: regions that draw, all told. -/
namespace Go.PX
open Go.RowKit

structure RecOk (P : Program) (ops : Array Oper) (ots : List OT) (q : Rec) : Prop where
  op : ∃ o t, ops[q.idx]? = some o ∧ ots[q.idx]? = some t ∧ q.prs = t.prs ∧ (∀ x ∈ wSets q.ws, o.dst = some x) ∧ (∀ x v, get q.e x = some v → x ∈ t.ts)
  hk : ∀ x v, get q.h x = some v → x ∈ q.os
  news : newsOk q.ws = true
  snd : OpSnd P ops q

theorem apart_spec {a b : OO} (h : apart a b = true) : disj a.mo b.os = true ∧ disj a.mo b.mo = true ∧ disj b.mo a.os = true ∧ disj b.nw a.men = true := by
  unfold apart at h
  split at h
  · rename_i h1 h2 h3 h4; exact ⟨h1, h2, h3, h4⟩
  · cases h

theorem apartAll_spec {o : OO} {acc : List OO} : ∀ {l : List Nat}, apartAll o acc l = true → ∀ i ∈ l, ∀ p, acc[i]? = some p → apart o p = true
  | [], _, i, hi, _, _ => by cases hi
  | k :: r, h, i, hi, p, hp => by
    simp only [apartAll] at h
    split at h
    case h_2 => cases h
    rename_i p' hp'
    split at h
    case h_2 => cases h
    rename_i hap
    rcases List.mem_cons.1 hi with rfl | hi
    · rw [hp] at hp'; cases hp'; exact hap
    · exact apartAll_spec h i hi p hp

theorem newAll_spec {mk : List Nat} : ∀ {acc : List OO}, newAll mk acc = true → ∀ p ∈ acc, disj mk p.men = true ∧ disj mk p.mo = true
  | [], _, p, hp => by cases hp
  | q :: r, h, p, hp => by
    simp only [newAll] at h
    split at h
    case h_2 => cases h
    rename_i h1 h2
    rcases List.mem_cons.1 hp with rfl | hp
    · exact ⟨h1, h2⟩
    · exact newAll_spec h p hp

theorem disj_symm {l m : List Nat} (h : ∀ x ∈ l, x ∉ m) : ∀ x ∈ m, x ∉ l := fun x hx hl => h x hl hx

theorem key_keep {α : Type} : ∀ (l : List Nat) (t : Tab α) (s : Nat) (u : α), get (keepT l t) s = some u → s ∈ l
  | l, [], s, u, h => by cases h
  | l, (k, v) :: r, s, u, h => by
    simp only [keepT] at h
    split at h
    · rename_i hk
      simp only [get] at h
      split at h
      · rename_i he; have := Nat.eq_of_beq_eq_true he; subst this; exact inL_iff.1 hk
      · exact key_keep l r s u h
    · exact key_keep l r s u h

theorem setsIn_spec {d : Option Nat} : ∀ {ws : List Wr}, setsIn d ws = true → ∀ x ∈ wSets ws, d = some x
  | [], _, x, hx => by cases hx
  | w :: r, h, x, hx => by
    cases w with
    | set s v =>
      simp only [setsIn] at h
      split at h
      case h_2 => cases h
      rename_i k
      split at h
      case h_2 => cases h
      rename_i hk
      simp only [wSets, List.mem_cons] at hx
      rcases hx with rfl | hx
      · rw [Nat.eq_of_beq_eq_true hk]
      · exact setsIn_spec h x hx
    | _ => exact setsIn_spec (ws := r) h x hx

/-- What a guard says, whatever the frame. -/
theorem guardK_u {ops : Array Oper} {e : Env} {guard : Option (Nat × Bool)} {X Z : List Wr → Prop} (hk : guardK ops.toList e guard X Z) :
    ∃ (b : Bool) (ws : List Wr), ((b = true ∧ X ws) ∨ (b = false ∧ Z ws)) ∧ (ws = [] ∨ ∃ d v, ws = [.set d v] ∧ get e d = some v) ∧
      ∀ {σ : Type} {cx : Cx σ} {r : Option Nat} {m : List Nat} {L : Loc} {F : Nat → Nat} {st : St σ} {a : Act} {w : World} {dst : Option Nat} {op : Op} {ty : TypeId} {pos : String} {after : Array Edge},
        SubT e st.env → Good cx r m L F st a w → Region.wanted ⟨dst, op, ty, pos, after, guard⟩ (yielded ops a.tmps) = b := by
  unfold guardK at hk
  split at hk
  · exact ⟨true, [], .inl ⟨rfl, hk⟩, .inl rfl, fun _ _ => rfl⟩
  · rename_i j want
    split at hk
    case h_2 => exact hk.elim
    rename_i d _ _ _ _ _ hj
    have hj' : (ops[j]?).bind (·.dst) = some d := by
      rw [Array.getElem?_toList] at hj
      rw [hj]; rfl
    split at hk
    · rename_i b hb
      have hy : ∀ {σ : Type} {cx : Cx σ} {r : Option Nat} {m : List Nat} {L : Loc} {F : Nat → Nat} {st : St σ} {a : Act} {w : World}, SubT e st.env → Good cx r m L F st a w → yielded ops a.tmps j = some b := by
        intro σ cx r m L F st a w he hg
        obtain ⟨x, hx, hr⟩ := hg.env d _ (he _ _ hb)
        have hr : x = .bool b := hr
        subst hr
        unfold yielded; rw [hj']; simp [hx]
      split at hk
      · rcases brk_t hk with ⟨rfl, hk⟩ | ⟨rfl, hk⟩
        · exact ⟨true, _, .inl ⟨rfl, hk⟩, .inr ⟨d, _, rfl, hb⟩, fun he hg => by simp [Region.wanted, hy he hg]⟩
        · exact ⟨false, _, .inr ⟨rfl, hk⟩, .inr ⟨d, _, rfl, hb⟩, fun he hg => by simp [Region.wanted, hy he hg]⟩
      · rcases brk_t hk with ⟨rfl, hk⟩ | ⟨rfl, hk⟩
        · exact ⟨false, _, .inr ⟨rfl, hk⟩, .inr ⟨d, _, rfl, hb⟩, fun he hg => by simp [Region.wanted, hy he hg]⟩
        · exact ⟨true, _, .inl ⟨rfl, hk⟩, .inr ⟨d, _, rfl, hb⟩, fun he hg => by simp [Region.wanted, hy he hg]⟩
    · rename_i hb
      refine ⟨false, [], .inr ⟨rfl, hk⟩, .inl rfl, fun {σ cx r m L F st a w} _ _ _ _ _ he hg => ?_⟩
      obtain ⟨x, hx, l, rfl, hl⟩ := hg.env d _ (he _ _ hb)
      have hy : yielded ops a.tmps j = none := by
        unfold yielded; rw [hj']; simp [hx]
      simp [Region.wanted, hy]
    · exact hk.elim

theorem fs_learn {σ : Type} {e : Env} {h : Heap} {s : σ} {ws : List Wr} (hw : ws = [] ∨ ∃ d v, ws = [.set d v] ∧ get e d = some v) : fsOf (applyWs (⟨e, h, s⟩ : St σ) ws) = ⟨get e, get h⟩ := by
  rcases hw with rfl | ⟨d, v, rfl, hv⟩
  · rfl
  · simp only [fsOf, applyWs, applyW]
    congr 1
    funext x
    rw [get_put]
    split
    · rename_i he; subst he; exact hv.symm
    · rfl

theorem wpD_cons (P : Program) (T : Tys) (made : List Nat) (ops : List Oper) (dst : Option Nat) (op : Op) (ty : TypeId) (pos : String) (after : Array Edge) (guard : Option (Nat × Bool)) (ts prs : List Nat) (l : List (Oper × OT)) (acc : List OO) (e : Env) (h : Heap) (K : Env → Heap → Prop) :
    wpD P T made ops ((⟨dst, op, ty, pos, after, guard⟩, ⟨ts, prs⟩) :: l) acc e h K = (forceN (looksAt op e h ts) fun os => forceE (keepT ts e) fun e' => forceH (keepT os h) fun h' =>
        guardK ops e' guard
          (fun w => 
            let go := fun ws => forceN (wObjs ws) fun mo => forceN (wNews ws) fun mk => forceN (wNames ws) fun men =>
              chk (drawChk dst made acc prs ws ⟨os, mo, mk, men⟩) (applyK w e h fun e h => applyK (toQs ws) e h fun e h => wpD P T made ops l (acc ++ [⟨os, mo, mk, men⟩]) e h K)
            match op with
            | .call ⟨callee, args, tys⟩ => match callee with
              | .builtin b => builtinK T e' h' dst b args tys go
              | .value f => match opnd e' f, opnds e' args.toList with
                | some (.d (.clo g caps)), some l => DrawCall P e' h' dst g (l ++ inj caps) go
                | some (.clo g caps), some l => DrawCall P e' h' dst g (l ++ caps) go
                | _, _ => False
              | _ => False
            | op => opK T e' h' dst op go)
          (fun w => chk (apartAll ⟨os, [], [], []⟩ acc prs) (applyK w e h fun e h => applyK (wset dst (.d (.tup []))) e h fun e h => wpD P T made ops l (acc ++ [⟨os, [], [], []⟩]) e h K))) := rfl

section
variable {P : Program} {T : Tys}

theorem opSnd_out {ops : Array Oper} {q : Rec} {o : Oper} (ho : ops[q.idx]? = some o)
    (hw : ∀ {σ : Type} {cx : Cx σ} {r : Option Nat} {m : List Nat} {L : Loc} {F : Nat → Nat} {st : St σ} {a : Act} {w : World}, SubT q.e st.env → Good cx r m L F st a w → Region.wanted o (yielded ops a.tmps) = true)
    (hout : Out P q.e q.h o q.ws) (hnd : ∀ c, o.op ≠ .defer c) : OpSnd P ops q := by
  intro σ cx r m L F st a w he hh hg hd next Q hn
  simp only [wpOpIn, ho]
  rw [if_pos (hw he hg)]
  exact out_wpIn hout he hh hg (hd o ho) hnd fun x L' F' w' hg' tr => hn _ L' F' w' (put_size x) hg' tr

theorem opSnd_call {ops : Array Oper} {q : Rec} {dst : Option Nat} {f : Operand} {args : Array Operand} {tys : Array TypeId} {ty : TypeId} {pos : String} {after : Array Edge} {guard : Option (Nat × Bool)}
    (ho : ops[q.idx]? = some ⟨dst, .call ⟨.value f, args, tys⟩, ty, pos, after, guard⟩)
    (hw : ∀ {σ : Type} {cx : Cx σ} {r : Option Nat} {m : List Nat} {L : Loc} {F : Nat → Nat} {st : St σ} {a : Act} {w : World}, SubT q.e st.env → Good cx r m L F st a w → Region.wanted ⟨dst, .call ⟨.value f, args, tys⟩, ty, pos, after, guard⟩ (yielded ops a.tmps) = true)
    {g : FuncId} {capv : List V} {l' : List V} (hl : opnds q.e args.toList = some l')
    (hf : ∀ {σ : Type} {cx : Cx σ} {r : Option Nat} {m : List Nat} {L : Loc} {F : Nat → Nat} {st : St σ} {a : Act} {w : World}, SubT q.e st.env → Good cx r m L F st a w → ∃ lc : Array Value, a.eval f = .func (.func g) #[] lc ∧ RepVL cx.yv L F w capv lc.toList)
    (hout : OutCall P q.e q.h dst g (l' ++ capv) q.ws) : OpSnd P ops q := by
  intro σ cx r m L F st a w he hh hg hd next Q hn
  simp only [wpOpIn, ho]
  rw [if_pos (hw he hg)]
  obtain ⟨lc, hev, hcap⟩ := hf he hg
  obtain ⟨hent, hcall⟩ := hout
  have hl1 : ∃ vs : List Value, RepVL cx.yv L F w l' (args.toList.map a.eval) := ⟨[], by
    have hg' : Good cx r m L F ⟨q.e, st.heap, st.s⟩ a w := hg.sub he (fun _ _ h => h)
    exact hg'.opnds hl⟩
  obtain ⟨_, hl1⟩ := hl1
  have hargs : RepVL cx.yv L F w (l' ++ capv) (args.map a.eval ++ lc).toList := by
    simpa using hl1.append hcap
  have hcall := hcall cx r m L F st a w (args.map a.eval ++ lc) he hh hg (hd _ ho) hargs
  have hrun : (execOp a.eval ⟨dst, .call ⟨.value f, args, tys⟩, ty, pos, after, guard⟩).run P w = .ok (.enter g (args.map a.eval ++ lc)) w := by
    simp [execOp, resolve, Deferred.ofValue, hev, invoke, hent]
  refine ⟨fun _ _ => trivial, ?_⟩
  rw [Oper.semAt_eq _ _ _ (fun c e => by cases e), hrun, Oper.uponIn_enter]
  refine ⟨(fun h => by cases h), (callsIn_fr hcall).mono ?_⟩
  rintro en w' ⟨x, rfl, L', F', hg', tr'⟩
  exact hn _ L' F' w' (put_size x) hg' tr'

theorem opSnd_skip {ops : Array Oper} {q : Rec} {o : Oper} (ho : ops[q.idx]? = some o) (hws : q.ws = wset o.dst (.d (.tup [])))
    (hw : ∀ {σ : Type} {cx : Cx σ} {r : Option Nat} {m : List Nat} {L : Loc} {F : Nat → Nat} {st : St σ} {a : Act} {w : World}, SubT q.e st.env → Good cx r m L F st a w → Region.wanted o (yielded ops a.tmps) = false) : OpSnd P ops q := by
  intro σ cx r m L F st a w he hh hg hd next Q hn
  simp only [wpOpIn, ho]
  rw [if_neg (by rw [hw he hg]; simp)]
  refine ⟨fun _ _ => trivial, ?_⟩
  refine hn _ L F w (put_size _) ?_ (Tr.refl F w)
  rw [hws]
  exact hg.wset (x := undef) (hd o ho) ⟨#[], rfl, rfl⟩

theorem wpD_t (hT : TysOk P T) {ops : Array Oper} {ots : List OT} {made : List Nat} (hpairs : okPairs ops.toList ots ops.toList ots = true) : ∀ (l : List (Oper × OT)) (acc : List Rec), (∀ j p, l[j]? = some p → ops[acc.length + j]? = some p.1 ∧ ots[acc.length + j]? = some p.2) →
    (∀ k q, acc[k]? = some q → q.idx = k ∧ RecOk P ops ots q) → acc.Pairwise Pr → ∀ {e : Env} {h : Heap} {K : Env → Heap → Prop}, wpD P T made ops.toList l (acc.map Rec.oo) e h K →
    ∃ (R : List Rec) (eN : Env) (hN : Heap), K eN hN ∧ RunR R ⟨get e, get h⟩ ⟨get eN, get hN⟩ ∧ R.length = l.length ∧ (∀ k q, (acc ++ R)[k]? = some q → q.idx = k ∧ RecOk P ops ots q) ∧ (acc ++ R).Pairwise Pr ∧ ∀ q ∈ R, ∀ x ∈ wNews q.ws, x ∈ made
  | [], acc, _, hacc, hpw, e, h, K, hk => ⟨[], e, h, hk, rfl, rfl, by simpa using hacc, by simpa using hpw, fun q hq => by cases hq⟩
  | (⟨dst, op, ty, pos, after, guard⟩, ⟨ts, prs⟩) :: l, acc, hl, hacc, hpw, e, h, K, hk => by
    obtain ⟨ho, hot⟩ := hl 0 (⟨dst, op, ty, pos, after, guard⟩, ⟨ts, prs⟩) rfl
    simp only [Nat.add_zero] at ho hot
    have hl' : ∀ j p, l[j]? = some p → ops[acc.length + 1 + j]? = some p.1 ∧ ots[acc.length + 1 + j]? = some p.2 := fun j p hp => by
      have := hl (j + 1) p (by simpa using hp)
      rwa [show acc.length + (j + 1) = acc.length + 1 + j by omega] at this
    rw [wpD_cons] at hk
    rw [forceN_eq, forceE_eq, forceH_eq] at hk
    generalize hos : looksAt op e h ts = os at hk
    obtain ⟨b, lw, hcase, hlearn, hwant⟩ := guardK_u hk
    clear hk
    have hlearn' : lw = [] ∨ ∃ d v, lw = [.set d v] ∧ get e d = some v := hlearn.imp id fun ⟨d, v, h1, h2⟩ => ⟨d, v, h1, sub_keepT ts e d v h2⟩
    -- the rest, once the operation is known
    have rest : ∀ (ws : List Wr), newsOk ws = true → setsIn dst ws = true → (∀ x ∈ wNews ws, x ∈ made) → apartAll ⟨os, wObjs ws, wNews ws, wNames ws⟩ (acc.map Rec.oo) prs = true → newAll (wNews ws) (acc.map Rec.oo) = true →
        OpSnd P ops ⟨acc.length, keepT ts e, keepT os h, os, ws, prs⟩ → (applyK lw e h fun e h => applyK (toQs ws) e h fun e h => wpD P T made ops.toList l (acc.map Rec.oo ++ [⟨os, wObjs ws, wNews ws, wNames ws⟩]) e h K) →
        ∃ (R : List Rec) (eN : Env) (hN : Heap), K eN hN ∧ RunR R ⟨get e, get h⟩ ⟨get eN, get hN⟩ ∧ R.length = l.length + 1 ∧ (∀ k q, (acc ++ R)[k]? = some q → q.idx = k ∧ RecOk P ops ots q) ∧ (acc ++ R).Pairwise Pr ∧ ∀ q ∈ R, ∀ x ∈ wNews q.ws, x ∈ made := by
      intro ws hnews hsets hmade hap hnew hsnd hk
      rw [applyK_eq (), applyK_eq ()] at hk
      have hfs := fs_learn (s := ()) (h := h) hlearn'
      generalize (applyWs (⟨e, h, ()⟩ : St Unit) lw) = st1 at hk hfs
      have hfs2 := fs_quick ws (⟨st1.env, st1.heap, ()⟩ : St Unit)
      generalize (applyWs (⟨st1.env, st1.heap, ()⟩ : St Unit) (toQs ws)) = st2 at hk hfs2
      have hfs3 : (⟨get st2.env, get st2.heap⟩ : Fs) = appFs ⟨get e, get h⟩ ws := by
        rw [← hfs]; exact hfs2
      have hq : RecOk P ops ots ⟨acc.length, keepT ts e, keepT os h, os, ws, prs⟩ :=
        ⟨⟨_, _, ho, hot, rfl, setsIn_spec hsets, fun x v hx => key_keep ts e x v hx⟩, fun x v hx => key_keep os h x v hx, hnews, hsnd⟩
      have hpr : ∀ p ∈ acc, Pr p ⟨acc.length, keepT ts e, keepT os h, os, ws, prs⟩ := by
        intro p hp
        obtain ⟨k, hk', hkp⟩ := List.mem_iff_getElem.1 hp
        have hkp' : acc[k]? = some p := by rw [List.getElem?_eq_getElem hk', hkp]
        obtain ⟨hidx, hpok⟩ := hacc k p hkp'
        have hmem : p.oo ∈ acc.map Rec.oo := List.mem_map.2 ⟨p, hp, rfl⟩
        obtain ⟨hn1, hn2⟩ := newAll_spec hnew p.oo hmem
        have hn1 := disj_spec hn1
        have hn2 := disj_spec hn2
        refine ⟨by show p.idx < acc.length; omega, fun hin => ?_, hn1, hn2⟩
        have hin : p.idx ∈ prs := hin
        have ha := apart_spec (apartAll_spec hap p.idx hin p.oo (by rw [hidx, List.getElem?_map, hkp']; rfl))
        have a1 := disj_spec ha.1
        have a2 := disj_spec ha.2.1
        have a3 := disj_spec ha.2.2.1
        have a4 := disj_spec ha.2.2.2
        obtain ⟨po, pt, hpo, hpt, hpprs, hpsets, hpkeys⟩ := hpok.op
        obtain ⟨o1, t1, ho1, ht1, d1, d2, d3⟩ := okPair_spec (okPairs_spec hpairs acc.length _ _ (by simpa using ho) hot) p.idx hin
        have ho1' : ops[p.idx]? = some o1 := by simpa using ho1
        rw [hpo] at ho1'; cases ho1'
        rw [hpt] at ht1; cases ht1
        have none_of : ∀ {α : Type} {t : Tab α} {x : Nat}, (∀ v, get t x = some v → False) → get t x = none := by
          intro α t x hx
          cases hc : get t x with
          | none => rfl
          | some v => exact (hx v hc).elim
        refine ⟨⟨fun x hx => ?_, fun x hx => ?_, fun x hx hx' => ?_, fun x hx hx' => ?_, fun x hx => a4 x hx⟩, ⟨fun x hx => ?_, fun x hx => ?_, fun x hx hx' => ?_, fun x hx hx' => ?_, fun x hx => hn1 x hx⟩⟩
        · exact none_of fun v hv => d1 x (hpsets x hx) (key_keep ts e x v hv)
        · exact none_of fun v hv => a3 x hx (key_keep os h x v hv)
        · exact d3 x (hpsets x hx) (setsIn_spec hsets x hx')
        · exact a2 x hx' hx
        · exact none_of fun v hv => d2 x (setsIn_spec hsets x hx) (hpkeys x v hv)
        · exact none_of fun v hv => a1 x hx (hpok.hk x v hv)
        · exact d3 x (hpsets x hx') (setsIn_spec hsets x hx)
        · exact a2 x hx hx'
      have hacc' : ∀ k q, (acc ++ [(⟨acc.length, keepT ts e, keepT os h, os, ws, prs⟩ : Rec)])[k]? = some q → q.idx = k ∧ RecOk P ops ots q := by
        intro k q hkq
        rcases Nat.lt_trichotomy k acc.length with hlt | heq | hgt
        · rw [List.getElem?_append_left hlt] at hkq
          exact hacc k q hkq
        · subst heq
          simp at hkq
          subst hkq
          exact ⟨rfl, hq⟩
        · rw [List.getElem?_eq_none (by simp; omega)] at hkq
          cases hkq
      have hpw' : (acc ++ [(⟨acc.length, keepT ts e, keepT os h, os, ws, prs⟩ : Rec)]).Pairwise Pr :=
        List.pairwise_append.2 ⟨hpw, List.pairwise_singleton _ _, fun x hx y hy => by
          rcases List.mem_singleton.1 hy with rfl
          exact hpr x hx⟩
      obtain ⟨R, eN, hN, k1, k2, k3, k4, k5, k6⟩ := wpD_t hT hpairs l (acc ++ [⟨acc.length, keepT ts e, keepT os h, os, ws, prs⟩]) (by simpa using hl') hacc' hpw' (e := st2.env) (h := st2.heap) (K := K) (by simpa [Rec.oo] using hk)
      refine ⟨⟨acc.length, keepT ts e, keepT os h, os, ws, prs⟩ :: R, eN, hN, k1, ⟨⟨fun s v hs => sub_keepT ts e s v hs, fun s v hs => sub_keepT os h s v hs⟩, ?_⟩, by simp [k3], ?_, ?_, ?_⟩
      · rw [← hfs3]; exact k2
      · simpa using k4
      · simpa using k5
      · intro q hq x hx
        rcases List.mem_cons.1 hq with rfl | hq
        · exact hmade x hx
        · exact k6 q hq x hx
    rcases hcase with ⟨rfl, hk⟩ | ⟨rfl, hk⟩
    · -- wanted
      have fin : ∀ (ws : List Wr), OpSnd P ops ⟨acc.length, keepT ts e, keepT os h, os, ws, prs⟩ → (forceN (wObjs ws) fun mo => forceN (wNews ws) fun mk => forceN (wNames ws) fun men =>
              chk (drawChk dst made (acc.map Rec.oo) prs ws ⟨os, mo, mk, men⟩) (applyK lw e h fun e h => applyK (toQs ws) e h fun e h => wpD P T made ops.toList l (acc.map Rec.oo ++ [⟨os, mo, mk, men⟩]) e h K)) →
          ∃ (R : List Rec) (eN : Env) (hN : Heap), K eN hN ∧ RunR R ⟨get e, get h⟩ ⟨get eN, get hN⟩ ∧ R.length = l.length + 1 ∧ (∀ k q, (acc ++ R)[k]? = some q → q.idx = k ∧ RecOk P ops ots q) ∧ (acc ++ R).Pairwise Pr ∧ ∀ q ∈ R, ∀ x ∈ wNews q.ws, x ∈ made := by
        intro ws hsnd hk
        rw [forceN_eq, forceN_eq, forceN_eq] at hk
        obtain ⟨hc, hk⟩ := chk_t hk
        unfold drawChk at hc
        split at hc
        case h_2 => cases hc
        rename_i c1 c2 c3 c4 c5
        exact rest ws c4 c5 (subL_spec c3) c1 c2 hsnd hk
      by_cases hcall : ∃ c, op = .call c
      · obtain ⟨⟨callee, args, tys⟩, rfl⟩ := hcall
        cases callee with
        | builtin bu =>
          obtain ⟨ws, hk, hout⟩ := builtinK_out (P := P) (ty := ty) (pos := pos) (after := after) (guard := guard) hT hk
          exact fin ws (opSnd_out (q := ⟨acc.length, keepT ts e, keepT os h, os, ws, prs⟩) ho (fun he hg => hwant he hg) hout (fun c e => by cases e)) hk
        | invoke f n => exact (show False from hk).elim
        | value f =>
          have hk : (match opnd (keepT ts e) f, opnds (keepT ts e) args.toList with
                | some (.d (.clo g caps)), some l' => DrawCall P (keepT ts e) (keepT os h) dst g (l' ++ inj caps) (fun ws => forceN (wObjs ws) fun mo => forceN (wNews ws) fun mk => forceN (wNames ws) fun men =>
              chk (drawChk dst made (acc.map Rec.oo) prs ws ⟨os, mo, mk, men⟩) (applyK lw e h fun e h => applyK (toQs ws) e h fun e h => wpD P T made ops.toList l (acc.map Rec.oo ++ [⟨os, mo, mk, men⟩]) e h K))
                | some (.clo g caps), some l' => DrawCall P (keepT ts e) (keepT os h) dst g (l' ++ caps) (fun ws => forceN (wObjs ws) fun mo => forceN (wNews ws) fun mk => forceN (wNames ws) fun men =>
              chk (drawChk dst made (acc.map Rec.oo) prs ws ⟨os, mo, mk, men⟩) (applyK lw e h fun e h => applyK (toQs ws) e h fun e h => wpD P T made ops.toList l (acc.map Rec.oo ++ [⟨os, mo, mk, men⟩]) e h K))
                | _, _ => False) := hk
          split at hk
          · rename_i g caps l' hf hl1
            obtain ⟨ws, hk, hout⟩ := hk
            refine fin ws (opSnd_call (q := ⟨acc.length, keepT ts e, keepT os h, os, ws, prs⟩) ho (fun he hg => hwant he hg) hl1 (fun {σ cx r m L F st a w} he hg => ?_) hout) hk
            have hg' : Good cx r m L F ⟨keepT ts e, st.heap, st.s⟩ a w := hg.sub he (fun _ _ h => h)
            obtain ⟨lc, hev, hcap⟩ := hg'.opnd hf
            exact ⟨lc, hev, RepVL.inj.2 hcap⟩
          · rename_i g caps l' hf hl1
            obtain ⟨ws, hk, hout⟩ := hk
            refine fin ws (opSnd_call (q := ⟨acc.length, keepT ts e, keepT os h, os, ws, prs⟩) ho (fun he hg => hwant he hg) hl1 (fun {σ cx r m L F st a w} he hg => ?_) hout) hk
            have hg' : Good cx r m L F ⟨keepT ts e, st.heap, st.s⟩ a w := hg.sub he (fun _ _ h => h)
            obtain ⟨lc, hev, hcap⟩ := hg'.opnd hf
            exact ⟨lc, hev, hcap⟩
          · exact hk.elim
      · have hk : opK T (keepT ts e) (keepT os h) dst op (fun ws => forceN (wObjs ws) fun mo => forceN (wNews ws) fun mk => forceN (wNames ws) fun men =>
              chk (drawChk dst made (acc.map Rec.oo) prs ws ⟨os, mo, mk, men⟩) (applyK lw e h fun e h => applyK (toQs ws) e h fun e h => wpD P T made ops.toList l (acc.map Rec.oo ++ [⟨os, mo, mk, men⟩]) e h K)) := by
          cases op <;> first | exact hk | exact absurd ⟨_, rfl⟩ hcall
        have hnd : ∀ c, op ≠ .defer c := fun c hc => by subst hc; exact hk
        obtain ⟨ws, hk, hout⟩ := opK_out (P := P) (ty := ty) (pos := pos) (after := after) (guard := guard) hT hk
        exact fin ws (opSnd_out (q := ⟨acc.length, keepT ts e, keepT os h, os, ws, prs⟩) ho (fun he hg => hwant he hg) hout hnd) hk
    · obtain ⟨hc, hk⟩ := chk_t hk
      have h0 : wObjs (wset dst (.d (.tup []))) = [] ∧ wNews (wset dst (.d (.tup []))) = [] ∧ wNames (wset dst (.d (.tup []))) = [] ∧ newsOk (wset dst (.d (.tup []))) = true ∧ setsIn dst (wset dst (.d (.tup []))) = true ∧ toQs (wset dst (.d (.tup []))) = wset dst (.d (.tup [])) := by
        cases dst with
        | none => simp [wset, wObjs, wNews, wNames, newsOk, setsIn, toQs]
        | some d => simp [wset, wObjs, wNews, wNames, newsOk, setsIn, toQs, namesOf, disj]
      obtain ⟨z1, z2, z3, z4, z5, z6⟩ := h0
      refine rest (wset dst (.d (.tup []))) z4 z5 (by rw [z2]; intro x hx; cases hx) (by rw [z1, z2, z3]; exact hc) (by
        rw [z2]
        have : ∀ acc : List OO, newAll [] acc = true := by
          intro acc
          induction acc with
          | nil => rfl
          | cons p r ih => simp [newAll, disj, ih]
        exact this _) (opSnd_skip (q := ⟨acc.length, keepT ts e, keepT os h, os, wset dst (.d (.tup [])), prs⟩) ho rfl (fun he hg => hwant he hg)) ?_
      rw [z1, z2, z3, z6]
      exact hk

/-- A region that draws does what is reckoned in the order of the text. -/
theorem drawOk_of (hm : P.follows .mixedOrders = true) (hT : TysOk P T) {ops : Array Oper} {rt : RT} (hst : okDraw ops.toList rt = true) : DrawOk P T ops rt := by
  intro σ cx r m L F e h s a w K hg hd hk id
  have hst' := hst
  simp only [okDraw, Bool.and_eq_true] at hst'
  obtain ⟨⟨⟨⟨hlen, hback⟩, hahead⟩, hpairs⟩, hmade⟩ := hst'
  have hlen := Nat.eq_of_beq_eq_true hlen
  obtain ⟨e1, h1, L1, hk, hg1, hu⟩ := awayK_t rt.made (fun d hd' => by
    have := List.all_eq_true.1 hmade d hd'
    exact Nat.le_of_ble_eq_true this) hg hk (fun _ => False) (fun _ h => h.elim)
  obtain ⟨R, eN, hN, k1, k2, k3, k4, k5, k6⟩ := wpD_t hT hpairs (ops.toList.zip rt.ots) [] (fun j p hp => by
    have := List.getElem?_zip_eq_some.1 hp
    simpa using this) (fun k q hq => by simp at hq) List.Pairwise.nil hk
  simp only [List.nil_append] at k4 k5
  have hRl : R.length = ops.size := by rw [k3, List.length_zip, hlen]; simp [← hlen]
  refine wpIn_region_any hm ?_
  have tr0 : Tr F w F { w with drawn := w.drawn + 1 } := Tr.drew _
  refine wpAny_run (cx := cx) (r := r) (m := m) (s := s) (n0 := a.tmps.size) (F0 := F) (w0 := w) (f' := ⟨get eN, get hN⟩) hst hd (fun a' w' L' F' st hf hs hg' tr hn => ?_) ops.size (l := R) (st := ⟨e1, h1, s⟩)
    ⟨k5, fun q hq => ?_, fun q hq => ?_, fun q hq => ?_⟩ (hg1.same (w' := { w with drawn := w.drawn + 1 }) rfl rfl rfl rfl) rfl tr0 rfl (fun q hq x hx => hu x (.inl (k6 q hq x hx))) k2 (by omega) ⟨fun i => ?_, by simp, fun j o hj => ?_⟩
  · refine ⟨eN, hN, s, L', F', rfl, ⟨k1, rfl⟩, ?_, tr, hn⟩
    have he : get st.env = get eN := congrArg Fs.env hf
    have hh : get st.heap = get hN := congrArg Fs.heap hf
    have := hg'.sub (e := eN) (h := hN) (fun x v hx => by rw [he]; exact hx) (fun x v hx => by rw [hh]; exact hx)
    rw [hs] at this
    exact this
  · obtain ⟨k, hk', hkq⟩ := List.mem_iff_getElem.1 hq
    exact (k4 k q (by rw [List.getElem?_eq_getElem hk', hkq])).2.snd
  · obtain ⟨k, hk', hkq⟩ := List.mem_iff_getElem.1 hq
    exact (k4 k q (by rw [List.getElem?_eq_getElem hk', hkq])).2.news
  · obtain ⟨k, hk', hkq⟩ := List.mem_iff_getElem.1 hq
    obtain ⟨o, t, h1, h2, h3, _⟩ := (k4 k q (by rw [List.getElem?_eq_getElem hk', hkq])).2.op
    exact ⟨t, h2, h3⟩
  · rw [Array.getD_eq_getD_getElem?, Array.getElem?_replicate]
    constructor
    · rintro ⟨q, hq, rfl⟩
      obtain ⟨k, hk', hkq⟩ := List.mem_iff_getElem.1 hq
      have := (k4 k q (by rw [List.getElem?_eq_getElem hk', hkq])).1
      rw [if_pos (by omega)]; rfl
    · intro hi
      by_cases hi' : i < ops.size
      · exact ⟨R[i], List.getElem_mem .., (k4 i R[i] (List.getElem?_eq_getElem (by omega))).1⟩
      · rw [if_neg hi'] at hi; simp at hi
  · rw [Array.getD_eq_getD_getElem?, Array.getElem?_replicate] at hj
    split at hj <;> cases hj

def drawsB (ft : FT) : Code → Bool
  | .region id ops draw => match draw with
    | false => true
    | true => match get ft.tb id with
      | none => true
      | some rt => okDraw ops.toList rt
  | .seq a b => drawsB ft a && drawsB ft b
  | .cond _ a b => drawsB ft a && drawsB ft b
  | .block _ a => drawsB ft a
  | .loop a => drawsB ft a
  | .scope a => drawsB ft a
  | .rangeFunc _ _ a b => drawsB ft a && drawsB ft b
  | _ => true

theorem drawsB_spec (hm : P.follows .mixedOrders = true) (hT : TysOk P T) {ft : FT} : ∀ {c : Code}, drawsB ft c = true → drawsOk P T ft c
  | .region id ops draw, h => by
    intro hd rt hrt
    subst hd
    simp only [drawsB, hrt] at h
    exact drawOk_of hm hT h
  | .seq a b, h => by
    simp only [drawsB, Bool.and_eq_true] at h
    exact ⟨drawsB_spec hm hT h.1, drawsB_spec hm hT h.2⟩
  | .cond _ a b, h => by
    simp only [drawsB, Bool.and_eq_true] at h
    exact ⟨drawsB_spec hm hT h.1, drawsB_spec hm hT h.2⟩
  | .block _ a, h => drawsB_spec (c := a) hm hT h
  | .loop a, h => drawsB_spec (c := a) hm hT h
  | .scope a, h => drawsB_spec (c := a) hm hT h
  | .rangeFunc _ _ a b, h => by
    simp only [drawsB, Bool.and_eq_true] at h
    exact ⟨drawsB_spec hm hT h.1, drawsB_spec hm hT h.2⟩
  | .skip, _ => trivial
  | .exit _, _ => trivial
  | .label _, _ => trivial
  | .goto _, _ => trivial
  | .ret, _ => trivial
  | .refuse _, _ => trivial
end
end Go.PX

/- PX: functions. -/
namespace Go.PX
open Go.RowKit

/-- One result. -/
def resOne (tmps : Array Value) (r : ResultVar) : Sem Value :=
  match r with
  | .tmp t => pure (tmps.getD t undef)
  | .cell b t => do loadVar t (← asAddr (tmps.getD b undef))

theorem results_eq (fn : Func) (tmps : Array Value) : results fn tmps = (do
    let vs ← fn.results.mapM (resOne tmps)
    pure (if h : vs.size = 1 then vs[0] else .tuple vs)) := rfl

section
variable {P : Program} {T : Tys}

theorem resK_t (hT : TysOk P T) {e : Env} {h : Heap} : ∀ {rs : List ResultVar} {K : List V → Prop}, resK T e h rs K →
    ∃ l, K l ∧ ∀ {σ : Type} {cx : Cx σ} {r : Option Nat} {m : List Nat} {L : Loc} {F : Nat → Nat} {s : σ} {a : Act} {w : World}, Good cx r m L F ⟨e, h, s⟩ a w →
      ∃ vals : List Value, (rs.mapM (resOne a.tmps)).run P w = .ok vals w ∧ RepVL cx.yv L F w l vals
  | [], K, hk => ⟨[], hk, fun _ => ⟨[], by simp, rfl⟩⟩
  | .tmp t :: rs, K, hk => by
    have hk : (match get e t with
      | some v => resK T e h rs fun l => K (v :: l)
      | none => False) := hk
    split at hk
    · rename_i v hv
      obtain ⟨l, hl, hrun⟩ := resK_t hT hk
      refine ⟨v :: l, hl, fun {σ cx r m L F s a w} hg => ?_⟩
      obtain ⟨vals, hr, hrep⟩ := hrun hg
      obtain ⟨x, hx, hrx⟩ := hg.env t v hv
      refine ⟨x :: vals, ?_, x, vals, rfl, hrx, hrep⟩
      simp only [List.mapM_cons, Sem.run_bind, resOne, Sem.run_pure, Result.andThen_ok, hr]
      simp [hx]
    · exact hk.elim
  | .cell b t :: rs, K, hk => by
    have hk : loadK T e h t (.tmp b) fun v => resK T e h rs fun l => K (v :: l) := hk
    obtain ⟨v, hk, hload⟩ := loadK_t (P := P) hT hk
    obtain ⟨l, hl, hrun⟩ := resK_t hT hk
    refine ⟨v :: l, hl, fun {σ cx r m L F s a w} hg => ?_⟩
    obtain ⟨vals, hr, hrep⟩ := hrun hg
    obtain ⟨bb, off, y, hu, hy, hry⟩ := hload cx L F s (a.eval (.tmp b)) w h (fun _ _ h => h) hg.heap (fun v hv => hg.opnd hv)
    have hu' : a.tmps.getD b undef = .pointer (some ⟨bb, off, none⟩) := hu
    have hone : (resOne a.tmps (.cell b t)).run P w = .ok y w := by simp [resOne, hu', asAddr, hy]
    refine ⟨y :: vals, ?_, y, vals, rfl, hry, hrep⟩
    simp only [List.mapM_cons, Sem.run_bind, hone, Result.andThen_ok, hr, Sem.run_pure]

theorem run_results {fn : Func} {tmps : Array Value} {w : World} {vals : List Value} (h : (fn.results.toList.mapM (resOne tmps)).run P w = .ok vals w) : (results fn tmps).run P w = .ok (packV vals) w := by
  have hmap : (fn.results.mapM (resOne tmps)).run P w = .ok vals.toArray w := by
    rw [Array.mapM_eq_mapM_toList]
    simp only [Sem.run_map, h, Result.andThen_ok]
  rw [results_eq]
  simp only [Sem.run_bind, hmap, Result.andThen_ok, Sem.run_pure]
  congr 1
  match vals with
  | [] => rfl
  | [x] => rfl
  | x :: y :: r => simp [packV]

/-- A mark's block is shut. -/
theorem HeapOk.unmark {σ : Type} {cx : Cx σ} {L : Loc} {F : Nat → Nat} {h : Heap} {s : σ} {w : World} (hh : HeapOk cx L F h s w) {b : Nat} (hb : w.heap[b]? = some (.deferred (some []))) (hC : ¬ cx.C s b) :
    HeapOk cx L F h s (w.putObj b (.deferred none)) ∧ Tr F w F (w.putObj b (.deferred none)) := by
  have hk : ∀ x, x ≠ b → (w.putObj b (.deferred none)).heap[x]? = w.heap[x]? := fun x hx => by
    simp [World.putObj, Array.getElem?_setIfInBounds_ne (Ne.symm hx)]
  have hbb : (w.putObj b (.deferred none)).heap[b]? = some (.deferred none) := by
    simp [World.putObj, Array.getElem?_setIfInBounds, (Array.getElem?_eq_some_iff.1 hb).1]
  have hsz : (w.putObj b (.deferred none)).heap.size = w.heap.size := by simp [World.putObj]
  have tr : Tr F w F (w.putObj b (.deferred none)) := by
    refine ⟨rfl, rfl, rfl, by rw [hsz]; exact Nat.le_refl _, fun _ => Nat.le_refl _, fun x o hx => ?_, fun x en c hx hm => ?_⟩
    · by_cases he : x = b
      · subst he; simp [World.cell?, hb, hbb]
      · exact cell_heap (hk x he)
    · by_cases he : x = b
      · subst he; rw [hb] at hm; cases hm
      · rw [hk x he]; exact hm
  have hne : ∀ id o, get h id = some o → Backed L id o → L.ρ id ≠ b := by
    intro id o ho hbk e
    have := hh.obj id o ho
    cases o with
    | box c => obtain ⟨c', T, hc, _⟩ := this; rw [e, hb] at hc; cases hc
    | arr sz es =>
      obtain ⟨_, _, h⟩ := this
      rcases h with ⟨_, hk⟩ | ⟨c, T, hc, _⟩
      · exact hbk hk
      · rw [e, hb] at hc; cases hc
    | map kvs => obtain ⟨en, c, hc, _⟩ := this; rw [e, hb] at hc; cases hc
    | iter s n => have hc : w.heap[L.ρ id]? = _ := this; rw [e, hb] at hc; cases hc
  refine ⟨⟨cx.stable hh.hg tr (fun x hx => hh.fresh x (by rw [← hsz]; exact hx)) fun x hx => ⟨hk x (by rintro rfl; exact hC hx), rfl⟩, fun x hx => by rw [hsz]; exact hh.csz x hx, fun x hx => hh.fresh x (by rw [← hsz]; exact hx), fun id o ho => ?_, hh.own, hh.inj⟩, tr⟩
  exact RepO.mono tr id o (fun _ _ => ⟨rfl, rfl⟩) ⟨rfl, rfl⟩ (fun hbk => hk _ (hne id o ho hbk)) (hh.obj id o ho)

theorem leaves_marks {σ : Type} {cx : Cx σ} {L : Loc} {F0 : Nat → Nat} {w0 : World} {h : Heap} {s : σ} {fn : Func} {tmps : Array Value} {R : Ending → World → Prop} : ∀ (m : List Nat) {F : Nat → Nat} {w : World}, HeapOk cx L F h s w → Tr F0 w0 F w →
    (∀ b ∈ m, w.heap[b]? = some (.deferred (some [])) ∧ ¬ cx.C s b) → m.Nodup → (∀ w', HeapOk cx L F h s w' → Tr F w F w' → ∃ v, (results fn tmps).run P w' = .ok v w' ∧ R (.returned v) w') →
    LeavesInM Fence.wide 0 P fn tmps R (m.map mark) .returning w
  | [], F, w, hh, tr, hm, hn, hR => by
    simp only [List.map_nil, LeavesInM, LeavesIn]
    exact hR w hh (Tr.refl F w)
  | b :: m, F, w, hh, tr, hm, hn, hR => by
    obtain ⟨hb, hC⟩ := hm b (List.mem_cons_self ..)
    obtain ⟨hh', tr'⟩ := hh.unmark hb hC
    simp only [List.map_cons, LeavesInM]
    refine ⟨by simp, .inl ⟨b, w.putObj b (.deferred none), rfl, ?_, ?_⟩⟩
    · simp [Instr.takeDeferred, Sem.run_bind, getObj, setObj, Sem.run, hb, Result.andThen, World.putObj]
    · have hnd := List.nodup_cons.1 hn
      refine leaves_marks m hh' (Tr.trans tr tr') (fun x hx => ?_) hnd.2 fun w' h1 h2 => hR w' h1 (Tr.trans tr' h2)
      have hxb : x ≠ b := by rintro rfl; exact hnd.1 hx
      refine ⟨?_, (hm x (List.mem_cons_of_mem _ hx)).2⟩
      rw [← (hm x (List.mem_cons_of_mem _ hx)).1]
      simp [World.putObj, Array.getElem?_setIfInBounds_ne (Ne.symm hxb)]

/-- The static checks of a function. -/
def fnB (ft : FT) (fn : Func) (n : Nat) : Bool :=
  match fn.body with
  | some c => codeOk fn.ntmps c && drawsB ft c && Nat.ble fn.ntmps 1000000 && fn.name != "runtime.NumGoroutine" && Nat.ble n fn.ntmps
  | none => false

theorem get_enter : ∀ {args : List V} {i s : Nat} {v : V}, get (enterE i args) s = some v → ∃ k, s = i + k ∧ args[k]? = some v
  | [], i, s, v, h => by cases h
  | a :: r, i, s, v, h => by
    simp only [enterE, get] at h
    split at h
    · rename_i he
      have := Nat.eq_of_beq_eq_true he; subst this
      cases h
      exact ⟨0, rfl, rfl⟩
    · obtain ⟨k, rfl, hk⟩ := get_enter h
      exact ⟨k + 1, by omega, by simpa using hk⟩

/-- A function's contract, from its body. -/
theorem fnC_of (hm : P.follows .mixedOrders = true) (hT : TysOk P T) {σ : Type} {Y : Hd σ} {f : FuncId} {fn : Func} {c : Code} (hf : P.funcs[f]? = some fn) (hb : fn.body = some c) {ft : FT} {args : List V} (hok : fnB ft fn args.length = true)
    {h : Heap} {s : σ} {Q : V → Heap → σ → Prop} (hw : wpA P T ft Y c ⟨enterE 0 args, h, s⟩ (fnK T fn.results.toList Q)) : FnC P Y f args h s Q := by
  unfold fnB at hok
  rw [hb] at hok
  simp only [Bool.and_eq_true, bne_iff_ne, ne_eq] at hok
  obtain ⟨⟨⟨⟨hcode, hdraws⟩, hnt⟩, hname⟩, hlen⟩ := hok
  have hnt := Nat.le_of_ble_eq_true hnt
  have hlen := Nat.le_of_ble_eq_true hlen
  refine ⟨fun vs w => by simp [callFunc, hf, hname, hb, Go.mark], fun cx hY L F vals w hh hr => ?_⟩
  have hvl : vals.size = args.length := by simpa using hr.length
  have hsz : (vals ++ Array.replicate (fn.ntmps - vals.size) undef).size = fn.ntmps := by simp; omega
  refine callsIn_of_wp_marks hf hb trivial ?_
  have hg : Good { cx with pρ := L.ρ, pκ := L.κ } none [] L F ⟨enterE 0 args, h, s⟩ { tmps := vals ++ Array.replicate (fn.ntmps - vals.size) undef, defers := [] } w := by
    refine ⟨⟨hh.hg, hh.csz, hh.fresh, hh.obj, hh.own, hh.inj⟩, fun t v ht => ?_, rfl, (fun b hb => by cases hb), List.nodup_nil, (fun l hl => by cases hl), fun _ _ => ⟨rfl, rfl⟩, by rw [hsz]; exact hnt⟩
    obtain ⟨k, hk, hv⟩ := get_enter ht
    rw [Nat.zero_add] at hk; subst hk
    obtain ⟨x, hx, hrx⟩ := hr.get t hv
    refine ⟨x, ?_, hrx⟩
    have hlt : t < vals.size := by
      have := (List.getElem?_eq_some_iff.1 hx).1
      simpa using this
    rw [Array.getElem?_append_left hlt]
    simpa using hx
  have hY' : Handles P Y { cx with pρ := L.ρ, pκ := L.κ } := by
    intro l hl args h s Q hy L' F' vals w hh' hr
    obtain ⟨fn, tmps, asg, body, h1, h2⟩ := hY l hl args h s Q hy L' F' vals w ⟨hh'.hg, hh'.csz, hh'.fresh, hh'.obj, hh'.own, hh'.inj⟩ hr
    refine ⟨fn, tmps, asg, body, h1, h2.mono ?_⟩
    rintro e w' ⟨x, he, v, h', s', L'', F'', hq, hh'', rest⟩
    exact ⟨x, he, v, h', s', L'', F'', hq, ⟨hh''.hg, hh''.csz, hh''.fresh, hh''.obj, hh''.own, hh''.inj⟩, rest⟩
  have hwp := wpA_sound hT c (drawsB_spec hm hT hdraws) ⟨enterE 0 args, h, s⟩ _ hw _ hY' none [] L F _ w hg (by rw [hsz]; exact hcode)
  have hwp : c.wpIn Fence.wide 0 P _ { tmps := vals ++ Array.replicate (fn.ntmps - vals.size) undef, defers := [] } w := hwp
  refine wpIn_mono hwp fun ex a' w' hq => ?_
  obtain ⟨e', st', m', L', F', rfl, hk, hg', tr, hs⟩ := hq
  -- whichever way it ends
  have fin : fnK T fn.results.toList Q .normal st' → LeavesInM Fence.wide 0 P fn a'.tmps (fun e w' => ∃ x, e = .returned x ∧ ∃ v h' s' L' F', Q v h' s' ∧ HeapOk cx L' F' h' s' w' ∧ RepV cx.yv L' F' w' v x ∧ Tr F w F' w' ∧ PinEq L L') a'.defers .returning w' := by
    intro hk
    rw [hg'.dfr]
    refine leaves_marks m' hg'.heap tr hg'.mks hg'.mnd fun w'' hh'' tr'' => ?_
    obtain ⟨e1, h1, s1⟩ := st'
    have hk : resK T e1 h1 fn.results.toList fun l => RetA l h1 s1 Q := hk
    obtain ⟨l, ⟨hret⟩, hrun⟩ := resK_t (P := P) hT hk
    have hg'' : Good { cx with pρ := L.ρ, pκ := L.κ } none [] L' F' ⟨e1, h1, s1⟩ { a' with defers := [] } w'' := by
      refine ⟨hh'', fun t v ht => ?_, rfl, (fun b hb => by cases hb), List.nodup_nil, (fun l hl => by cases hl), hg'.pin, hg'.tsz⟩
      obtain ⟨x, hx, hrx⟩ := hg'.env t v ht
      exact ⟨x, hx, RepV.mono tr'' v x (fun _ _ => ⟨rfl, rfl⟩) hrx⟩
    obtain ⟨vals', hres, hrep⟩ := hrun hg''
    obtain ⟨v, h', L2, F2, hq, hh2, hr2, tr2, pin2⟩ := hret cx L' F' vals' w'' ⟨hh''.hg, hh''.csz, hh''.fresh, hh''.obj, hh''.own, hh''.inj⟩ hrep
    refine ⟨_, run_results hres, _, rfl, v, h', s1, L2, F2, hq, hh2, hr2, Tr.trans tr (Tr.trans tr'' tr2), fun i hi => ?_⟩
    obtain ⟨p1, p2⟩ := pin2 i hi
    obtain ⟨p3, p4⟩ := hg'.pin i hi
    exact ⟨p1.trans p3, p2.trans p4⟩
  cases e' with
  | normal => exact fin hk
  | ret => exact fin hk
  | exit i => exact hk.elim

end
end Go.PX

/- PX: calls. -/
namespace Go.PX
open Go.RowKit

/-- Other numbers for what is named. -/
def renF (R : Nat → Nat) (v : V) : V :=
  match v with
  | .ptr i off => .ptr (R i) off
  | .ep i sz k off => .ep (R i) sz k off
  | .sl i sz off n => .sl (R i) sz off n
  | .mp i => .mp (R i)
  | .it i => .it (R i)
  | v => v

abbrev ren (R : Nat → Nat) (v : V) : V := mapId (renF R) v
abbrev renL (R : Nat → Nat) (v : List V) : List V := mapIdL (renF R) v
abbrev renO (R : Nat → Nat) (o : Obj) : Obj := Obj.mapId (renF R) o

section
variable {yv : Option Nat} {L L' : Loc} {F : Nat → Nat} {w : World} {R : Nat → Nat}

mutual
theorem RepV.ren : ∀ (v : V) (x : Value), (∀ i, namesV v i → L'.ρ (R i) = L.ρ i ∧ L'.κ (R i) = L.κ i) → (RepV yv L' F w (mapId (renF R) v) x ↔ RepV yv L F w v x)
  | .d v, _, _ => Iff.rfl
  | .agg cs, x, hn => by
    constructor
    · rintro ⟨l, rfl, hl⟩; exact ⟨l, rfl, (RepVL.ren cs _ hn).1 hl⟩
    · rintro ⟨l, rfl, hl⟩; exact ⟨l, rfl, (RepVL.ren cs _ hn).2 hl⟩
  | .tup cs, x, hn => by
    constructor
    · rintro ⟨l, rfl, hl⟩; exact ⟨l, rfl, (RepVL.ren cs _ hn).1 hl⟩
    · rintro ⟨l, rfl, hl⟩; exact ⟨l, rfl, (RepVL.ren cs _ hn).2 hl⟩
  | .ptr id off, x, hn => by
    show x = .pointer (some ⟨L'.ρ (R id), off, none⟩) ↔ x = .pointer (some ⟨L.ρ id, off, none⟩)
    rw [(hn id rfl).1]
  | .ep id sz k off, x, hn => by
    show x = .pointer (some ⟨L'.ρ (R id), k * sz + off, none⟩) ↔ x = .pointer (some ⟨L.ρ id, k * sz + off, none⟩)
    rw [(hn id rfl).1]
  | .sl id sz off len, x, hn => by
    show (∃ a cap, x = .slice a len cap ∧ len ≤ cap ∧ 0 < sz ∧ ((len = 0 ∧ cap = 0) ∨ (a = some ⟨L'.ρ (R id), off * sz, none⟩ ∧ (off + cap) * sz ≤ L'.κ (R id)))) ↔
      (∃ a cap, x = .slice a len cap ∧ len ≤ cap ∧ 0 < sz ∧ ((len = 0 ∧ cap = 0) ∨ (a = some ⟨L.ρ id, off * sz, none⟩ ∧ (off + cap) * sz ≤ L.κ id)))
    rw [(hn id rfl).1, (hn id rfl).2]
  | .mp id, x, hn => by
    show x = .map (some (L'.ρ (R id))) ↔ x = .map (some (L.ρ id))
    rw [(hn id rfl).1]
  | .it id, x, hn => by
    show x = .pointer (some ⟨L'.ρ (R id), 0, none⟩) ↔ x = .pointer (some ⟨L.ρ id, 0, none⟩)
    rw [(hn id rfl).1]
  | .clo f cs, x, hn => by
    constructor
    · rintro ⟨l, rfl, hl⟩; exact ⟨l, rfl, (RepVL.ren cs _ hn).1 hl⟩
    · rintro ⟨l, rfl, hl⟩; exact ⟨l, rfl, (RepVL.ren cs _ hn).2 hl⟩
  | .yld, _, _ => Iff.rfl
  | .unk, _, _ => Iff.rfl
theorem RepVL.ren : ∀ (vs : List V) (l : List Value), (∀ i, namesVL vs i → L'.ρ (R i) = L.ρ i ∧ L'.κ (R i) = L.κ i) → (RepVL yv L' F w (mapIdL (renF R) vs) l ↔ RepVL yv L F w vs l)
  | [], _, _ => Iff.rfl
  | v :: r, l, hn => by
    simp only [mapIdL, RepVL]
    constructor
    · rintro ⟨x, l', rfl, hv, hl⟩; exact ⟨x, l', rfl, (RepV.ren v x fun i hi => hn i (.inl hi)).1 hv, (RepVL.ren r l' fun i hi => hn i (.inr hi)).1 hl⟩
    · rintro ⟨x, l', rfl, hv, hl⟩; exact ⟨x, l', rfl, (RepV.ren v x fun i hi => hn i (.inl hi)).2 hv, (RepVL.ren r l' fun i hi => hn i (.inr hi)).2 hl⟩
end

theorem lensAre_mapIdLL {f : V → V} {sz : Nat} {l : List (List V)} : lensAre sz (mapIdLL f l) ↔ lensAre sz l := by
  induction l with
  | nil => exact Iff.rfl
  | cons e r ih =>
    simp only [mapIdLL, lensAre, List.forall_mem_cons, mapIdL_length]
    exact and_congr Iff.rfl ih

theorem mapIdLL_nil {f : V → V} {l : List (List V)} : mapIdLL f l = [] ↔ l = [] := by cases l <;> simp [mapIdLL]

theorem RepO.ren (id : Nat) (o : Obj) (hn : ∀ i, namesO o i → L'.ρ (R i) = L.ρ i ∧ L'.κ (R i) = L.κ i) {id' : Nat} (hid : L'.ρ id' = L.ρ id ∧ L'.κ id' = L.κ id) :
    RepO yv L' F w id' (renO R o) ↔ RepO yv L F w id o := by
  cases o with
  | box c =>
    cases c with
    | dd l =>
      simp only [RepO, Obj.mapId, hid.1, Cells.toV, RepVL.inj]
    | vv l =>
      simp only [RepO, Obj.mapId, hid.1, Cells.toV]
      refine exists_congr fun c => exists_congr fun T => and_congr Iff.rfl (RepVL.ren l _ hn)
  | arr sz es =>
    cases es with
    | dd l =>
      simp only [RepO, Obj.mapId, hid.1, hid.2, Els.toV, injL_flatten, RepVL.inj]
    | vv l =>
      simp only [RepO, Obj.mapId, hid.1, hid.2, Els.toV]
      rw [lensAre_mapIdLL, mapIdLL_nil, mapIdLL_length, mapIdLL_flatten]
      refine and_congr Iff.rfl (and_congr Iff.rfl (or_congr Iff.rfl ?_))
      refine exists_congr fun c => exists_congr fun T => and_congr Iff.rfl (and_congr Iff.rfl (and_congr Iff.rfl (RepVL.ren l.flatten _ hn)))
  | map kvs => simp only [RepO, Obj.mapId, hid.1]
  | iter s n => simp only [RepO, Obj.mapId, hid.1]

theorem Backed_ren (id : Nat) (o : Obj) {id' : Nat} (hk : L'.κ id' = L.κ id) : Backed L' id' (renO R o) ↔ Backed L id o := Backed_map hk o
end

/-- Where the numbers of a callee lead to: what is lent, what is handed back. -/
def callR (tb : List Nat) (d : Nat) (i : Nat) : Nat :=
  match Nat.blt i 1000000 with
  | true => i
  | false => match Nat.blt i 2000000 with
    | true => match tb[i - 1000000]? with
      | some k => k
      | none => 0
    | false => 100000 + 64 * d + (i - 2000000)

/-- The numbers of the new objects. -/
def newKeys : Heap → List Nat
  | [] => []
  | (i, _) :: r => match Nat.blt i 2000000 with
    | true => newKeys r
    | false => i :: newKeys r

def lentWs (R : Nat → Nat) (h' : Heap) : Nat → List Nat → List Wr
  | _, [] => []
  | i, k :: r => (match get h' i with
    | some o => .obj k (renO R o)
    | none => .del k) :: lentWs R h' (i + 1) r

def newWs (R : Nat → Nat) (h' : Heap) : List Nat → List Wr
  | [] => []
  | i :: r => (match get h' i with
    | some o => .new (R i) (renO R o)
    | none => .new (R i) (.box (.dd []))) :: newWs R h' r

/-- What a call does to the caller's state. -/
def callWs (tb : List Nat) (d : Option Nat) (v : V) (h' : Heap) : List Wr :=
  let R := callR tb (d.getD 0)
  newWs R h' (newKeys h') ++ (lentWs R h' 1000000 tb ++ wset d (ren R v))

def nodupB : List Nat → Bool
  | [] => true
  | k :: r => !inL r k && nodupB r

/-- All that is named is lent, or handed back. -/
def allIn (n : Nat) (nk : List Nat) : List Nat → Bool
  | [] => true
  | i :: r => (Nat.ble 1000000 i && Nat.blt i (1000000 + n) || inL nk i) && allIn n nk r

def heapNames : Heap → List Nat
  | [] => []
  | (i, o) :: r => i :: (namesOfO o ++ heapNames r)

/-- The objects that are lent are there. -/
def lentOk (R : Nat → Nat) (h : Heap) : Nat → List Nat → Heap → Prop
  | _, [], h0 => h0 = []
  | i, k :: r, h0 => ∃ o h1, h0 = (i, o) :: h1 ∧ get h k = some (renO R o) ∧ lentOk R h (i + 1) r h1

def callB (tb : List Nat) (d : Option Nat) (v : V) (h' : Heap) : Bool :=
  nodupB tb && Nat.ble (newKeys h').length 64 && nodupB (newKeys h') && disj tb ((newKeys h').map (callR tb (d.getD 0))) && allIn tb.length (newKeys h') (heapNames h') && allIn tb.length (newKeys h') (namesOf v) &&
    (newKeys h').all (fun i => Nat.blt i 2000064) && Nat.ble (d.getD 0) 10000 && Nat.ble tb.length 1000 && newsOk (callWs tb d v h')

/-- A contract that does not hang on what stands around. -/
def FnU (P : Program) (f : FuncId) (args : List V) (h : Heap) (Q : V → Heap → Prop) : Prop :=
  ∀ {σ : Type} (Y : Hd σ) (s : σ), FnC P Y f args h s fun v h' s' => Q v h' ∧ s' = s

theorem nodupB_spec : ∀ {l : List Nat}, nodupB l = true → l.Nodup
  | [], _ => List.nodup_nil
  | k :: r, h => by
    simp only [nodupB, Bool.and_eq_true, Bool.not_eq_true'] at h
    refine List.nodup_cons.2 ⟨fun hm => ?_, nodupB_spec h.2⟩
    rw [inL_iff.2 hm] at h; cases h.1

theorem allIn_spec {n : Nat} {nk : List Nat} : ∀ {l : List Nat}, allIn n nk l = true → ∀ i ∈ l, (1000000 ≤ i ∧ i < 1000000 + n) ∨ i ∈ nk
  | [], _, i, hi => by cases hi
  | k :: r, h, i, hi => by
    simp only [allIn, Bool.and_eq_true, Bool.or_eq_true] at h
    rcases List.mem_cons.1 hi with rfl | hi
    · exact h.1.imp (fun h => ⟨Nat.le_of_ble_eq_true h.1, Nat.le_of_ble_eq_true h.2⟩) inL_iff.1
    · exact allIn_spec h.2 i hi

theorem heapNames_key : ∀ {h : Heap} {i : Nat} {o : Obj}, get h i = some o → i ∈ heapNames h ∧ ∀ x ∈ namesOfO o, x ∈ heapNames h
  | [], i, o, h => by cases h
  | (k, p) :: r, i, o, h => by
    simp only [get] at h
    split at h
    · rename_i he
      have := Nat.eq_of_beq_eq_true he; subst this
      cases h
      exact ⟨by simp [heapNames], fun x hx => by simp [heapNames, hx]⟩
    · obtain ⟨h1, h2⟩ := heapNames_key h
      exact ⟨by simp [heapNames, h1], fun x hx => by simp [heapNames, h2 x hx]⟩

theorem newKeys_ge : ∀ {h : Heap} {i : Nat}, i ∈ newKeys h → 2000000 ≤ i
  | [], i, h => by cases h
  | (k, p) :: r, i, h => by
    simp only [newKeys] at h
    split at h
    · exact newKeys_ge h
    · rename_i hk
      rcases List.mem_cons.1 h with rfl | h
      · rcases Nat.lt_or_ge i 2000000 with hlt | hge
        · rw [show Nat.blt i 2000000 = true from Nat.ble_eq_true_of_le hlt] at hk; cases hk
        · exact hge
      · exact newKeys_ge h

theorem callR_lent {tb : List Nat} {d k id : Nat} (hk : tb[k]? = some id) (hl : tb.length ≤ 1000) : callR tb d (1000000 + k) = id := by
  have hlt : k < tb.length := (List.getElem?_eq_some_iff.1 hk).1
  unfold callR
  have h1 : Nat.blt (1000000 + k) 1000000 = false := by
    rw [Bool.eq_false_iff]; intro h; have := Nat.le_of_ble_eq_true h; omega
  have h2 : Nat.blt (1000000 + k) 2000000 = true := Nat.ble_eq_true_of_le (by omega)
  rw [h1, h2]
  simp only [show 1000000 + k - 1000000 = k by omega, hk]

theorem callR_new {tb : List Nat} {d i : Nat} (hi : 2000000 ≤ i) : callR tb d i = 100000 + 64 * d + (i - 2000000) := by
  unfold callR
  have h1 : Nat.blt i 1000000 = false := by
    rw [Bool.eq_false_iff]; intro h; have := Nat.le_of_ble_eq_true h; omega
  have h2 : Nat.blt i 2000000 = false := by
    rw [Bool.eq_false_iff]; intro h; have := Nat.le_of_ble_eq_true h; omega
  rw [h1, h2]

theorem lentOk_spec {R : Nat → Nat} {h : Heap} : ∀ {tb : List Nat} {b : Nat} {h0 : Heap}, lentOk R h b tb h0 → ∀ i o, get h0 i = some o → ∃ k id, i = b + k ∧ tb[k]? = some id ∧ get h id = some (renO R o)
  | [], b, h0, hl, i, o, hi => by
    have : h0 = [] := hl
    subst this; cases hi
  | id :: r, b, h0, hl, i, o, hi => by
    obtain ⟨o', h1, rfl, hg, hl⟩ := hl
    simp only [get] at hi
    split at hi
    · rename_i he
      have := Nat.eq_of_beq_eq_true he; subst this
      cases hi
      exact ⟨0, id, rfl, by simp, hg⟩
    · obtain ⟨k, id', rfl, hk, hg'⟩ := lentOk_spec hl i o hi
      exact ⟨k + 1, id', by omega, by simpa using hk, hg'⟩

/-- Objects are given up, and what names them is forgotten. -/
def clr {σ : Type} (st : St σ) : List Nat → St σ
  | [] => st
  | i :: r => clr ⟨mapT (mapId (killF i)) st.env, mapT (Obj.mapId (killF i)) (cut st.heap i), st.s⟩ r

def kills : List Nat → V → V
  | [], v => v
  | i :: r, v => kills r (mapId (killF i) v)

def killsO : List Nat → Obj → Obj
  | [], v => v
  | i :: r, v => killsO r (Obj.mapId (killF i) v)

theorem clr_s {σ : Type} : ∀ (l : List Nat) (st : St σ), (clr st l).s = st.s
  | [], _ => rfl
  | _ :: r, st => by rw [clr, clr_s r]

theorem clr_env {σ : Type} : ∀ (l : List Nat) (st : St σ) (x : Nat), get (clr st l).env x = (get st.env x).map (kills l)
  | [], st, x => by cases h : get st.env x <;> simp [clr, kills, h]
  | i :: r, st, x => by
    rw [clr, clr_env r, get_mapT]
    cases h : get st.env x <;> simp [kills]

theorem clr_heap {σ : Type} : ∀ (l : List Nat) (st : St σ) (x : Nat), get (clr st l).heap x = if x ∈ l then none else (get st.heap x).map (killsO l)
  | [], st, x => by cases h : get st.heap x <;> simp [clr, killsO, h]
  | i :: r, st, x => by
    rw [clr, clr_heap r, get_mapT, get_cut]
    by_cases h1 : x ∈ r
    · simp [h1]
    · by_cases h2 : x = i
      · simp [h2]
      · cases h : get st.heap x <;> simp [h1, h2, killsO]

theorem kills_id : ∀ (l : List Nat) (v : V), (∀ i ∈ l, ¬ namesV v i) → kills l v = v
  | [], _, _ => rfl
  | i :: r, v, h => by
    rw [kills, kill_id i v (h i (List.mem_cons_self ..))]
    exact kills_id r v fun j hj => h j (List.mem_cons_of_mem _ hj)

theorem killsO_id : ∀ (l : List Nat) (v : Obj), (∀ i ∈ l, ¬ namesO v i) → killsO l v = v
  | [], _, _ => rfl
  | i :: r, v, h => by
    rw [killsO, killO_id i v (h i (List.mem_cons_self ..))]
    exact killsO_id r v fun j hj => h j (List.mem_cons_of_mem _ hj)

section
variable {σ : Type} {cx : Cx σ} {r : Option Nat} {m : List Nat} {L : Loc} {F : Nat → Nat} {a : Act} {w : World}

theorem Good.clr : ∀ (l : List Nat) {st : St σ}, Good cx r m L F st a w → Good cx r m L F (clr st l) a w
  | [], st, h => h
  | i :: l, st, h => by
    have h1 : Good cx r m L F ⟨st.env, cut st.heap i, st.s⟩ a w := h.del i
    exact Good.clr l (h1.kill i)
end

theorem kill_keeps {e : Env} {h : Heap} (k : Nat) {x : Nat} (hx : x = k ∨ Unn ⟨get e, get h⟩ x) : Unn ⟨get (mapT (mapId (killF k)) e), get (mapT (Obj.mapId (killF k)) (cut h k))⟩ x := by
  refine ⟨?_, fun t v ht hnm => ?_, fun t o ht hnm => ?_⟩
  · show get _ x = none
    rw [get_mapT, get_cut]
    split
    · rfl
    · rename_i hxk
      have : get h x = none := (hx.resolve_left hxk).none
      rw [this]; rfl
  · simp only [get_mapT] at ht
    cases h1 : get e t with
    | none => simp [h1] at ht
    | some v0 =>
      simp [h1] at ht
      subst ht
      obtain ⟨y, h2, rfl, h3⟩ := names_map (kill_on k) v0 x hnm
      exact (hx.resolve_left h3).env t v0 h1 h2
  · simp only [get_mapT, get_cut] at ht
    split at ht
    · cases ht
    · cases h1 : get h t with
      | none => simp [h1] at ht
      | some v0 =>
        simp [h1] at ht
        subst ht
        obtain ⟨y, h2, rfl, h3⟩ := namesO_map (kill_on k) v0 x hnm
        exact (hx.resolve_left h3).heap t v0 h1 h2

theorem clr_unn {σ : Type} : ∀ (l : List Nat) (st : St σ) (B : Nat → Prop), (∀ x, B x → Unn (fsOf st) x) → ∀ x, x ∈ l ∨ B x → Unn (fsOf (clr st l)) x
  | [], st, B, hB, x, hx => hB x (hx.resolve_left (by simp))
  | i :: l, st, B, hB, x, hx => by
    rw [clr]
    refine clr_unn l ⟨mapT (mapId (killF i)) st.env, mapT (Obj.mapId (killF i)) (cut st.heap i), st.s⟩ (fun y => y = i ∨ B y) (fun y hy => kill_keeps i (hy.imp id (hB y))) x ?_
    rcases hx with hx | hx
    · rcases List.mem_cons.1 hx with rfl | hx
      · exact .inr (.inl rfl)
      · exact .inl hx
    · exact .inr (.inr hx)

/-- What is done in truth: first what is to be made is forgotten, then all is written. -/
theorem fs_clear {σ : Type} : ∀ (ws : List Wr) (st : St σ), newsOk ws = true → fsOf (applyWs st ws) = appFs (fsOf (clr st (wNews ws))) ws
  | [], st, _ => rfl
  | w :: r, st, hok => by
    obtain ⟨h1, h2, h3, h4⟩ := newsOk_cons hok
    rw [applyWs, fs_clear r _ h1, appFs]
    congr 1
    have put : ∀ (i : Nat) (o : Obj), (∀ x ∈ wNews r, x ∉ namesOfO o) → (∀ x ∈ wNews r, x ≠ i) → ∀ (e : Env) (h : Heap) (s : σ),
        fsOf (clr (⟨e, put h i o, s⟩ : St σ) (wNews r)) = ⟨(fsOf (clr (⟨e, h, s⟩ : St σ) (wNews r))).env, fun x => if x = i then some o else (fsOf (clr (⟨e, h, s⟩ : St σ) (wNews r))).heap x⟩ := by
      intro i o ho hi e h s
      ext1
      · funext x; simp only [fsOf, clr_env]
      · funext x
        simp only [fsOf, clr_heap, get_put]
        by_cases hx : x = i
        · subst hx
          rw [if_neg (fun hm => hi x hm rfl), if_pos rfl, if_pos rfl]
          simp only [Option.map_some]
          rw [killsO_id _ _ fun j hj hn => ho j hj (namesOfO_mem j o hn)]
        · simp only [hx, if_false]
    cases w with
    | set s v =>
      simp only [applyW, wNews, appF]
      ext1
      · funext x
        simp only [fsOf, clr_env, get_put]
        split
        · simp only [Option.map_some]
          rw [kills_id _ _ fun j hj hn => h2 j hj (by simp [wNames, namesOf_mem j v hn])]
        · rfl
      · funext x; simp only [fsOf, clr_heap]
    | obj i o =>
      simp only [applyW, wNews, appF]
      exact put i o (fun x hx => by simpa [wNames] using h2 x hx) (fun x hx he => by obtain ⟨_, hd⟩ := h3 x hx (by simp [wObjs, he]); cases hd) _ _ _
    | new i o =>
      simp only [applyW, wNews, appF]
      rw [clr]
      exact put i o (fun x hx => by simpa [wNames] using h2 x hx) (fun x hx he => by obtain ⟨_, hd⟩ := h3 x hx (by simp [wObjs, he]); cases hd) _ _ _
    | newq i o => exact absurd rfl (h4 i o)
    | del i =>
      simp only [applyW, wNews, appF]
      ext1
      · funext x; simp only [fsOf, clr_env]
      · funext x
        simp only [fsOf, clr_heap, get_cut]
        by_cases h1 : x = i
        · simp [h1]
        · simp [h1]

theorem wNews_append (a b : List Wr) : wNews (a ++ b) = wNews a ++ wNews b := by
  induction a with
  | nil => rfl
  | cons w r ih => cases w <;> simp [wNews, ih]
theorem appFs_append (f : Fs) (a b : List Wr) : appFs f (a ++ b) = appFs (appFs f a) b := by
  induction a generalizing f with
  | nil => rfl
  | cons w r ih => simp [appFs, ih]
theorem wNews_wset (d : Option Nat) (v : V) : wNews (wset d v) = [] := by cases d <;> rfl
theorem wNews_lent (R : Nat → Nat) (h' : Heap) : ∀ (l : List Nat) (i : Nat), wNews (lentWs R h' i l) = []
  | [], _ => rfl
  | k :: r, i => by
    simp only [lentWs]
    split <;> simp [wNews, wNews_lent R h' r]
theorem wNews_new (R : Nat → Nat) (h' : Heap) : ∀ (l : List Nat), wNews (newWs R h' l) = l.map R
  | [] => rfl
  | k :: r => by
    simp only [newWs]
    split <;> simp [wNews, wNews_new R h' r]

theorem wNews_call (tb : List Nat) (d : Option Nat) (v : V) (h' : Heap) : wNews (callWs tb d v h') = (newKeys h').map (callR tb (d.getD 0)) := by
  simp only [callWs, wNews_append, wNews_new, wNews_lent, wNews_wset, List.append_nil]

/-- The objects that a call writes. -/
theorem lent_heap (R : Nat → Nat) (h' : Heap) : ∀ (l : List Nat) (b : Nat) (f : Fs) (x : Nat) (o : Obj), (appFs f (lentWs R h' b l)).heap x = some o →
    (∃ k o0, l[k]? = some x ∧ get h' (b + k) = some o0 ∧ o = renO R o0) ∨ (x ∉ l ∧ f.heap x = some o)
  | [], b, f, x, o, h => .inr ⟨by simp, h⟩
  | k :: r, b, f, x, o, h => by
    simp only [lentWs, appFs] at h
    rcases lent_heap R h' r (b + 1) _ x o h with ⟨j, o0, h1, h2, h3⟩ | ⟨h1, h2⟩
    · exact .inl ⟨j + 1, o0, by simpa using h1, by rw [show b + (j + 1) = b + 1 + j by omega]; exact h2, h3⟩
    · by_cases hx : x = k
      · subst hx
        left
        split at h2
        · rename_i o0 ho
          simp only [appF, if_true, Option.some.injEq] at h2
          exact ⟨0, o0, by simp, ho, h2.symm⟩
        · simp [appF] at h2
      · right
        refine ⟨by simp [hx, h1], ?_⟩
        split at h2
        · simpa [appF, hx] using h2
        · simpa [appF, hx] using h2

theorem lent_env (R : Nat → Nat) (h' : Heap) : ∀ (l : List Nat) (b : Nat) (f : Fs), (appFs f (lentWs R h' b l)).env = f.env
  | [], b, f => rfl
  | k :: r, b, f => by
    simp only [lentWs, appFs]
    rw [lent_env R h' r]
    split <;> rfl

theorem new_heap (R : Nat → Nat) (h' : Heap) : ∀ (l : List Nat) (f : Fs) (x : Nat) (o : Obj), (∀ i ∈ l, (get h' i).isSome) → (appFs f (newWs R h' l)).heap x = some o →
    (∃ i o0, i ∈ l ∧ x = R i ∧ get h' i = some o0 ∧ o = renO R o0) ∨ (x ∉ l.map R ∧ f.heap x = some o)
  | [], f, x, o, _, h => .inr ⟨by simp, h⟩
  | k :: r, f, x, o, hl, h => by
    simp only [newWs, appFs] at h
    rcases new_heap R h' r _ x o (fun i hi => hl i (List.mem_cons_of_mem _ hi)) h with ⟨i, o0, h1, h2, h3⟩ | ⟨h1, h2⟩
    · exact .inl ⟨i, o0, List.mem_cons_of_mem _ h1, h2, h3⟩
    · obtain ⟨o0, ho⟩ := Option.isSome_iff_exists.1 (hl k (List.mem_cons_self ..))
      simp only [ho, appF] at h2
      by_cases hx : x = R k
      · subst hx
        simp only [if_true, Option.some.injEq] at h2
        exact .inl ⟨k, o0, List.mem_cons_self .., rfl, ho, h2.symm⟩
      · exact .inr ⟨by simpa [hx] using h1, by simpa [hx] using h2⟩

theorem new_env (R : Nat → Nat) (h' : Heap) : ∀ (l : List Nat) (f : Fs), (appFs f (newWs R h' l)).env = f.env
  | [], f => rfl
  | k :: r, f => by
    simp only [newWs, appFs]
    rw [new_env R h' r]
    split <;> rfl

theorem newKeys_mem : ∀ {h : Heap} {i : Nat}, i ∈ newKeys h → (get h i).isSome
  | [], i, h => by cases h
  | (k, p) :: r, i, h => by
    simp only [get]
    split
    · rfl
    · rename_i hk
      refine newKeys_mem ?_
      simp only [newKeys] at h
      split at h
      · exact h
      · rcases List.mem_cons.1 h with rfl | h
        · simp at hk
        · exact h

end Go.PX

/- PX: a call does what its contract says. -/
namespace Go.PX
open Go.RowKit

theorem newsOk_call {tb : List Nat} {d : Option Nat} {v : V} {h' : Heap} (h : callB tb d v h' = true) : newsOk (callWs tb d v h') = true := by
  simp only [callB, Bool.and_eq_true] at h; exact h.2

theorem nodup_get {l : List Nat} (h : l.Nodup) {i j a : Nat} (hi : l[i]? = some a) (hj : l[j]? = some a) : i = j := by
  obtain ⟨hi1, hi2⟩ := List.getElem?_eq_some_iff.1 hi
  obtain ⟨hj1, hj2⟩ := List.getElem?_eq_some_iff.1 hj
  have hp := List.pairwise_iff_getElem.1 h
  rcases Nat.lt_trichotomy i j with hlt | heq | hgt
  · exact absurd (hi2.trans hj2.symm) (hp i j hi1 hj1 hlt)
  · exact heq
  · exact absurd (hj2.trans hi2.symm) (hp j i hj1 hi1 hgt)

/-- The new objects' places. -/
def newLoc (L L' : Loc) (NL : List Nat) (c : Nat) : Loc := ⟨fun x => if x ∈ NL then L'.ρ (x - c + 2000000) else L.ρ x, fun x => if x ∈ NL then L'.κ (x - c + 2000000) else L.κ x⟩

theorem newLoc_old {L L' : Loc} {NL : List Nat} {c x : Nat} (hx : x ∉ NL) : (newLoc L L' NL c).ρ x = L.ρ x ∧ (newLoc L L' NL c).κ x = L.κ x := ⟨if_neg hx, if_neg hx⟩
theorem newLoc_new {L L' : Loc} {NL : List Nat} {c x : Nat} (hx : x ∈ NL) : (newLoc L L' NL c).ρ x = L'.ρ (x - c + 2000000) ∧ (newLoc L L' NL c).κ x = L'.κ (x - c + 2000000) := ⟨if_pos hx, if_pos hx⟩

theorem lent_at {h st h0 : Heap} {R : Nat → Nat} {tb : List Nat} (hh : SubT h st) (hlent : lentOk R h 1000000 tb h0) (Rlent : ∀ k id, tb[k]? = some id → R (1000000 + k) = id) :
    ∀ i o, get h0 i = some o → ∃ k id, i = 1000000 + k ∧ tb[k]? = some id ∧ R i = id ∧ get st id = some (renO R o) := by
  intro i o hi
  obtain ⟨k, id, h1, h2, h3⟩ := lentOk_spec hlent i o hi
  exact ⟨k, id, h1, h2, by rw [h1]; exact Rlent k id h2, hh _ _ h3⟩

theorem fs_s {σ : Type} : ∀ (ws : List Wr) (st st' : St σ), st.env = st'.env → st.heap = st'.heap → fsOf (applyWs st ws) = fsOf (applyWs st' ws)
  | [], ⟨e, h, s⟩, ⟨e', h', s'⟩, h1, h2 => by
    simp only at h1 h2; subst h1; subst h2; rfl
  | w :: r, ⟨e, h, s⟩, ⟨e', h', s'⟩, h1, h2 => by
    simp only at h1 h2; subst h1; subst h2
    rw [applyWs, applyWs]
    exact fs_s r _ _ (by cases w <;> rfl) (by cases w <;> rfl)

theorem Backed_of {L L2 : Loc} {y : Nat} {o : Obj} (h : L2.κ y = L.κ y) (hb : Backed L2 y o) : Backed L y o := by
  cases o with
  | arr sz es => intro e; exact hb (h.trans e)
  | box c => exact trivial
  | map kvs => exact trivial
  | iter s n => exact trivial

/-- The blocks that are lent. -/
def LentB (R : Nat → Nat) (L : Loc) (h0 : Heap) (b : Nat) : Prop := ∃ i o, get h0 i = some o ∧ Backed ⟨fun i => L.ρ (R i), fun i => L.κ (R i)⟩ i o ∧ L.ρ (R i) = b

/-- What a callee leaves, at the caller's frame. -/
theorem good_after {σ : Type} {cx : Cx σ} {r : Option Nat} {m : List Nat} {L : Loc} {F : Nat → Nat} {st : St σ} {a : Act} {w : World} {tb : List Nat} {d : Option Nat} {v : V} {h' : Heap} (hB : callB tb d v h' = true) {R : Nat → Nat} (hR : callR tb (d.getD 0) = R)
    {h h0 : Heap} (hh : SubT h st.heap) (hlent : lentOk R h 1000000 tb h0) (hg : Good cx r m L F st a w) (hd : ∀ k, d = some k → k < a.tmps.size) {s' : σ} {x : Value} {w' : World} {L' : Loc} {F' : Nat → Nat}
    (hHG : cx.HG s' w' F') (hcsz : ∀ b, cx.C s' b → b < w'.heap.size) (hCn : ∀ b, b < w.heap.size → ¬ LentB R L h0 b → ¬ cx.C st.s b → ¬ cx.C s' b)
    (hkeep : ∀ b, b < w.heap.size → ¬ LentB R L h0 b → ¬ cx.C st.s b → w'.heap[b]? = w.heap[b]? ∧ F' b = F b) (hfresh : ∀ b, w'.heap.size ≤ b → F' b = 0)
    (hobj : ∀ i o, get h' i = some o → RepO cx.yv L' F' w' i o)
    (hown : ∀ i o, get h' i = some o → Backed L' i o → F' (L'.ρ i) = 0 ∧ ¬ cx.C s' (L'.ρ i) ∧ (L'.ρ i < w.heap.size → LentB R L h0 (L'.ρ i)))
    (hinj : ∀ i j o p, get h' i = some o → get h' j = some p → Backed L' i o → Backed L' j p → L'.ρ i = L'.ρ j → i = j)
    (hv : RepV cx.yv L' F' w' v x) (tr : Tr F w F' w') (pin : PinEq ⟨fun i => L.ρ (R i), fun i => L.κ (R i)⟩ L') :
    ∃ L2, Good cx r m L2 F' (applyWs ⟨st.env, st.heap, s'⟩ (callWs tb d v h')) (a.put d x) w' := by
  have hnews := newsOk_call hB
  simp only [callB, Bool.and_eq_true] at hB
  obtain ⟨⟨⟨⟨⟨⟨⟨⟨⟨b1, b2⟩, b3⟩, b4⟩, b5⟩, b6⟩, b7⟩, b8⟩, b9⟩, _⟩ := hB
  have htb := nodupB_spec b1
  have b4 := disj_spec b4
  have b5 := allIn_spec b5
  have b6 := allIn_spec b6
  have b7 : ∀ i ∈ newKeys h', i < 2000064 := fun i hi => Nat.le_of_ble_eq_true (List.all_eq_true.1 b7 i hi)
  have b8 := Nat.le_of_ble_eq_true b8
  have b9 := Nat.le_of_ble_eq_true b9
  rw [hR] at b4
  have Rlent : ∀ k id, tb[k]? = some id → R (1000000 + k) = id := fun k id hk => by rw [← hR]; exact callR_lent hk b9
  have Rnew : ∀ i, 2000000 ≤ i → R i = 100000 + 64 * d.getD 0 + (i - 2000000) := fun i hi => by rw [← hR]; exact callR_new hi
  obtain ⟨Lent, hLent⟩ : ∃ Lent, Lent = LentB R L h0 := ⟨_, rfl⟩
  rw [← hLent] at hCn hkeep hown
  have hL0 : ∀ b, Lent b ↔ ∃ i o, get h0 i = some o ∧ Backed ⟨fun i => L.ρ (R i), fun i => L.κ (R i)⟩ i o ∧ L.ρ (R i) = b := fun b => by rw [hLent]; exact Iff.rfl
  have hh0 := lent_at hh hlent Rlent
  have hH0obj : ∀ i o, get h0 i = some o → RepO cx.yv ⟨fun i => L.ρ (R i), fun i => L.κ (R i)⟩ F w i o := fun i o hi => by
    obtain ⟨k, id, rfl, h2, h3, h4⟩ := hh0 i o hi
    have := hg.heap.obj id _ h4
    rw [← h3] at this
    exact (RepO.ren (R := R) (L := ⟨fun i => L.ρ (R i), fun i => L.κ (R i)⟩) (L' := L) (1000000 + k) o (fun _ _ => ⟨rfl, rfl⟩) ⟨rfl, rfl⟩).1 this
  -- where the objects are now
  let NL := (newKeys h').map R
  obtain ⟨L2, hL2⟩ : ∃ L2, L2 = newLoc L L' NL (100000 + 64 * d.getD 0) := ⟨_, rfl⟩
  have L2old : ∀ x, x ∉ NL → L2.ρ x = L.ρ x ∧ L2.κ x = L.κ x := fun x hx => by rw [hL2]; exact newLoc_old hx
  have L2new : ∀ i, i ∈ newKeys h' → L2.ρ (R i) = L'.ρ i ∧ L2.κ (R i) = L'.κ i := by
    intro i hi
    have hge := newKeys_ge hi
    have hm : R i ∈ NL := List.mem_map.2 ⟨i, hi, rfl⟩
    have : R i - (100000 + 64 * d.getD 0) + 2000000 = i := by rw [Rnew i hge]; omega
    have h2 := newLoc_new (L := L) (L' := L') (c := 100000 + 64 * d.getD 0) hm
    rw [this] at h2
    rw [hL2]; exact h2
  have L2lent : ∀ i, 1000000 ≤ i → i < 1000000 + tb.length → L2.ρ (R i) = L'.ρ i ∧ L2.κ (R i) = L'.κ i := by
    intro i h1 h2
    obtain ⟨k, hk'⟩ : ∃ k, i = 1000000 + k := ⟨i - 1000000, by omega⟩
    have hlt : k < tb.length := by omega
    obtain ⟨y, hk⟩ : ∃ y, tb[k]? = some y := ⟨_, List.getElem?_eq_getElem hlt⟩
    have hRi : R i = y := by rw [hk']; exact Rlent _ _ hk
    have hn : R i ∉ NL := by rw [hRi]; exact b4 _ (List.mem_of_getElem? hk)
    obtain ⟨p1, p2⟩ := pin i ⟨h1, by omega⟩
    exact ⟨(L2old _ hn).1.trans p1.symm, (L2old _ hn).2.trans p2.symm⟩
  have L2in : ∀ i, ((1000000 ≤ i ∧ i < 1000000 + tb.length) ∨ i ∈ newKeys h') → L2.ρ (R i) = L'.ρ i ∧ L2.κ (R i) = L'.κ i := fun i hi => hi.elim (fun h => L2lent i h.1 h.2) (L2new i)
  -- what the caller keeps
  have hg1 := hg.clr NL
  have hunn := clr_unn NL st (fun _ => False) (fun _ h => h.elim)
  have hs1 : (clr st NL).s = st.s := clr_s _ _
  have hfs0 : ∀ (ws : List Wr), fsOf (applyWs (⟨st.env, st.heap, s'⟩ : St σ) ws) = fsOf (applyWs st ws) := fun ws => fs_s ws _ _ rfl rfl
  have hfs : fsOf (applyWs st (callWs tb d v h')) = appFs (fsOf (clr st NL)) (callWs tb d v h') := by
    rw [fs_clear _ _ hnews, wNews_call, hR]
  have hNL100 : ∀ x ∈ NL, 100000 ≤ x ∧ x < 1000000 := by
    intro x hx
    obtain ⟨i, hi, rfl⟩ := List.mem_map.1 hx
    have h1 := newKeys_ge hi
    have h2 := b7 i hi
    rw [Rnew i h1]; omega
  -- the state behind the call
  have hws : callWs tb d v h' = newWs R h' (newKeys h') ++ (lentWs R h' 1000000 tb ++ wset d (ren R v)) := by rw [← hR]; rfl
  have henv : ∀ t u, get (applyWs (⟨st.env, st.heap, s'⟩ : St σ) (callWs tb d v h')).env t = some u → (d = some t ∧ u = ren R v) ∨ (d ≠ some t ∧ get (clr st NL).env t = some u) := by
    intro t u ht0
    have ht : (fsOf (applyWs (⟨st.env, st.heap, s'⟩ : St σ) (callWs tb d v h'))).env t = some u := ht0
    clear ht0
    rw [hfs0, hfs, hws, appFs_append, appFs_append] at ht
    cases d with
    | none =>
      simp only [wset, appFs, lent_env, new_env] at ht
      exact .inr ⟨by simp, ht⟩
    | some d =>
      simp only [wset, appFs, appF, lent_env, new_env] at ht
      split at ht
      · rename_i e1; cases ht; exact .inl ⟨by rw [e1], rfl⟩
      · rename_i e1; exact .inr ⟨by simpa using Ne.symm e1, ht⟩
  have hheap : ∀ y o, get (applyWs (⟨st.env, st.heap, s'⟩ : St σ) (callWs tb d v h')).heap y = some o → (∃ i o0, ((1000000 ≤ i ∧ i < 1000000 + tb.length) ∨ i ∈ newKeys h') ∧ y = R i ∧ get h' i = some o0 ∧ o = renO R o0) ∨ (y ∉ tb ∧ y ∉ NL ∧ get (clr st NL).heap y = some o) := by
    intro y o hy
    have hy : (fsOf (applyWs (⟨st.env, st.heap, s'⟩ : St σ) (callWs tb d v h'))).heap y = some o := hy
    rw [hfs0, hfs, hws, appFs_append, appFs_append] at hy
    have hy : (appFs (appFs (fsOf (clr st NL)) (newWs R h' (newKeys h'))) (lentWs R h' 1000000 tb)).heap y = some o := by
      cases d with
      | none => exact hy
      | some d => exact hy
    rcases lent_heap R h' tb 1000000 _ y o hy with ⟨k, o0, k1, k2, k3⟩ | ⟨k1, k2⟩
    · have hk : k < tb.length := (List.getElem?_eq_some_iff.1 k1).1
      exact .inl ⟨1000000 + k, o0, .inl ⟨by omega, by omega⟩, (Rlent k y k1).symm, k2, k3⟩
    · rcases new_heap R h' (newKeys h') _ y o (fun i hi => newKeys_mem hi) k2 with ⟨i, o0, j1, j2, j3, j4⟩ | ⟨j1, j2⟩
      · exact .inl ⟨i, o0, .inr j1, j2, j3, j4⟩
      · exact .inr ⟨k1, j1, j2⟩
  have rest : ∀ y o, y ∉ tb → y ∉ NL → get (clr st NL).heap y = some o → Backed L y o → ¬ Lent (L.ρ y) := by
    intro y o h1 h2 hy hb hlb
    obtain ⟨i, o', hi, hbi, hij⟩ := (hL0 _).1 hlb
    obtain ⟨k, id, g1, g2, g3, g4⟩ := hh0 i o' hi
    have hidNL : id ∉ NL := b4 _ (List.mem_of_getElem? g2)
    have hclr : get (clr st NL).heap id = some (killsO NL (renO R o')) := by
      rw [clr_heap, if_neg hidNL, g4]; rfl
    have hb1 : Backed L id (renO R o') := by rw [← g3]; exact (Backed_ren (R := R) (L := ⟨fun i => L.ρ (R i), fun i => L.κ (R i)⟩) (L' := L) i o' rfl).2 hbi
    have hkb : ∀ (l : List Nat) (p : Obj), Backed L id p → Backed L id (killsO l p) := by
      intro l
      induction l with
      | nil => exact fun p hp => hp
      | cons i r ih => exact fun p hp => ih _ ((Backed_kill L i id p).2 hp)
    have := hg1.heap.inj id y _ o hclr hy (hkb NL _ hb1) hb (by rw [← g3]; exact hij)
    subst this
    exact h1 (List.mem_of_getElem? g2)
  have hs2 : (applyWs (⟨st.env, st.heap, s'⟩ : St σ) (callWs tb d v h')).s = s' := applyWs_s _ _
  have trk : Tr F w F' w' := tr
  refine ⟨L2, ⟨by rw [hs2]; exact hHG, fun b hb => hcsz b (by rw [← hs2]; exact hb), hfresh, ?_, ?_, ?_⟩, ?_, ?_, ?_, hg.mnd, ?_, ?_, ?_⟩
  · intro y o hy
    rcases hheap y o hy with ⟨i, o0, hi, rfl, h2, rfl⟩ | ⟨h1, h2, h3⟩
    · have := hobj i o0 h2
      refine (RepO.ren (R := R) (L := L') (L' := L2) i o0 (fun j hj => L2in j (b5 j ((heapNames_key h2).2 j (namesOfO_mem j o0 hj)))) (L2in i hi)).2 this
    · refine RepO.mono tr y o (fun j hj => L2old j fun hm => (hunn j (.inl hm)).heap y o h3 hj) (L2old y h2) (fun hb => ?_) (hg1.heap.obj y o h3)
      exact (hkeep _ ((hg1.heap.obj y o h3).lt hb) (rest y o h1 h2 h3 hb) (by rw [← hs1]; exact (hg1.heap.own y o h3 hb).2)).1
  · intro y o hy hb
    rcases hheap y o hy with ⟨i, o0, hi, rfl, h2, rfl⟩ | ⟨h1, h2, h3⟩
    · have hb' : Backed L' i o0 := (Backed_ren (R := R) (L := L') (L' := L2) i o0 (L2in i hi).2).1 hb
      obtain ⟨k1, k2, _⟩ := hown i o0 h2 hb'
      rw [(L2in i hi).1]
      exact ⟨k1, by rw [hs2]; exact k2⟩
    · have hb' : Backed L y o := Backed_of (L2old y h2).2 hb
      obtain ⟨k1, k2⟩ := hg1.heap.own y o h3 hb'
      rw [(L2old y h2).1]
      rw [hs1] at k2
      have hlt := (hg1.heap.obj y o h3).lt hb'
      have hr := rest y o h1 h2 h3 hb'
      exact ⟨(hkeep _ hlt hr k2).2.trans k1, by rw [hs2]; exact hCn _ hlt hr k2⟩
  · intro y z o p hy hz hby hbz hyz
    have out : ∀ y o, y ∉ tb → y ∉ NL → get (clr st NL).heap y = some o → Backed L2 y o → Backed L y o ∧ (L.ρ y < w.heap.size ∧ ¬ Lent (L.ρ y)) ∧ L2.ρ y = L.ρ y := by
      intro y o h1 h2 h3 hb
      have hb' : Backed L y o := Backed_of (L2old y h2).2 hb
      exact ⟨hb', ⟨(hg1.heap.obj y o h3).lt hb', rest y o h1 h2 h3 hb'⟩, (L2old y h2).1⟩
    rcases hheap y o hy with ⟨i, o0, hi, rfl, h2, rfl⟩ | ⟨h1, h2, h3⟩ <;> rcases hheap z p hz with ⟨j, p0, hj, rfl, g2, rfl⟩ | ⟨g1, g2, g3⟩
    · have hb1 : Backed L' i o0 := (Backed_ren (R := R) (L := L') (L' := L2) i o0 (L2in i hi).2).1 hby
      have hb2 : Backed L' j p0 := (Backed_ren (R := R) (L := L') (L' := L2) j p0 (L2in j hj).2).1 hbz
      rw [(L2in i hi).1, (L2in j hj).1] at hyz
      rw [hinj i j o0 p0 h2 g2 hb1 hb2 hyz]
    · exfalso
      have hb1 : Backed L' i o0 := (Backed_ren (R := R) (L := L') (L' := L2) i o0 (L2in i hi).2).1 hby
      obtain ⟨q1, q2, q3⟩ := out z p g1 g2 g3 hbz
      rw [(L2in i hi).1, q3] at hyz
      exact q2.2 (by rw [← hyz]; exact (hown i o0 h2 hb1).2.2 (by rw [hyz]; exact q2.1))
    · exfalso
      have hb2 : Backed L' j p0 := (Backed_ren (R := R) (L := L') (L' := L2) j p0 (L2in j hj).2).1 hbz
      obtain ⟨q1, q2, q3⟩ := out y o h1 h2 h3 hby
      rw [(L2in j hj).1, q3] at hyz
      exact q2.2 (by rw [hyz]; exact (hown j p0 g2 hb2).2.2 (by rw [← hyz]; exact q2.1))
    · obtain ⟨q1, q2, q3⟩ := out y o h1 h2 h3 hby
      obtain ⟨q4, q5, q6⟩ := out z p g1 g2 g3 hbz
      rw [q3, q6] at hyz
      exact hg1.heap.inj y z o p h3 g3 q1 q4 hyz
  · intro t u ht
    rcases henv t u ht with ⟨rfl, rfl⟩ | ⟨h1, h2⟩
    · refine ⟨x, ?_, ?_⟩
      · simp [Act.put, Array.getElem?_setIfInBounds, hd t rfl]
      · exact (RepV.ren (R := R) (L := L') (L' := L2) v x fun j hj => L2in j (b6 j (namesOf_mem j v hj))).2 hv
    · obtain ⟨y, hy, hry⟩ := hg1.env t u h2
      refine ⟨y, ?_, RepV.mono tr u y (fun j hj => L2old j fun hm => (hunn j (.inl hm)).env t u h2 hj) hry⟩
      cases d with
      | none => exact hy
      | some d =>
        simp only [Act.put]
        rw [Array.getElem?_setIfInBounds_ne (by rintro rfl; exact h1 rfl)]; exact hy
  · cases d with
    | none => exact hg.dfr
    | some d => exact hg.dfr
  · intro b hb
    obtain ⟨k1, k2⟩ := hg.mks b hb
    have hnl : ¬ Lent b := ?_
    · refine ⟨?_, by rw [hs2]; exact hCn b (block_lt k1) hnl k2⟩
      rw [(hkeep b (block_lt k1) hnl k2).1]; exact k1
    intro hlb
    obtain ⟨i, o, hi, hbk, rfl⟩ := (hL0 _).1 hlb
    have := hH0obj i o hi
    cases o with
    | box c => obtain ⟨c', T, hc, _⟩ := this; rw [k1] at hc; cases hc
    | arr sz es =>
      obtain ⟨_, _, h⟩ := this
      rcases h with ⟨_, hk⟩ | ⟨c, T, hc, _⟩
      · exact hbk hk
      · rw [k1] at hc; cases hc
    | map kvs => obtain ⟨en, c, hc, _⟩ := this; rw [k1] at hc; cases hc
    | iter s n => have hc : w.heap[L.ρ (R i)]? = _ := this; rw [k1] at hc; cases hc
  · intro l hl
    obtain ⟨lp, ⟨k1, k0⟩, k2⟩ := hg.lk l hl
    have hnl : ¬ Lent l := ?_
    · refine ⟨lp, ⟨?_, k0⟩, by rw [hs2]; exact hCn l (block_lt k1) hnl k2⟩
      rw [(hkeep l (block_lt k1) hnl k2).1]; exact k1
    intro hlb
    obtain ⟨i, o, hi, hbk, rfl⟩ := (hL0 _).1 hlb
    have := hH0obj i o hi
    cases o with
    | box c => obtain ⟨c', T, hc, _⟩ := this; rw [k1] at hc; cases hc
    | arr sz es =>
      obtain ⟨_, _, h⟩ := this
      rcases h with ⟨_, hk⟩ | ⟨c, T, hc, _⟩
      · exact hbk hk
      · rw [k1] at hc; cases hc
    | map kvs => obtain ⟨en, c, hc, _⟩ := this; rw [k1] at hc; cases hc
    | iter s n => have hc : w.heap[L.ρ (R i)]? = _ := this; rw [k1] at hc; cases hc
  · intro i hi
    have hn : i ∉ NL := fun hm => by have := hNL100 i hm; unfold pinned at hi; omega
    rw [(L2old i hn).1, (L2old i hn).2]
    exact hg.pin i hi
  · rw [put_size]; exact hg.tsz

/-- What is lent, as the callee gets it. -/
theorem heap_lent {σ : Type} {cx : Cx σ} {r : Option Nat} {m : List Nat} {L : Loc} {F : Nat → Nat} {st : St σ} {a : Act} {w : World} {tb : List Nat} {R : Nat → Nat} {h h0 : Heap} (hh : SubT h st.heap) (hlent : lentOk R h 1000000 tb h0)
    (Rlent : ∀ k id, tb[k]? = some id → R (1000000 + k) = id) (htb : tb.Nodup) (hg : Good cx r m L F st a w) :
    HeapOk cx ⟨fun i => L.ρ (R i), fun i => L.κ (R i)⟩ F h0 st.s w := by
  have hh0 := lent_at hh hlent Rlent
  refine ⟨hg.heap.hg, hg.heap.csz, hg.heap.fresh, fun i o hi => ?_, fun i o hi hbk => ?_, fun i j o p hi hj hbi hbj hij => ?_⟩
  · obtain ⟨k, id, rfl, h2, h3, h4⟩ := hh0 i o hi
    have := hg.heap.obj id _ h4
    rw [← h3] at this
    exact (RepO.ren (R := R) (L := ⟨fun i => L.ρ (R i), fun i => L.κ (R i)⟩) (L' := L) (1000000 + k) o (fun _ _ => ⟨rfl, rfl⟩) ⟨rfl, rfl⟩).1 this
  · obtain ⟨k, id, h1, h2, h3, h4⟩ := hh0 i o hi
    have hb' : Backed L id (renO R o) := by rw [← h3]; exact (Backed_ren (R := R) (L := ⟨fun i => L.ρ (R i), fun i => L.κ (R i)⟩) (L' := L) i o rfl).2 hbk
    obtain ⟨k1, k2⟩ := hg.heap.own id _ h4 hb'
    rw [← h3] at k1 k2
    exact ⟨k1, k2⟩
  · obtain ⟨k, id, h1, h2, h3, h4⟩ := hh0 i o hi
    obtain ⟨k', id', h1', h2', h3', h4'⟩ := hh0 j p hj
    have hb1 : Backed L id (renO R o) := by rw [← h3]; exact (Backed_ren (R := R) (L := ⟨fun i => L.ρ (R i), fun i => L.κ (R i)⟩) (L' := L) i o rfl).2 hbi
    have hb2 : Backed L id' (renO R p) := by rw [← h3']; exact (Backed_ren (R := R) (L := ⟨fun i => L.ρ (R i), fun i => L.κ (R i)⟩) (L' := L) j p rfl).2 hbj
    have hij : L.ρ (R i) = L.ρ (R j) := hij
    have := hg.heap.inj id id' _ _ h4 h4' hb1 hb2 (by rw [← h3, ← h3']; exact hij)
    subst this
    rw [h1, h1', nodup_get htb h2 h2']

/-- What stands around a callee: what stands around the caller, and what is the caller's own and not lent. -/
def lendCx {σ : Type} (cx : Cx σ) (s0 : σ) (w : World) (F : Nat → Nat) (Lent : Nat → Prop) : Cx σ where
  C := fun s b => cx.C s b ∨ (b < w.heap.size ∧ ¬ Lent b)
  HG := fun s w' F' => cx.HG s w' F' ∧ w.heap.size ≤ w'.heap.size ∧ (∀ b, b < w.heap.size → ¬ cx.C s0 b → ¬ cx.C s b) ∧ ∀ b, b < w.heap.size → ¬ Lent b → ¬ cx.C s0 b → w'.heap[b]? = w.heap[b]? ∧ F' b = F b
  yv := cx.yv
  rcd := cx.rcd
  pρ := cx.pρ
  pκ := cx.pκ
  stable := by
    rintro s w1 F1 w2 F2 ⟨h1, h0, h2, h3⟩ tr hf hk
    refine ⟨cx.stable h1 tr hf fun b hb => hk b (.inl hb), Nat.le_trans h0 tr.size, h2, fun b hb hl hc => ?_⟩
    obtain ⟨k1, k2⟩ := hk b (.inr ⟨hb, hl⟩)
    obtain ⟨k3, k4⟩ := h3 b hb hl hc
    exact ⟨k1.trans k3, k2.trans k4⟩

theorem block_some {w : World} {b : Nat} (h : b < w.heap.size) : ∃ o, w.heap[b]? = some o := ⟨_, Array.getElem?_eq_getElem h⟩

theorem lendCx_handles {σ : Type} {P : Program} {Y : Hd σ} {cx : Cx σ} {s0 : σ} {w : World} {F : Nat → Nat} {Lent : Nat → Prop} (hY : Handles P Y cx) : Handles P Y (lendCx cx s0 w F Lent) := by
  intro l hl args h s Q hy L1 F1 vals w1 hh hr
  obtain ⟨hHG, hsz, hCn, hkeep⟩ := hh.hg
  obtain ⟨fn, tmps, asg, body, h1, h2⟩ := hY l hl args h s Q hy L1 F1 vals w1 ⟨hHG, fun b hb => hh.csz b (.inl hb), hh.fresh, hh.obj, fun id o ho hb => ⟨(hh.own id o ho hb).1, fun hC => (hh.own id o ho hb).2 (.inl hC)⟩, hh.inj⟩ hr
  refine ⟨fn, tmps, asg, body, h1, h2.mono ?_⟩
  rintro e w' ⟨x, he, v, h', s', L', F', hq, hh', hv, tr, pin, k1, k2, k3⟩
  have hin : ∀ b, b < w.heap.size → ¬ Lent b → b < w1.heap.size ∧ ∀ id o, get h id = some o → Backed L1 id o → L1.ρ id ≠ b := fun b hb hl =>
    ⟨hh.csz b (.inr ⟨hb, hl⟩), fun id o ho hbk e => (hh.own id o ho hbk).2 (.inr ⟨by rw [e]; exact hb, by rw [e]; exact hl⟩)⟩
  refine ⟨x, he, v, h', s', L', F', hq, ⟨⟨hh'.hg, Nat.le_trans hsz tr.size, fun b hb hc => k1 b (Nat.lt_of_lt_of_le hb hsz) (hCn b hb hc), fun b hb hl hc => ?_⟩, fun b hb => ?_, hh'.fresh, hh'.obj, fun id o ho hb => ⟨(hh'.own id o ho hb).1, fun hC => ?_⟩, hh'.inj⟩, hv, tr, pin, fun b hb hC hC' => ?_, fun b hb hC => k2 b hb (fun h => hC (.inl h)), k3⟩
  · obtain ⟨p1, p2⟩ := hin b hb hl
    obtain ⟨q1, q2⟩ := hkeep b hb hl hc
    obtain ⟨r1, r2⟩ := k2 b p1 (hCn b hb hc) p2
    exact ⟨r1.trans q1, r2.trans q2⟩
  · rcases hb with hb | ⟨hb, hl⟩
    · exact hh'.csz b hb
    · exact Nat.lt_of_lt_of_le (hin b hb hl).1 tr.size
  · rcases hC with hC | ⟨c1, c2⟩
    · exact (hh'.own id o ho hb).2 hC
    · obtain ⟨p1, p2⟩ := hin _ c1 c2
      obtain ⟨id', o', ho', hb', e⟩ := k3 id o ho hb p1
      exact p2 id' o' ho' hb' e
  · rcases hC' with hC' | hC'
    · exact k1 b hb (fun h => hC (.inl h)) hC'
    · exact hC (.inr hC')

/-- A call, at a caller's frame. -/
theorem call_run {σ : Type} {P : Program} {Y : Hd σ} {f : FuncId} {args0 : List V} {h0 : Heap} {Q : V → Heap → σ → Prop} {cx : Cx σ} {r : Option Nat} {m : List Nat} {L : Loc} {F : Nat → Nat} {st : St σ} {a : Act} {w : World} (hf : FnC P Y f args0 h0 st.s Q)
    (tb : List Nat) {h : Heap} {d : Option Nat} {args : List V} (hargs : renL (callR tb (d.getD 0)) args0 = args) (hlent : lentOk (callR tb (d.getD 0)) h 1000000 tb h0) (htb : nodupB tb = true) (hln : Nat.ble tb.length 1000 = true)
    (hY : Handles P Y cx) (hh : SubT h st.heap) (hg : Good cx r m L F st a w) (hd : ∀ k, d = some k → k < a.tmps.size) {vals : Array Value} (hr : RepVL cx.yv L F w args vals.toList) :
    CallsIn Fence.wide 0 P f vals w fun e w' => ∃ x, e = .returned x ∧ ∃ v h' s', Q v h' s' ∧ (callB tb d v h' = true → ∃ L2 F', Good cx r m L2 F' (applyWs ⟨st.env, st.heap, s'⟩ (callWs tb d v h')) (a.put d x) w' ∧ Tr F w F' w') := by
  have htb := nodupB_spec htb
  have hln := Nat.le_of_ble_eq_true hln
  obtain ⟨R, hR⟩ : ∃ R, R = callR tb (d.getD 0) := ⟨_, rfl⟩
  have Rlent : ∀ k id, tb[k]? = some id → R (1000000 + k) = id := fun k id hk => by rw [hR]; exact callR_lent hk hln
  rw [← hR] at hargs hlent
  subst hargs
  have hH := heap_lent hh hlent Rlent htb hg
  have hH0 : HeapOk (lendCx cx st.s w F (LentB R L h0)) ⟨fun i => L.ρ (R i), fun i => L.κ (R i)⟩ F h0 st.s w :=
    ⟨⟨hg.heap.hg, Nat.le_refl _, fun b hb hc => hc, fun b hb hl hc => ⟨rfl, rfl⟩⟩, fun b hb => hb.elim (hg.heap.csz b) (fun h => h.1), hH.fresh, hH.obj, fun i o hi hbk => ⟨(hH.own i o hi hbk).1, fun hC => hC.elim (hH.own i o hi hbk).2 fun hC => hC.2 ⟨i, o, hi, hbk, rfl⟩⟩, hH.inj⟩
  have hargs' : RepVL cx.yv ⟨fun i => L.ρ (R i), fun i => L.κ (R i)⟩ F w args0 vals.toList := (RepVL.ren (R := R) args0 _ fun _ _ => ⟨rfl, rfl⟩).1 hr
  have hcall := hf.run _ (lendCx_handles hY) _ F vals w hH0 hargs'
  refine hcall.mono ?_
  rintro en w' ⟨x, rfl, v, h', s', L', F', hq, hH', hv, tr, pin⟩
  refine ⟨x, rfl, v, h', s', hq, fun hB => ?_⟩
  obtain ⟨hHG, _, hCn, hkeep⟩ := hH'.hg
  obtain ⟨L2, hg2⟩ := good_after hB hR.symm hh hlent hg hd hHG (fun b hb => hH'.csz b (.inl hb)) (fun b hb hl hc => hCn b hb hc) hkeep hH'.fresh hH'.obj
    (fun i o hi hb => ⟨(hH'.own i o hi hb).1, fun hC => (hH'.own i o hi hb).2 (.inl hC), fun hlt => Classical.byContradiction fun hl => (hH'.own i o hi hb).2 (.inr ⟨hlt, hl⟩)⟩)
    hH'.inj hv tr pin
  exact ⟨L2, F', hg2, tr⟩

/-- A contract, at a caller's frame. -/
theorem outCall_of {P : Program} {f : FuncId} {args0 : List V} {h0 : Heap} {v0 : V} {h1 : Heap} (hf : FnU P f args0 h0 fun v h' => v = v0 ∧ h' = h1) (tb : List Nat) {e : Env} {h : Heap} {d : Option Nat} {args : List V}
    (hargs : renL (callR tb (d.getD 0)) args0 = args) (hlent : lentOk (callR tb (d.getD 0)) h 1000000 tb h0) (hB : callB tb d v0 h1 = true) : OutCall P e h d f args (callWs tb d v0 h1) := by
  refine ⟨(hf (σ := Unit) ⟨fun _ _ _ _ => False⟩ ()).enter, ?_⟩
  intro σ cx r m L F st a w vals he hh hg hd hr
  have hB0 := hB
  simp only [callB, Bool.and_eq_true] at hB0
  obtain ⟨⟨⟨⟨⟨⟨⟨⟨⟨b1, b2⟩, b3⟩, b4⟩, b5⟩, b6⟩, b7⟩, b8⟩, b9⟩, _⟩ := hB0
  refine (call_run (hf (⟨fun _ _ _ _ => False⟩ : Hd σ) st.s) tb hargs hlent b1 b9 (fun _ _ _ _ _ _ hy => hy.elim) hh hg hd hr).mono ?_
  rintro en w' ⟨x, rfl, v, h', s', ⟨⟨rfl, rfl⟩, rfl⟩, hk⟩
  obtain ⟨L2, F', hg2, tr⟩ := hk hB
  exact ⟨x, rfl, L2, F', hg2, tr⟩

/-- A call that may call yield. -/
theorem callY_of {σ : Type} {P : Program} {Y : Hd σ} {f : FuncId} {args0 : List V} {h0 : Heap} {s : σ} {Q : V → Heap → σ → Prop} (hf : FnC P Y f args0 h0 s Q) (tb : List Nat) {e : Env} {h : Heap} {d : Option Nat} {args : List V} {K : St σ → Prop}
    (hargs : renL (callR tb (d.getD 0)) args0 = args) (hlent : lentOk (callR tb (d.getD 0)) h 1000000 tb h0) (htb : nodupB tb = true) (hln : Nat.ble tb.length 1000 = true)
    (hq : ∀ v h1 s', Q v h1 s' → callB tb d v h1 = true ∧ K (applyWs ⟨e, h, s'⟩ (callWs tb d v h1))) : CallA P Y ⟨e, h, s⟩ d f args K := by
  refine ⟨hf.enter, fun cx hY r m L F a w vals hg hd hr => ?_⟩
  refine (call_run (st := ⟨e, h, s⟩) hf tb hargs hlent htb hln hY (fun _ _ h => h) hg hd hr).mono ?_
  rintro en w' ⟨x, rfl, v, h', s', hv, hk⟩
  obtain ⟨hB, hK⟩ := hq _ _ _ hv
  obtain ⟨L2, F', hg2, tr⟩ := hk hB
  exact ⟨x, rfl, _, L2, F', hK, hg2, tr⟩

/-- A call of yield. -/
theorem yldY_of {σ : Type} {P : Program} {Y : Hd σ} {args0 : List V} {h0 : Heap} {s : σ} {Q : V → Heap → σ → Prop} (tb : List Nat) {e : Env} {h : Heap} {d : Option Nat} {args : List V} {K : St σ → Prop} (hy : Y.y args0 h0 s Q)
    (hargs : renL (callR tb (d.getD 0)) args0 = args) (hlent : lentOk (callR tb (d.getD 0)) h 1000000 tb h0) (htb : nodupB tb = true) (hln : Nat.ble tb.length 1000 = true)
    (hq : ∀ v h1 s', Q v h1 s' → callB tb d v h1 = true ∧ K (applyWs ⟨e, h, s'⟩ (callWs tb d v h1))) : YldA P Y ⟨e, h, s⟩ d args K := by
  refine ⟨fun cx hY l hl r m L F a w vals hg hd hr => ?_⟩
  have htb := nodupB_spec htb
  have hln := Nat.le_of_ble_eq_true hln
  obtain ⟨R, hR⟩ : ∃ R, R = callR tb (d.getD 0) := ⟨_, rfl⟩
  have Rlent : ∀ k id, tb[k]? = some id → R (1000000 + k) = id := fun k id hk => by rw [hR]; exact callR_lent hk hln
  rw [← hR] at hargs hlent
  subst hargs
  have hH := heap_lent (st := ⟨e, h, s⟩) (fun _ _ h => h) hlent Rlent htb hg
  obtain ⟨fn, tmps, asg, body, h1, h2⟩ := hY l hl args0 h0 s Q hy ⟨fun i => L.ρ (R i), fun i => L.κ (R i)⟩ F vals w hH ((RepVL.ren (R := R) args0 _ fun _ _ => ⟨rfl, rfl⟩).1 hr)
  refine ⟨fn, tmps, asg, body, h1, h2.mono ?_⟩
  rintro en w' ⟨x, rfl, v, h', s', L', F', hv, hH', hrv, tr, pin, k1, k2, k3⟩
  obtain ⟨hB, hK⟩ := hq _ _ _ hv
  have hnl : ∀ b, ¬ LentB R L h0 b → ∀ id o, get h0 id = some o → Backed ⟨fun i => L.ρ (R i), fun i => L.κ (R i)⟩ id o → L.ρ (R id) ≠ b := fun b hb id o ho hbk e => hb ⟨id, o, ho, hbk, e⟩
  obtain ⟨L2, hg2⟩ := good_after (st := ⟨e, h, s⟩) hB hR.symm (fun _ _ h => h) hlent hg hd hH'.hg hH'.csz (fun b hb hl hc => k1 b hb hc) (fun b hb hl hc => k2 b hb hc (hnl b hl)) hH'.fresh hH'.obj
    (fun i o hi hb => ⟨(hH'.own i o hi hb).1, (hH'.own i o hi hb).2, fun hlt => by
      obtain ⟨id', o', ho', hb', e'⟩ := k3 i o hi hb hlt
      exact ⟨id', o', ho', hb', e'⟩⟩)
    hH'.inj hrv tr pin
  exact ⟨x, rfl, _, L2, F', hK, hg2, tr⟩

end Go.PX
