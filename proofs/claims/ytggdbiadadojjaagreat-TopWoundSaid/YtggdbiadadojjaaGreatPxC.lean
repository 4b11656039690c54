import Derived.Test.YtggdbiadadojjaaGreatPxB
import Derived.Great.BuildSlice
import Derived.Deep.AppendSrc
set_option linter.all false
namespace Go.PX
open Go.RowKit
section
variable {yv : Option Nat} {L : Loc} {F : Nat → Nat} {w : World}
theorem RepD.one {a : D} {v : Value} (h : RepD F w a v) (hs : a.scalar = true) : v.oneCell' = true := by
 cases a <;> simp [D.scalar] at hs <;> simp only [RepD] at h
 case bool => subst h; rfl
 case int => subst h; rfl
 case str => subst h; rfl
 case vs => obtain ⟨a, len, cap, rfl, _⟩ := h; rfl
 case nils => subst h; rfl
 case ref => obtain ⟨b, off, rfl, _⟩ := h; rfl
 case nilp => subst h; rfl
 case mv => obtain ⟨r, en, c, rfl, _⟩ := h; rfl
 case nilm => subst h; rfl
 case clo => obtain ⟨l, rfl, _⟩ := h; rfl
 case mth => obtain ⟨l, rfl, _⟩ := h; rfl
 case nilf => subst h; rfl
 case ifc => obtain ⟨y, rfl, _⟩ := h; rfl
 case nili => subst h; rfl
theorem RepV.one {a : V} {v : Value} (h : RepV yv L F w a v) (hs : a.scalar = true) : v.oneCell' = true := by
 cases a <;> simp [V.scalar] at hs <;> simp only [RepV] at h
 case d => exact RepD.one h hs
 case ptr => subst h; rfl
 case ep => subst h; rfl
 case sl => obtain ⟨a, cap, rfl, _⟩ := h; rfl
 case mp => subst h; rfl
 case it => subst h; rfl
 case clo => obtain ⟨l, rfl, _⟩ := h; rfl
 case yld => obtain ⟨l, _, rfl⟩ := h; rfl
 case unk => exact h
theorem one_cells {v : Value} (h : v.oneCell' = true) : v.cells.toList = [v] := by
 cases v <;> simp_all [Value.oneCell', Value.cells]
theorem RepV.cells {a : V} {v : Value} (h : RepV yv L F w a v) (hs : a.cells.ok = true) : RepVL yv L F w a.cells.toV v.cells.toList := by
 have key : a.scalar = true → a.cells.toV = [a] → RepVL yv L F w a.cells.toV v.cells.toList := fun h1 h2 => by
  rw [h2, one_cells (h.one h1)]; exact ⟨v, [], rfl, h, rfl⟩
 cases a with
 | d x =>
  cases x with
  | agg cs =>
   obtain ⟨l, rfl, hl⟩ := h
   exact RepVL.inj.2 hl
  | tup cs => simp [V.cells, Cells.ok, allScalarD, D.scalar] at hs
  | _ => exact key rfl rfl
 | agg cs =>
  obtain ⟨l, rfl, hl⟩ := h
  exact hl
 | tup cs => simp [V.cells, Cells.ok, allScalar, V.scalar] at hs
 | _ => exact key rfl rfl
theorem allScalar_inj : ∀ (l : List D), allScalar (inj l) = allScalarD l
 | [] => rfl
 | c :: r => by simp [inj, allScalar, allScalarD, V.scalar, allScalar_inj r]
theorem Cells.ok_eq (c : Cells) : c.ok = allScalar c.toV := by
 cases c
 ·exact (allScalar_inj _).symm
 ·rfl
theorem allScalar_mem : ∀ {l : List V}, allScalar l = true → ∀ v ∈ l, v.scalar = true
 | [], _, v, hv => by cases hv
 | x :: r, h, v, hv => by
  simp only [allScalar, Bool.and_eq_true] at h
  rcases List.mem_cons.1 hv with rfl | hv
  ·exact h.1
  ·exact allScalar_mem h.2 v hv
theorem RepVL.one {cs : List V} {l : List Value} (h : RepVL yv L F w cs l) (hs : allScalar cs = true) : ∀ v ∈ l, v.oneCell' = true := by
 intro v hv
 obtain ⟨i, hi, rfl⟩ := List.getElem_of_mem hv
 have hlen := h.length
 have hc : cs[i]? = some cs[i] := List.getElem?_eq_getElem (by omega)
 obtain ⟨y, hy, hr⟩ := h.get i hc
 rw [List.getElem?_eq_getElem hi] at hy
 cases hy
 exact hr.one (allScalar_mem hs _ (List.getElem_mem _))
theorem RepDL_zero {v : Value} {z : List D} (h : zeroCells v = some z) : RepDL F w z v.cells.toList := by
 unfold zeroCells at h
 have sc : ∀ {d : D}, ofScalar v = some d → v.cells.toList = [v] ∧ RepD F w d v := by
  intro d hd
  refine ⟨?_, RepD_ofScalar hd⟩
  unfold ofScalar at hd
  split at hd <;> first | (cases hd; done) | rfl
 split at h
 ·rename_i l hl
  cases h
  unfold ofConst at hl
  split at hl
  ·rename_i cs
   cases hs : ofScalars cs.toList with
   | none => rw [hs] at hl; cases hl
   | some l' => rw [hs] at hl; cases hl; exact RepDL_ofScalars hs
  ·rename_i cs
   split at hl
   ·cases hl
   ·cases hl
  ·unfold ofScalar at hl
   split at hl <;> cases hl
 ·cases h
 ·rename_i d h1 h2 hd
  cases h
  unfold ofConst at hd
  split at hd
  ·rename_i cs
   cases hs : ofScalars cs.toList with
   | none => rw [hs] at hd; cases hd
   | some l' => rw [hs] at hd; cases hd; exact absurd rfl (h1 _)
  ·rename_i cs
   split at hd
   ·cases hd; exact absurd rfl (h2 _)
   ·cases hd
  ·obtain ⟨e1, e2⟩ := sc hd
   rw [e1]; exact ⟨v, [], rfl, e2, rfl⟩
 ·cases h
end
section
variable {P : Program} {T : Tys} {e : Env} {h : Heap} {dst : Option Nat} {K : List Wr → Prop} {ty : TypeId} {pos : String} {after : Array Edge} {guard : Option (Nat × Bool)}
theorem out_mth {fn : Fn} {first caps : Array Operand} (hk : mthK e dst fn first.toList caps.toList K) : ∃ ws, K ws ∧ Out P e h ⟨dst, .makeFunc fn first caps, ty, pos, after, guard⟩ ws := by
 generalize hf : first.toList = fl at hk
 generalize hc : caps.toList = cl at hk
 unfold mthK at hk
 split at hk
 case h_2 => exact hk.elim
 rename_i f x r
 split at hk
 case h_2 => exact hk.elim
 rename_i l hl
 split at hk
 case h_2 => exact hk.elim
 rename_i ds hd
 have hc0 : caps = #[] := by simpa using hc
 subst hc0
 refine ⟨_, hk, out_val (v := .d (.mth f ds)) (o := ⟨dst, .makeFunc (.func f) first #[], ty, pos, after, guard⟩) fun cx r m L F st a w he hh hg => ⟨.func (.func f) (first.map a.eval) #[], by simp [execOp, Instr.makeFunc], _, rfl, ?_⟩⟩
 have := hg.opnds (opnds_sub he hl)
 rw [dsOf_eq hd, ← hf] at this
 simpa using RepVL.inj.1 this
theorem out_makeFunc {fn : Fn} {first caps : Array Operand} (hk : opK T e h dst (.makeFunc fn first caps) K) : ∃ ws, K ws ∧ Out P e h ⟨dst, .makeFunc fn first caps, ty, pos, after, guard⟩ ws := by
 simp only [opK] at hk
 split at hk
 case h_2 => exact out_mth hk
 rename_i f l hf hl
 have hf0 : first = #[] := by simpa using hf
 subst hf0
 have run : ∀ (a : Act) (w : World), (execOp a.eval ⟨dst, .makeFunc (.func f) #[] caps, ty, pos, after, guard⟩).run P w = .ok (.value (.func (.func f) #[] (caps.map a.eval))) w := fun a w => by
  simp [execOp, Instr.makeFunc]
 split at hk
 ·rename_i ds hd
  refine ⟨_, hk, out_val (v := .d (.clo f ds)) (o := ⟨dst, .makeFunc (.func f) #[] caps, ty, pos, after, guard⟩) fun cx r m L F st a w he hh hg => ⟨_, run a w, _, rfl, ?_⟩⟩
  have := hg.opnds (opnds_sub he hl)
  rw [dsOf_eq hd] at this
  simpa using RepVL.inj.1 this
 ·refine ⟨_, hk, out_val (v := .clo f l) (o := ⟨dst, .makeFunc (.func f) #[] caps, ty, pos, after, guard⟩) fun cx r m L F st a w he hh hg => ⟨_, run a w, _, rfl, ?_⟩⟩
  simpa using hg.opnds (opnds_sub he hl)
theorem sliceK_t {n : Nat} {lo hi : Option V} {K : Nat → Nat → Prop} (hk : sliceK n lo hi K) :
  ∃ l u, K l u ∧ l ≤ u ∧ u ≤ n ∧ ∀ (cap : Nat) (isS : Bool) (lv hv : Option Value) (w : World), n ≤ cap →
   (∀ v, lo = some v → ∃ x, lv = some x ∧ ∀ k i, v = .d (.int k i) → x = .int k i) → (lo = none → lv = none) → (∀ v, hi = some v → ∃ x, hv = some x ∧ ∀ k i, v = .d (.int k i) → x = .int k i) → (hi = none → hv = none) →
   (Instr.sliceBounds isS n cap lv hv none).run P w = .ok (l, u, cap) w := by
 unfold sliceK at hk
 split at hk
 ·split at hk
  ·refine ⟨_, _, hk, Nat.zero_le _, Nat.le_refl _, fun cap isS lv hv w hc h1 h2 h3 h4 => ?_⟩
   rw [h2 rfl, h4 rfl]
   simp [Instr.sliceBounds]
  ·rename_i k i
   obtain ⟨hb, hk⟩ := chk_t hk
   simp only [Bool.and_eq_true, decide_eq_true_eq] at hb
   refine ⟨_, _, hk, by omega, Nat.le_refl _, fun cap isS lv hv w hc h1 h2 h3 h4 => ?_⟩
   obtain ⟨x, rfl, hx⟩ := h1 _ rfl
   rw [h4 rfl, hx _ _ rfl]
   simp [Instr.sliceBounds, Instr.sliceBound, asIntOf, hb.1, hb.2]
  ·exact hk.elim
 ·rename_i k i
  obtain ⟨hb, hk⟩ := chk_t hk
  simp only [Bool.and_eq_true, decide_eq_true_eq] at hb
  split at hk
  ·refine ⟨_, _, hk, Nat.zero_le _, by omega, fun cap isS lv hv w hc h1 h2 h3 h4 => ?_⟩
   obtain ⟨x, rfl, hx⟩ := h3 _ rfl
   rw [h2 rfl, hx _ _ rfl]
   have hic : i ≤ (cap : Int) := by omega
   simp [Instr.sliceBounds, Instr.sliceBound, asIntOf, hb.1, hic]
  ·rename_i k' j _
   obtain ⟨hb', hk⟩ := chk_t hk
   simp only [Bool.and_eq_true, decide_eq_true_eq] at hb'
   refine ⟨_, _, hk, by omega, by omega, fun cap isS lv hv w hc h1 h2 h3 h4 => ?_⟩
   obtain ⟨x, rfl, hx⟩ := h3 _ rfl
   obtain ⟨y, rfl, hy⟩ := h1 _ rfl
   rw [hx _ _ rfl, hy _ _ rfl]
   have hic : i ≤ (cap : Int) := by omega
   have h2 : j ≤ max i 0 := by omega
   simp [Instr.sliceBounds, Instr.sliceBound, asIntOf, hb.1, hic, hb'.1, h2]
  ·exact hk.elim
 ·exact hk.elim
theorem opndO_t {σ : Type} {cx : Cx σ} {r : Option Nat} {m : List Nat} {L : Loc} {F : Nat → Nat} {st : St σ} {a : Act} {w : World} (hg : Good cx r m L F st a w) (he : SubT e st.env) {x : Option Operand} {v : Option V}
  (hx : opndO e x = some v) : (∀ u, v = some u → ∃ y, x.map a.eval = some y ∧ RepV cx.yv L F w u y) ∧ (v = none → x.map a.eval = none) := by
 cases x with
 | none => simp only [opndO, Option.some.injEq] at hx; subst hx; exact ⟨(fun u hu => by cases hu), fun _ => rfl⟩
 | some x =>
  simp only [opndO] at hx
  split at hx
  ·rename_i u hu
   cases hx
   exact ⟨fun u' hu' => by cases hu'; exact ⟨_, rfl, hg.opnd (opnd_sub he hu)⟩, fun h => by cases h⟩
  ·cases hx
theorem out_slice (hT : TysOk P T) {t : TypeId} {x : Operand} {lo hi mx : Option Operand} (hk : opK T e h dst (.slice t x lo hi mx) K) : ∃ ws, K ws ∧ Out P e h ⟨dst, .slice t x lo hi mx, ty, pos, after, guard⟩ ws := by
 simp only [opK] at hk
 split at hk
 ·exact hk.elim
 split at hk
 case h_2 => exact hk.elim
 rename_i ti v l u ht hv hl hu
 obtain ⟨d, hun, hkd⟩ := kd_under hT ht
 have bnds : ∀ {σ : Type} {cx : Cx σ} {r : Option Nat} {m : List Nat} {L : Loc} {F : Nat → Nat} {st : St σ} {a : Act} {w : World}, Good cx r m L F st a w → SubT e st.env →
   (∀ v, l = some v → ∃ x, lo.map a.eval = some x ∧ ∀ k i, v = .d (.int k i) → x = .int k i) ∧ (l = none → lo.map a.eval = none) ∧ (∀ v, u = some v → ∃ x, hi.map a.eval = some x ∧ ∀ k i, v = .d (.int k i) → x = .int k i) ∧ (u = none → hi.map a.eval = none) := by
  intro σ cx r m L F st a w hg he
  obtain ⟨h1, h2⟩ := opndO_t hg he hl
  obtain ⟨h3, h4⟩ := opndO_t hg he hu
  refine ⟨fun v hv => ?_, h2, fun v hv => ?_, h4⟩
  ·obtain ⟨y, hy, hr⟩ := h1 v hv
   exact ⟨y, hy, fun k i e => by subst e; exact hr⟩
  ·obtain ⟨y, hy, hr⟩ := h3 v hv
   exact ⟨y, hy, fun k i e => by subst e; exact hr⟩
 split at hk
 ·rename_i el es hk1
  rw [hk1] at hkd
  have := kdOf_slice hkd.symm; subst this
  obtain ⟨p, q, hk, hpq, hqn, hrun⟩ := sliceK_t (P := P) hk
  obtain ⟨hsz, hk⟩ := chk_t hk
  refine ⟨_, hk, out_val (v := .d (.vs ((es.take q).drop p))) (o := ⟨dst, .slice t x lo hi none, ty, pos, after, guard⟩) fun cx r m L F st a w he hh hg => ?_⟩
  obtain ⟨a0, len, cap, hev, hlen, hcap, hes⟩ := hg.opnd (opnd_sub he hv)
  obtain ⟨b1, b2, b3, b4⟩ := bnds hg he
  have hr := hrun cap true _ _ w (by omega) b1 b2 b3 b4
  rw [← hlen] at hr
  unfold elSize at hsz
  split at hsz
  case h_2 => cases hsz
  rename_i ei hei
  refine ⟨.slice (if cap = p then a0 else a0.map (·.add (p * ei.size))) (q - p) (cap - p), ?_, _, _, _, rfl, by simp; omega, by omega, fun hne => ?_⟩
  ·simp [execOp, Instr.sliceAt, run_underlying hun, Instr.slice, hev, hr, run_size hT hei]
  have hne' : es ≠ [] := by rintro rfl; simp at hne
  obtain ⟨b, off, sz, rfl, hsz0, hat⟩ := hes hne'
  have hszn : sz = ei.size := by
   cases es with
   | nil => exact absurd rfl hne'
   | cons f g => exact hat.1.symm.trans (beq_t hsz)
  have hpl : p < q := by
   rcases Nat.lt_or_ge p q with h1 | h1
   ·exact h1
   ·exact absurd (List.drop_eq_nil_of_le (by simp; omega)) hne
  have : ¬ cap = p := by omega
  refine ⟨b, off + p * sz, sz, ?_, hsz0, RepEs.drop p (RepEs.take q hat)⟩
  rw [if_neg this, ← hszn]
  simp [add_none]
 ·rename_i el id sz off len hk1
  rw [hk1] at hkd
  have := kdOf_slice hkd.symm; subst this
  obtain ⟨p, q, hk, hpq, hqn, hrun⟩ := sliceK_t (P := P) hk
  obtain ⟨hsz, hk⟩ := chk_t hk
  refine ⟨_, hk, out_val (v := .sl id sz (off + p) (q - p)) (o := ⟨dst, .slice t x lo hi none, ty, pos, after, guard⟩) fun cx r m L F st a w he hh hg => ?_⟩
  obtain ⟨a0, cap, hev, hcap, hsz0, hb⟩ := hg.opnd (opnd_sub he hv)
  obtain ⟨b1, b2, b3, b4⟩ := bnds hg he
  have hr := hrun cap true _ _ w (by omega) b1 b2 b3 b4
  split at hsz
  case h_2 => cases hsz
  rename_i ei hei
  have hsz := beq_t hsz
  refine ⟨.slice (if cap = p then a0 else a0.map (·.add (p * ei.size))) (q - p) (cap - p), ?_, _, _, rfl, by omega, hsz0, ?_⟩
  ·simp [execOp, Instr.sliceAt, run_underlying hun, Instr.slice, hev, hr, run_size hT hei]
  rcases hb with ⟨h0, h1⟩ | ⟨rfl, hb⟩
  ·exact .inl (by omega)
  ·by_cases hcp : cap = p
   ·exact .inl (by omega)
   ·right
    rw [if_neg hcp, ← hsz]
    refine ⟨by simp [add_none, Nat.add_mul], ?_⟩
    have : off + p + (cap - p) = off + cap := by omega
    rw [this]; exact hb
 ·rename_i el hk1
  rw [hk1] at hkd
  have := kdOf_slice hkd.symm; subst this
  obtain ⟨p, q, hk, hpq, hqn, hrun⟩ := sliceK_t (P := P) hk
  obtain ⟨hsz, hk⟩ := chk_t hk
  refine ⟨_, hk, out_val (v := .d .nils) (o := ⟨dst, .slice t x lo hi none, ty, pos, after, guard⟩) fun cx r m L F st a w he hh hg => ?_⟩
  have hev : a.eval x = .slice none 0 0 := hg.opnd (opnd_sub he hv)
  obtain ⟨b1, b2, b3, b4⟩ := bnds hg he
  have hr := hrun 0 true _ _ w (by omega) b1 b2 b3 b4
  have hp0 : p = 0 := by omega
  have hq0 : q = 0 := by omega
  subst hp0 hq0
  obtain ⟨ii, dd, hii, hdd, _⟩ := hT t ti ht
  refine ⟨.slice none 0 0, ?_, rfl⟩
  have hsz : ∃ n, (sizeOf el).run P w = .ok n w := by
   split at hsz
   ·rename_i ei hei; exact ⟨_, run_size hT hei⟩
   ·cases hsz
  obtain ⟨n, hn⟩ := hsz
  simp [execOp, Instr.sliceAt, run_underlying hun, Instr.slice, hev, hr, hn]
 ·rename_i s hk1
  rw [hk1] at hkd
  have := kdOf_str hkd.symm; subst this
  obtain ⟨p, q, hk, hpq, hqn, hrun⟩ := sliceK_t (P := P) hk
  refine ⟨_, hk, out_val (v := .d (.str (s.extract p q))) (o := ⟨dst, .slice t x lo hi none, ty, pos, after, guard⟩) fun cx r m L F st a w he hh hg => ?_⟩
  have hev := eval_str hg he hv
  obtain ⟨b1, b2, b3, b4⟩ := bnds hg he
  have hr := hrun s.size false _ _ w (Nat.le_refl _) b1 b2 b3 b4
  exact ⟨.string (s.extract p q), by simp [execOp, Instr.sliceAt, run_underlying hun, Instr.slice, hev, hr], rfl⟩
 ·exact hk.elim
end
end Go.PX
namespace Go.PX
open Go.RowKit
mutual
theorem nameB_f {i : Nat} : ∀ {v : V}, nameB i v = false → ¬ namesV v i
 | .d _, _ => fun h => h
 | .agg cs, h => nameBL_f (l := cs) h
 | .tup cs, h => nameBL_f (l := cs) h
 | .clo _ cs, h => nameBL_f (l := cs) h
 | .ptr j _, h => fun e => by have e : j = i := e; subst e; simp [nameB] at h
 | .ep j _ _ _, h => fun e => by have e : j = i := e; subst e; simp [nameB] at h
 | .sl j _ _ _, h => fun e => by have e : j = i := e; subst e; simp [nameB] at h
 | .mp j, h => fun e => by have e : j = i := e; subst e; simp [nameB] at h
 | .it j, h => fun e => by have e : j = i := e; subst e; simp [nameB] at h
 | .yld, _ => fun h => h
 | .unk, _ => fun h => h
theorem nameBL_f {i : Nat} : ∀ {l : List V}, nameBL i l = false → ¬ namesVL l i
 | [], _ => fun h => h
 | v :: r, h => by
  simp only [nameBL, Bool.or_eq_false_iff] at h
  exact fun e => e.elim (nameB_f h.1) (nameBL_f h.2)
end
theorem injL_flatten (l : List (List D)) : (injL l).flatten = inj l.flatten := by
 induction l with
 | nil => rfl
 | cons x r ih => simp [injL, ih, inj_append]
theorem cells_free {i : Nat} {c : Cells} (h : c.free i = true) : ¬ namesVL c.toV i := by
 cases c with
 | dd l => exact namesVL_inj l i
 | vv l => exact nameBL_f (by simpa [Cells.free, Cells.toV] using h)
theorem els_free {i : Nat} {c : Els} (h : c.free i = true) : ¬ namesVL c.toV.flatten i := by
 cases c with
 | dd l => show ¬ namesVL (injL l).flatten i; rw [injL_flatten]; exact namesVL_inj _ i
 | vv l => exact nameBL_f (by simpa [Els.free, Els.toV] using h)
section
variable {P : Program} {T : Tys} {e : Env} {h : Heap} {dst : Option Nat} {K : List Wr → Prop} {ty : TypeId} {pos : String} {after : Array Edge} {guard : Option (Nat × Bool)}
theorem run_minL {F : Nat → Nat} {w : World} {yv : Option Nat} {L : Loc} : ∀ {r : List V} {k : IntKind} {x : Int} {v : D} {l : List Value}, minL k x r = some v → RepVL yv L F w r l →
  ∃ y, (l.foldlM Builtin.min2 (.int k x)).run P w = .ok y w ∧ RepD F w v y
 | [], k, x, v, l, h, hl => by
  simp only [minL, Option.some.injEq] at h
  subst h
  have : l = [] := hl
  subst this
  exact ⟨.int k x, by simp, rfl⟩
 | c :: r, k, x, v, l, h, hl => by
  obtain ⟨y, l', rfl, hc, hl'⟩ := hl
  cases c with
  | d c =>
   cases c <;> simp only [minL] at h <;> first | (cases h; done) | skip
   rename_i k' b
   have hc : y = .int k' b := hc
   subst hc
   obtain ⟨z, hz, hrz⟩ := run_minL h hl'
   refine ⟨z, ?_, hrz⟩
   have : (if b < x then b else x) = min x b := by simp only [Int.min_def]; split <;> split <;> omega
   simp [Builtin.min2, this, hz]
  | _ => simp [minL] at h
theorem run_maxL {F : Nat → Nat} {w : World} {yv : Option Nat} {L : Loc} : ∀ {r : List V} {k : IntKind} {x : Int} {v : D} {l : List Value}, maxL k x r = some v → RepVL yv L F w r l →
  ∃ y, (l.foldlM Builtin.max2 (.int k x)).run P w = .ok y w ∧ RepD F w v y
 | [], k, x, v, l, h, hl => by
  simp only [maxL, Option.some.injEq] at h
  subst h
  have : l = [] := hl
  subst this
  exact ⟨.int k x, by simp, rfl⟩
 | c :: r, k, x, v, l, h, hl => by
  obtain ⟨y, l', rfl, hc, hl'⟩ := hl
  cases c with
  | d c =>
   cases c <;> simp only [maxL] at h <;> first | (cases h; done) | skip
   rename_i k' b
   have hc : y = .int k' b := hc
   subst hc
   obtain ⟨z, hz, hrz⟩ := run_maxL h hl'
   refine ⟨z, ?_, hrz⟩
   have : (if x < b then b else x) = max x b := by simp only [Int.max_def]; split <;> split <;> omega
   simp [Builtin.max2, this, hz]
  | _ => simp [maxL] at h
theorem out_min {args : Array Operand} {tys : Array TypeId} (hk : builtinK T e h dst .min args tys K) : ∃ ws, K ws ∧ Out P e h ⟨dst, .call ⟨.builtin .min, args, tys⟩, ty, pos, after, guard⟩ ws := by
 simp only [builtinK] at hk
 split at hk
 case h_2 => exact hk.elim
 rename_i k x r hr
 split at hk
 case h_2 => exact hk.elim
 rename_i v hm
 refine ⟨_, hk, out_val (v := .d v) (o := ⟨dst, .call ⟨.builtin .min, args, tys⟩, ty, pos, after, guard⟩) fun cx r' m L F st a w he hh hg => ?_⟩
 obtain ⟨y, l', hev, hy, hl'⟩ := hg.opnds (opnds_sub he hr)
 have hy : y = .int k x := hy
 subst hy
 obtain ⟨z, hz, hrz⟩ := run_minL (P := P) hm hl'
 have he' : (args.map a.eval).toList = .int k x :: l' := by simpa using hev
 have hm' : (Builtin.min_ tys ty (args.map a.eval)).run P w = .ok z w := by
  simp only [Builtin.min_, he']
  exact hz
 exact ⟨z, by simp [execOp, resolve, invoke, builtin, hm'], hrz⟩
theorem out_max {args : Array Operand} {tys : Array TypeId} (hk : builtinK T e h dst .max args tys K) : ∃ ws, K ws ∧ Out P e h ⟨dst, .call ⟨.builtin .max, args, tys⟩, ty, pos, after, guard⟩ ws := by
 simp only [builtinK] at hk
 split at hk
 case h_2 => exact hk.elim
 rename_i k x r hr
 split at hk
 case h_2 => exact hk.elim
 rename_i v hm
 refine ⟨_, hk, out_val (v := .d v) (o := ⟨dst, .call ⟨.builtin .max, args, tys⟩, ty, pos, after, guard⟩) fun cx r' m L F st a w he hh hg => ?_⟩
 obtain ⟨y, l', hev, hy, hl'⟩ := hg.opnds (opnds_sub he hr)
 have hy : y = .int k x := hy
 subst hy
 obtain ⟨z, hz, hrz⟩ := run_maxL (P := P) hm hl'
 have he' : (args.map a.eval).toList = .int k x :: l' := by simpa using hev
 have hm' : (Builtin.max_ tys ty (args.map a.eval)).run P w = .ok z w := by
  simp only [Builtin.max_, he']
  exact hz
 exact ⟨z, by simp [execOp, resolve, invoke, builtin, hm'], hrz⟩
theorem RepKv.at {F : Nat → Nat} {w : World} : ∀ {kvs : List (D × D)} {es : List MapEntry} {i : Nat} {e : MapEntry}, RepKv F w kvs es → es[i]? = some e → ∃ k u, kvs[i]? = some (k, u) ∧ RepD F w k e.key ∧ RepD F w u e.val
 | [], es, i, e, hr, h => by
  have : es = [] := hr
  subst this; simp at h
 | (k, u) :: r, es, 0, e, hr, h => by
  obtain ⟨x, l, rfl, h1, h2, _⟩ := hr
  simp at h; subst h
  exact ⟨k, u, rfl, h1, h2⟩
 | (k, u) :: r, es, i + 1, e, hr, h => by
  obtain ⟨x, l, rfl, _, _, h3⟩ := hr
  simpa using RepKv.at h3 (by simpa using h)
theorem RepKv.get {F : Nat → Nat} {w : World} : ∀ {kvs : List (D × D)} {es : List MapEntry}, RepKv F w kvs es → es.length = kvs.length
 | [], es, h => by rw [show es = [] from h]; rfl
 | (k, v) :: r, es, h => by
  obtain ⟨en, es', rfl, _, _, hr⟩ := h
  simp [RepKv.get hr]
theorem out_len (hT : TysOk P T) {args : Array Operand} {tys : Array TypeId} (hk : builtinK T e h dst .len args tys K) : ∃ ws, K ws ∧ Out P e h ⟨dst, .call ⟨.builtin .len, args, tys⟩, ty, pos, after, guard⟩ ws := by
 simp only [builtinK] at hk
 split at hk
 case h_2 => exact hk.elim
 rename_i x t rest hargs htys
 split at hk
 case h_2 => exact hk.elim
 rename_i ti v ht hv
 obtain ⟨d, hun, hkd⟩ := kd_under hT ht
 have h0 : ∀ (a : Act), (args.map a.eval)[0]? = some (a.eval x) := by
  intro a
  have : args[0]? = some x := by
   have : args.toList[0]? = some x := by rw [hargs]; rfl
   simpa using this
  simp [this]
 have hty : tys[0]? = some t := by
  have : tys.toList[0]? = some t := by rw [htys]; rfl
  simpa using this
 have hrun : ∀ (a : Act) (w : World) v, (Builtin.len_ tys ty (args.map a.eval)).run P w = .ok v w → (execOp a.eval ⟨dst, .call ⟨.builtin .len, args, tys⟩, ty, pos, after, guard⟩).run P w = .ok (.value v) w := fun a w v hv => by
  simp [execOp, resolve, invoke, builtin, hv]
 have sl : ∀ (n : Nat) (el : TypeId), d = .slice el → (∀ (yv : Option Nat) (L : Loc) (F : Nat → Nat) (w : World) (y : Value), RepV yv L F w v y → ∃ b c, y = .slice b n c) → K (wset dst (.d (.int .i64 n))) →
   ∃ ws, K ws ∧ Out P e h ⟨dst, .call ⟨.builtin .len, args, tys⟩, ty, pos, after, guard⟩ ws := by
  intro n el hd hr hk
  subst hd
  refine ⟨_, hk, out_val (v := .d (.int .i64 n)) (o := ⟨dst, .call ⟨.builtin .len, args, tys⟩, ty, pos, after, guard⟩) fun cx r' m L F st a w he hh hg => ?_⟩
  obtain ⟨b, c, hev⟩ := hr _ _ _ _ _ (hg.opnd (opnd_sub he hv))
  exact ⟨.int .i64 n, hrun a w _ (by simp [Builtin.len_, hty, h0, run_underlying hun, hev, goInt]), rfl⟩
 split at hk
 ·rename_i el es hk1
  rw [hk1] at hkd
  exact sl es.length el (kdOf_slice hkd.symm) (fun yv L F w y hr => by obtain ⟨b, n, c, rfl, rfl, _⟩ := hr; exact ⟨b, c, rfl⟩) hk
 ·rename_i el hk1
  rw [hk1] at hkd
  exact sl 0 el (kdOf_slice hkd.symm) (fun yv L F w y hr => by have hr : y = .slice none 0 0 := hr; exact ⟨none, 0, hr⟩) hk
 ·rename_i el id sz off n hk1
  rw [hk1] at hkd
  exact sl n el (kdOf_slice hkd.symm) (fun yv L F w y hr => by obtain ⟨b, c, rfl, _⟩ := hr; exact ⟨b, c, rfl⟩) hk
 ·rename_i s hk1
  rw [hk1] at hkd
  have := kdOf_str hkd.symm; subst this
  refine ⟨_, hk, out_val (v := .d (.int .i64 s.size)) (o := ⟨dst, .call ⟨.builtin .len, args, tys⟩, ty, pos, after, guard⟩) fun cx r' m L F st a w he hh hg => ?_⟩
  have hev := eval_str hg he hv
  exact ⟨.int .i64 s.size, hrun a w _ (by simp [Builtin.len_, hty, h0, run_underlying hun, hev, goInt]), rfl⟩
 ·rename_i n el hk1
  rw [hk1] at hkd
  have := kdOf_array hkd.symm; subst this
  refine ⟨_, hk, out_val (v := .d (.int .i64 n)) (o := ⟨dst, .call ⟨.builtin .len, args, tys⟩, ty, pos, after, guard⟩) fun cx r' m L F st a w he hh hg => ?_⟩
  exact ⟨.int .i64 n, hrun a w _ (by simp [Builtin.len_, hty, h0, run_underlying hun, goInt]), rfl⟩
 ·rename_i mk me id hk1
  rw [hk1] at hkd
  have := kdOf_map hkd.symm; subst this
  split at hk
  case h_2 => exact hk.elim
  rename_i kvs hid
  refine ⟨_, hk, out_val (v := .d (.int .i64 kvs.length)) (o := ⟨dst, .call ⟨.builtin .len, args, tys⟩, ty, pos, after, guard⟩) fun cx r' m L F st a w he hh hg => ?_⟩
  have hev : a.eval x = .map (some (L.ρ id)) := hg.opnd (opnd_sub he hv)
  obtain ⟨en, c, hb, hr, _⟩ := hg.heap.obj id _ (hh _ _ hid)
  have hl : en.size = kvs.length := by simpa using RepKv.get hr
  exact ⟨.int .i64 kvs.length, hrun a w _ (by simp [Builtin.len_, hty, h0, run_underlying hun, hev, getObj, Sem.run, hb, goInt, hl]), rfl⟩
 ·rename_i mk me kvs hk1
  rw [hk1] at hkd
  have := kdOf_map hkd.symm; subst this
  refine ⟨_, hk, out_val (v := .d (.int .i64 kvs.length)) (o := ⟨dst, .call ⟨.builtin .len, args, tys⟩, ty, pos, after, guard⟩) fun cx r' m L F st a w he hh hg => ?_⟩
  obtain ⟨b, en, c, hev, _, hb, hr⟩ := hg.opnd (opnd_sub he hv)
  have hl : en.size = kvs.length := by simpa using RepKv.get hr
  exact ⟨.int .i64 kvs.length, hrun a w _ (by simp [Builtin.len_, hty, h0, run_underlying hun, hev, getObj, Sem.run, hb, goInt, hl]), rfl⟩
 ·exact hk.elim
theorem RepVL.newLoc {yv : Option Nat} {L L' : Loc} {F : Nat → Nat} {w w' : World} (tr : Tr F w F w') {id : Nat} (hL : ∀ i, i ≠ id → L'.ρ i = L.ρ i ∧ L'.κ i = L.κ i) {cs : List V} {l : List Value} (hf : ¬ namesVL cs id) (h : RepVL yv L F w cs l) : RepVL yv L' F w' cs l :=
 RepVL.mono tr cs l (fun i hi => hL i (by rintro rfl; exact hf hi)) h
theorem out_newBox {op : Op} {d : Nat} {c : Cells} (hf : ¬ namesVL c.toV d)
  (hr : ∀ {σ : Type} (cx : Cx σ) (r : Option Nat) (m : List Nat) (L : Loc) (F : Nat → Nat) (st : St σ) (a : Act) (w : World), SubT e st.env → SubT h st.heap → Good cx r m L F st a w →
   ∃ (l : Array Value) (t : TypeId), (execOp a.eval ⟨some d, op, ty, pos, after, guard⟩).run P w = .ok (.value (.pointer (some ⟨w.heap.size, 0, none⟩))) (w.alloc (.cells l t)) ∧ RepVL cx.yv L F w c.toV l.toList) :
  Out P e h ⟨some d, op, ty, pos, after, guard⟩ [.new d (.box c), .set d (.ptr d 0)] := by
 intro σ cx r m L F st a w he hh hg hd
 obtain ⟨l, t, hrun, hl⟩ := hr cx r m L F st a w he hh hg
 have tr : Tr F w F (w.alloc (.cells l t)) := Tr.alloc hg.heap.fresh _
 have hgn := hg.new d 0 (.box c) (.cells l t) (hg.unpinned (hd d rfl)) ⟨l, t, (by show (w.alloc _).heap[if d = d then w.heap.size else L.ρ d]? = _; rw [if_pos rfl]; exact heap_alloc_new w _), RepVL.newLoc tr (fun i hi => by simp [hi]) hf hl⟩
 exact ⟨_, _, _, hrun, .inl rfl, _, F, hgn.set (v := .ptr d 0) (hd d rfl) (by show Value.pointer _ = Value.pointer _; simp), tr⟩
theorem out_alloc (hT : TysOk P T) {t : TypeId} (hk : opK T e h dst (.alloc t) K) : ∃ ws, K ws ∧ Out P e h ⟨dst, .alloc t, ty, pos, after, guard⟩ ws := by
 simp only [opK] at hk
 split at hk
 case h_2 => exact hk.elim
 rename_i ti d ht
 split at hk
 case h_2 => exact hk.elim
 rename_i z hz
 obtain ⟨hlen, hk⟩ := chk_t hk
 obtain ⟨i, de, hi, hde, _, _, _, _, _, hzz⟩ := hT t ti ht
 obtain ⟨zv, hzv, hzc, _⟩ := hzz z hz
 refine ⟨_, hk, out_newBox (c := .dd z) (namesVL_inj z d) fun cx r m L F st a w he hh hg => ⟨zv.cells, t, ?_, RepVL.inj.2 (RepDL_zero hzc)⟩⟩
 simp [execOp, Instr.alloc, zeroValue, typeInfo, hi, hzv, newVar, newRow]
theorem out_box {t : TypeId} {x : Operand} (hk : opK T e h dst (.box t x) K) : ∃ ws, K ws ∧ Out P e h ⟨dst, .box t x, ty, pos, after, guard⟩ ws := by
 simp only [opK] at hk
 split at hk
 case h_2 => exact hk.elim
 rename_i v d hv
 obtain ⟨hc, hk⟩ := chk_t hk
 simp only [Bool.and_eq_true] at hc
 refine ⟨_, hk, out_newBox (cells_free hc.2) fun cx r m L F st a w he hh hg => ⟨(a.eval x).cells, t, ?_, (hg.opnd (opnd_sub he hv)).cells hc.1⟩⟩
 simp [execOp, Instr.box, newVar, newRow]
end
end Go.PX
namespace Go.PX
open Go.RowKit
section
variable {yv : Option Nat} {L : Loc} {F : Nat → Nat} {w : World}
theorem RepV.cells' {a : V} {v : Value} (h : RepV yv L F w a v) : RepVL yv L F w a.cells.toV v.cells.toList := by
 by_cases hs : a.cells.ok = true
 ·exact h.cells hs
 ·cases a with
  | d x =>
   cases x with
   | agg cs =>
    obtain ⟨l, rfl, hl⟩ := h
    exact RepVL.inj.2 hl
   | tup cs =>
    obtain ⟨l, rfl, hl⟩ := h
    exact ⟨.tuple l, [], rfl, ⟨l, rfl, hl⟩, rfl⟩
   | _ => exact absurd rfl hs
  | agg cs =>
   obtain ⟨l, rfl, hl⟩ := h
   exact hl
  | tup cs =>
   obtain ⟨l, rfl, hl⟩ := h
   exact ⟨.tuple l, [], rfl, ⟨l, rfl, hl⟩, rfl⟩
  | _ => exact absurd rfl hs
theorem Cells.splice_toV (c : Cells) (off : Nat) (x : Cells) : (c.splice off x).toV = c.toV.take off ++ x.toV ++ c.toV.drop (off + x.toV.length) := by
 cases c <;> cases x <;> simp [Cells.splice, Cells.toV, inj_append, inj_take, inj_drop, inj_length]
theorem splice_get_in {α : Type} {cs l : List α} {off i : Nat} (h : off ≤ cs.length) (h1 : off ≤ i) (h2 : i < off + l.length) : (cs.take off ++ l ++ cs.drop (off + l.length))[i]? = l[i - off]? := by
 rw [List.append_assoc, List.getElem?_append_right (by simp; omega), List.getElem?_append_left (by simp; omega)]
 simp [Nat.min_eq_left h]
theorem splice_get_out {α : Type} {cs l : List α} {off i : Nat} (h : off + l.length ≤ cs.length) (h1 : i < off ∨ off + l.length ≤ i) : (cs.take off ++ l ++ cs.drop (off + l.length))[i]? = cs[i]? := by
 rcases h1 with h1 | h1
 ·rw [List.append_assoc, List.getElem?_append_left (by simp; omega), List.getElem?_take_of_lt h1]
 ·rw [List.getElem?_append_right (by simp; omega), List.getElem?_drop]
  congr 1
  simp; omega
theorem splice_len {α : Type} {cs l : List α} {off : Nat} (h : off + l.length ≤ cs.length) : (cs.take off ++ l ++ cs.drop (off + l.length)).length = cs.length := by
 simp; omega
theorem RepVL.splice {cs ds : List V} {l k : List Value} (off : Nat) (h : RepVL yv L F w cs l) (g : RepVL yv L F w ds k) :
  RepVL yv L F w (cs.take off ++ ds ++ cs.drop (off + ds.length)) (l.take off ++ k ++ l.drop (off + k.length)) := by
 have := g.length
 rw [this]
 exact ((h.take off).append g).append (h.drop _)
theorem Els.cons_toV (x : Cells) (c : Els) : (c.cons x).toV = x.toV :: c.toV := by
 cases x <;> cases c <;> rfl
theorem elemsOf_spec {n : Nat} : ∀ {l : List (Nat × V)} {i : Nat} {es : Els}, elemsOf n i l = some es → es.toV = l.map (fun p => p.2.cells.toV) ∧ l.map (·.1) = List.range' i l.length ∧ ∀ p ∈ l, p.2.cells.toV.length = n
 | [], i, es, h => by simp only [elemsOf, Option.some.injEq] at h; subst h; simp [Els.toV, injL]
 | (j, v) :: r, i, es, h => by
  simp only [elemsOf] at h
  split at h
  case h_2 => cases h
  rename_i es' hj hn hr
  cases h
  have hj := beq_t hj
  have hn := beq_t hn
  rw [Cells.len_eq] at hn
  obtain ⟨h1, h2, h3⟩ := elemsOf_spec hr
  refine ⟨by rw [Els.cons_toV, h1]; rfl, by simp [h2, hj, List.range'_succ], fun p hp => ?_⟩
  rcases List.mem_cons.1 hp with rfl | hp
  ·exact hn
  ·exact h3 p hp
theorem flat_cells {sz : Nat} : ∀ {xs : List V} {vs : List Value}, RepVL yv L F w xs vs → (∀ x ∈ xs, x.cells.toV.length = sz) → RepVL yv L F w (xs.flatMap (·.cells.toV)) (vs.flatMap fun v => v.cells.toList) ∧ ∀ v ∈ vs, v.cells.size = sz
 | [], vs, h, _ => by
  have : vs = [] := h
  subst this
  exact ⟨rfl, by simp⟩
 | x :: xs, vs, h, hs => by
  obtain ⟨v, l, rfl, hx, hl⟩ := h
  obtain ⟨h1, h2⟩ := flat_cells hl fun y hy => hs y (List.mem_cons_of_mem _ hy)
  refine ⟨by simpa using hx.cells'.append h1, fun u hu => ?_⟩
  rcases List.mem_cons.1 hu with rfl | hu
  ·have := hx.cells'.length
   rw [hs x (List.mem_cons_self ..)] at this
   simpa using this
  ·exact h2 u hu
theorem lenAllV_t {n : Nat} : ∀ {l : List (List V)}, lenAllV n l = true → ∀ e ∈ l, e.length = n ∧ allScalar e = true
 | [], _, _, he => by cases he
 | x :: r, h, e, he => by
  simp only [lenAllV] at h
  split at h
  case h_2 => cases h
  rename_i h1 h2
  rcases List.mem_cons.1 he with rfl | he
  ·exact ⟨beq_t h1, h2⟩
  ·exact lenAllV_t h e he
theorem lenAllD_t {n : Nat} : ∀ {l : List (List D)}, lenAllD n l = true → lenAllV n (injL l) = true
 | [], _ => rfl
 | x :: r, h => by
  simp only [lenAllD] at h
  split at h
  case h_2 => cases h
  rename_i h1 h2
  simp only [injL, lenAllV, inj_length, h1, allScalar_inj, h2]
  exact lenAllD_t h
theorem els_ok {n : Nat} {es : Els} (h : es.ok n = true) : ∀ e ∈ es.toV, e.length = n ∧ allScalar e = true := by
 cases es with
 | dd l => exact lenAllV_t (lenAllD_t h)
 | vv l => exact lenAllV_t h
theorem allScalar_append : ∀ {l m : List V}, allScalar l = true → allScalar m = true → allScalar (l ++ m) = true
 | [], _, _, h => h
 | x :: r, m, h, k => by
  simp only [allScalar, Bool.and_eq_true] at h
  simp [allScalar, h.1, allScalar_append h.2 k]
theorem allScalar_flatten : ∀ {l : List (List V)}, (∀ e ∈ l, allScalar e = true) → allScalar l.flatten = true
 | [], _ => rfl
 | x :: r, h => by
  rw [List.flatten_cons]
  exact allScalar_append (h x (List.mem_cons_self ..)) (allScalar_flatten fun e he => h e (List.mem_cons_of_mem _ he))
end
section
variable {P : Program} {T : Tys} {e : Env} {h : Heap} {dst : Option Nat} {K : List Wr → Prop} {ty : TypeId} {pos : String} {after : Array Edge} {guard : Option (Nat × Bool)}
theorem partsOf_rep {σ : Type} {cx : Cx σ} {r : Option Nat} {m : List Nat} {L : Loc} {F : Nat → Nat} {st : St σ} {a : Act} {w : World} (hg : Good cx r m L F st a w) (he : SubT e st.env) : ∀ {ps : List (Nat × Operand)} {l : List (Nat × V)}, partsOf e ps = some l →
  l.map (·.1) = ps.map (·.1) ∧ RepVL cx.yv L F w (l.map (·.2)) (ps.map fun p => a.eval p.2)
 | [], l, hp => by simp only [partsOf, Option.some.injEq] at hp; subst hp; exact ⟨rfl, rfl⟩
 | (i, x) :: r, l, hp => by
  simp only [partsOf] at hp
  split at hp
  ·rename_i v l' hv hl
   cases hp
   obtain ⟨h1, h2⟩ := partsOf_rep hg he hl
   exact ⟨by simp [h1], _, _, rfl, hg.opnd (opnd_sub he hv), h2⟩
  ·cases hp
theorem sliceOf_t (hT : TysOk P T) {t : TypeId} {ei : TyI} (h : sliceOf T t = some ei) : ∃ el, P.underlying t = some (.slice el) ∧ T.get el = some ei := by
 unfold sliceOf at h
 split at h
 case h_2 => cases h
 rename_i ti hti
 split at h
 case h_2 => cases h
 rename_i el hk
 obtain ⟨d, hu, hkd⟩ := kd_under hT hti
 rw [hk] at hkd
 exact ⟨el, by rw [hu, kdOf_slice hkd.symm], h⟩
theorem elemOk_t (hT : TysOk P T) {el : TypeId} {ei : TyI} (hei : T.get el = some ei) (h : elemOk ei = true) :
  ∃ i z, P.info? el = some i ∧ i.zero = some z ∧ 0 < ei.size ∧ 0 < ei.bytes ∧ ei.size = i.size ∧ ei.bytes = i.bytes ∧ z.cells.size = i.size := by
 obtain ⟨i, d, hi, hd, hsz, hby, _, _, _, hz⟩ := hT el ei hei
 simp only [elemOk, Bool.and_eq_true] at h
 obtain ⟨⟨h1, h2⟩, h3⟩ := h
 unfold zeroOk at h3
 split at h3
 case h_2 => cases h3
 rename_i z hzz
 obtain ⟨zv, hzv, hzc, _⟩ := hz z hzz
 have hl := (RepDL_zero (F := fun _ => 0) (w := default) hzc).length
 have h1 := nbeq_t h1
 have h2 := nbeq_t h2
 have h3 := beq_t h3
 exact ⟨i, zv, hi, hzv, by omega, by omega, hsz, hby, by rw [← hsz, ← h3, ← hl]; simp⟩
theorem out_buildSlice (hT : TysOk P T) {t : TypeId} {n : Nat} {ps : Array (Nat × Operand)} (hk : opK T e h dst (.buildSlice t n ps) K) : ∃ ws, K ws ∧ Out P e h ⟨dst, .buildSlice t n ps, ty, pos, after, guard⟩ ws := by
 simp only [opK] at hk
 split at hk
 case h_2 => exact hk.elim
 rename_i l ei d hl hs
 obtain ⟨hc, hk⟩ := chk_t hk
 simp only [Bool.and_eq_true] at hc
 obtain ⟨⟨hln, hok⟩, hbig⟩ := hc
 have hln := beq_t hln
 have hbig := ble_t hbig
 split at hk
 case h_2 => exact hk.elim
 rename_i es hes
 obtain ⟨hc, hk⟩ := chk_t hk
 simp only [Bool.and_eq_true] at hc
 obtain ⟨heok, hfree⟩ := hc
 obtain ⟨el, hu, hei⟩ := sliceOf_t hT hs
 obtain ⟨ie, z, hie, hz', hsz, hby, hsize, hbytes, hzs⟩ := elemOk_t hT hei hok
 obtain ⟨he1, he2, he3⟩ := elemsOf_spec hes
 have heo := els_ok heok
 refine ⟨_, hk, ?_⟩
 intro σ cx r m L F st a w he hh hg hd
 obtain ⟨hp1, hp2⟩ := partsOf_rep hg he hl
 let vs := ps.toList.map fun p => a.eval p.2
 have hpl : ps.toList.length = n := by
  have := congrArg List.length hp1
  simp only [List.length_map] at this; omega
 have hvl : vs.length = n := by simpa [vs] using hpl
 have hcl : ∀ x ∈ l.map (·.2), x.cells.toV.length = ei.size := by
  intro x hx
  obtain ⟨p, hp, rfl⟩ := List.mem_map.1 hx
  exact he3 _ hp
 obtain ⟨hflat, hvs⟩ := flat_cells hp2 hcl
 have hparts : (ps.map fun (i, x) => (i, a.eval x)).toList = (vs.zipIdx 0).map fun x => (x.2, x.1) := by
  have h1 : ps.toList.map (·.1) = List.range' 0 n := by rw [← hp1, he2, hln]
  apply List.ext_getElem?
  intro k
  simp only [Array.toList_map, List.getElem?_map, List.getElem?_zipIdx, vs]
  cases hk : ps.toList[k]? with
  | none => simp
  | some p =>
   have h2 : (ps.toList.map (·.1))[k]? = some p.1 := by simp [List.getElem?_map, hk]
   have hkn : k < n := by
    have := (List.getElem?_eq_some_iff.1 hk).1; omega
   rw [h1, List.getElem?_range' hkn] at h2
   simp at h2; simp [h2]
 let cells : Array Value := (vs.flatMap fun v => v.cells.toList).toArray
 have hfe : (l.map (·.2)).flatMap (·.cells.toV) = es.toV.flatten := by rw [he1, List.flatMap_def, List.map_map]; rfl
 have hesl : es.toV.length = n := by rw [he1]; simp [hln]
 have hlens : lensAre ei.size es.toV := fun e he => (heo e he).1
 have hcsz : cells.size = n * ei.size := by
  have h1 := hflat.length
  rw [hfe, flatten_len hlens, hesl] at h1
  simpa [cells, vs] using h1
 have hrun : (execOp a.eval ⟨some d, .buildSlice t n ps, ty, pos, after, guard⟩).run P w = .ok (.value (.slice (some ⟨w.heap.size, 0, none⟩) n n)) (w.alloc (.cells cells el)) := by
  have : (Instr.buildSlice t n (ps.map fun (i, x) => (i, a.eval x))).run P w = .ok (.slice (some ⟨w.heap.size, 0, none⟩) n n) (w.alloc (.cells cells el)) := by
   rcases Nat.eq_zero_or_pos n with h0 | h0
   ·subst h0
    have hv0 : vs = [] := List.length_eq_zero_iff.1 hvl
    have hps : ps = #[] := by simpa using hpl
    subst hps
    have hce : cells = #[] := by simp [cells, hv0]
    rw [hce]
    simp [Instr.buildSlice, run_underlying hu, sizeOf, typeInfo, hie, Instr.fill, newRow]
    congr 2
    apply Array.eq_empty_of_size_eq_zero; simp
   ·refine run_buildSlice w t el n _ cells ie z hu hie hz' (by rw [← hsize]; omega) (by rw [← hsize]; exact Nat.ne_of_gt (Nat.mul_pos h0 hsz)) ?_
    rw [hparts, ← hsize]
    refine Great.fill_whole hsz vs _ hvs ?_
    simp [hvl]
  simp [execOp, this]
 have tr : Tr F w F (w.alloc (.cells cells el)) := Tr.alloc hg.heap.fresh _
 have hgn := hg.new d cells.size (.arr ei.size es) (.cells cells el) (hg.unpinned (hd d rfl)) ⟨hsz, hlens, .inr ⟨cells, el, (by show (w.alloc _).heap[if d = d then w.heap.size else L.ρ d]? = _; rw [if_pos rfl]; exact heap_alloc_new w _), (by simp), (by rw [hesl, hcsz]; exact Nat.le_refl _), (by
  rw [hesl, ← hcsz]
  have : cells.toList.take cells.size = cells.toList := by rw [← Array.length_toList, List.take_length]
  rw [this]
  refine RepVL.newLoc (L := L) tr (fun i hi => by simp [hi]) (els_free hfree) ?_
  rw [← hfe]
  simpa [cells, vs] using hflat)⟩⟩
 refine ⟨_, _, _, hrun, .inl rfl, _, F, hgn.set (v := .sl d ei.size 0 n) (hd d rfl) ⟨_, _, rfl, Nat.le_refl _, hsz, .inr ⟨(by simp), (by simp [hcsz])⟩⟩, tr⟩
theorem run_fill {yv : Option Nat} {L : Loc} {F : Nat → Nat} {w : World} {place : Nat → Option (Nat × Nat)} {fs : List (Nat × Nat)} (hpl : ∀ i p, fs[i]? = some p → place i = some p) : ∀ {l : List (Nat × V)} {vs : List Value} {cs cs' : Cells} {cells : Array Value},
  fillParts fs cs l = some cs' → RepVL yv L F w (l.map (·.2)) vs → RepVL yv L F w cs.toV cells.toList →
  ∃ r, Instr.fill place cells ((l.map (·.1)).zip vs) = some r ∧ RepVL yv L F w cs'.toV r.toList
 | [], vs, cs, cs', cells, h, hv, hc => by
  simp only [fillParts, Option.some.injEq] at h
  subst h
  exact ⟨cells, by simp [Instr.fill], hc⟩
 | (i, v) :: r, vs, cs, cs', cells, h, hv, hc => by
  simp only [fillParts] at h
  obtain ⟨x, vs', rfl, hx, hvs⟩ := hv
  split at h
  case h_2 => cases h
  rename_i off n hi
  split at h
  case h_2 => cases h
  rename_i hc1 hc2
  have hc1 := beq_t hc1
  have hc2 := ble_t hc2
  rw [Cells.len_eq] at hc1 hc2
  have hxl := hx.cells'.length
  have hcl := hc.length
  have hxs : x.cells.size = n := by rw [← hc1, ← hxl]; simp
  obtain ⟨g1, g2⟩ := Great.foldl_set off x.cells.toList 0 cells
  simp only [Nat.add_zero] at g2
  have hstep : RepVL yv L F w (cs.splice off v.cells).toV ((x.cells.toList.zipIdx 0).foldl (fun cs (y : Value × Nat) => cs.setIfInBounds (off + y.2) y.1) cells).toList := by
   rw [Cells.splice_toV]
   refine .of_get ?_ fun k c hk => ?_
   ·rw [splice_len (by omega)]
    simp [g1] at hcl ⊢
    omega
   ·have hk' : ∀ y, (if off ≤ k ∧ k < off + x.cells.toList.length ∧ k < cells.size then x.cells.toList[k - off]? else cells[k]?) = some y →
      ((x.cells.toList.zipIdx 0).foldl (fun cs (y : Value × Nat) => cs.setIfInBounds (off + y.2) y.1) cells).toList[k]? = some y := fun y hy => by
     rw [← g2 k] at hy
     simpa using hy
    have hcsz : cells.size = cs.toV.length := by simpa using hcl
    by_cases hin : off ≤ k ∧ k < off + n
    ·rw [splice_get_in (by omega) hin.1 (by omega)] at hk
     obtain ⟨y, hy, hry⟩ := RepVL.get _ hx.cells' hk
     refine ⟨y, hk' y ?_, hry⟩
     rw [if_pos ⟨hin.1, by simp [hxs]; omega, by omega⟩]
     exact hy
    ·rw [splice_get_out (by omega) (by omega)] at hk
     obtain ⟨y, hy, hry⟩ := RepVL.get _ hc hk
     refine ⟨y, hk' y ?_, hry⟩
     rw [if_neg (by simp [hxs]; omega)]
     simpa using hy
  obtain ⟨res, hres, hrr⟩ := run_fill hpl h hvs hstep
  refine ⟨res, ?_, hrr⟩
  simp only [List.map_cons, List.zip_cons_cons]
  unfold Instr.fill
  simp only [hpl _ _ hi, hxs]
  have hcsz : cells.size = cs.toV.length := by simpa using hcl
  rw [if_neg (by simp; omega), ← hres]
  congr 1
  rw [← Array.foldl_toList, Array.toList_zipIdx]
theorem run_places (hT : TysOk P T) {w : World} : ∀ {fa : List Field} {sz : List (Nat × Nat)}, sizesOf T (fa.map fun f => (f.offset, f.type)) = some sz →
  (fa.mapM fun f => (do pure (f.offset, ← sizeOf f.type) : Sem (Nat × Nat))).run P w = .ok sz w
 | [], sz, h => by simp only [List.map_nil, sizesOf, Option.some.injEq] at h; subst h; simp
 | f :: fa, sz, h => by
  simp only [List.map_cons, sizesOf] at h
  split at h
  ·rename_i i l hi hl
   cases h
   have := run_places hT (w := w) hl
   simp only [List.mapM_cons, Sem.run_bind, run_size hT hi, Result.andThen_ok, Sem.run_pure, this]
  ·cases h
theorem RepV.val {yv : Option Nat} {L : Loc} {F : Nat → Nat} {w : World} {c : Cells} {l : Array Value} (h : RepVL yv L F w c.toV l.toList) : RepV yv L F w c.val (.agg l) := by
 cases c with
 | dd d => exact ⟨l, rfl, RepVL.inj.1 h⟩
 | vv d => exact RepV.mkAgg h
theorem arrFs_get (size : Nat) : ∀ (n k i : Nat) (p : Nat × Nat), (arrFs size (k * size) n)[i]? = some p → some ((k + i) * size, size) = some p
 | 0, k, i, p, h => by simp [arrFs] at h
 | n + 1, k, 0, p, h => by simpa [arrFs] using h
 | n + 1, k, i + 1, p, h => by
  have h : (arrFs size (k * size + size) n)[i]? = some p := by simpa [arrFs] using h
  rw [show k * size + size = (k + 1) * size by rw [Nat.add_mul, Nat.one_mul]] at h
  have := arrFs_get size n (k + 1) i p h
  rw [← this]; congr 3; omega
theorem parts_eval {ps : Array (Nat × Operand)} (a : Act) {l : List (Nat × V)} (hp1 : l.map (·.1) = ps.toList.map (·.1)) : (ps.map fun (i, x) => (i, a.eval x)).toList = (l.map (·.1)).zip (ps.toList.map fun p => a.eval p.2) := by
 rw [hp1]
 simp only [Array.toList_map]
 generalize ps.toList = q
 induction q with
 | nil => rfl
 | cons x q ih => simp [ih]
theorem out_build (hT : TysOk P T) {t : TypeId} {ps : Array (Nat × Operand)} (hk : opK T e h dst (.build t ps) K) : ∃ ws, K ws ∧ Out P e h ⟨dst, .build t ps, ty, pos, after, guard⟩ ws := by
 simp only [opK] at hk
 split at hk
 case h_2 => exact hk.elim
 rename_i l ti hl hti
 split at hk
 case h_3 => exact hk.elim
 case h_2 =>
  rename_i n el z hk1 hz
  split at hk
  case h_2 => exact hk.elim
  rename_i ei hei
  split at hk
  case h_2 => exact hk.elim
  rename_i cs hf
  obtain ⟨i, de, hi, hde, _, _, hkd, _, _, hzz⟩ := hT t ti hti
  rw [hk1] at hkd
  have := kdOf_array hkd.symm; subst this
  obtain ⟨Z, hZ, hzc, _⟩ := hzz z hz
  refine ⟨_, hk, out_val (v := cs.val) (o := ⟨dst, .build t ps, ty, pos, after, guard⟩) fun cx r m L F st a w he hh hg => ?_⟩
  have hzr : RepVL cx.yv L F w (Cells.dd z).toV Z.cells.toList := RepVL.inj.2 (RepDL_zero hzc)
  obtain ⟨hp1, hp2⟩ := partsOf_rep hg he hl
  obtain ⟨res, hr, hrr⟩ := run_fill (place := fun i => some (i * ei.size, ei.size)) (fun i p h => by have := arrFs_get ei.size n 0 i p (by rw [Nat.zero_mul]; exact h); rw [Nat.zero_add] at this; exact this) hf hp2 hzr
  have hparts := parts_eval a hp1
  refine ⟨.agg res, ?_, RepV.val hrr⟩
  have h3 : (Instr.build t (ps.map fun (i, x) => (i, a.eval x))).run P w = .ok (.agg res) w := by
   unfold Instr.build
   simp only [Sem.run_bind, zeroValue, typeInfo, run_program, hi, Result.andThen_ok, Sem.run_pure, hZ, run_underlying hde, run_size hT hei]
   rw [hparts, hr]
   simp
  simp [execOp, h3]
 rename_i fs z hk1 hz
 split at hk
 case h_2 => exact hk.elim
 rename_i sz hsz
 split at hk
 case h_2 => exact hk.elim
 rename_i cs hf
 obtain ⟨i, de, hi, hde, _, _, hkd, _, _, hzz⟩ := hT t ti hti
 rw [hk1] at hkd
 obtain ⟨fa, rfl, rfl, _⟩ := kdOf_struct hkd.symm
 obtain ⟨Z, hZ, hzc, _⟩ := hzz z hz
 refine ⟨_, hk, out_val (v := cs.val) (o := ⟨dst, .build t ps, ty, pos, after, guard⟩) fun cx r m L F st a w he hh hg => ?_⟩
 have hzr : RepVL cx.yv L F w (Cells.dd z).toV Z.cells.toList := RepVL.inj.2 (RepDL_zero hzc)
 obtain ⟨hp1, hp2⟩ := partsOf_rep hg he hl
 obtain ⟨res, hr, hrr⟩ := run_fill (place := fun i => sz[i]?) (fun _ _ h => h) hf hp2 hzr
 have hparts := parts_eval a hp1
 have hpl := run_places hT (w := w) hsz
 refine ⟨.agg res, ?_, RepV.val hrr⟩
 have h2 : (fa.mapM fun f => (do pure (f.offset, ← sizeOf f.type) : Sem (Nat × Nat))).run P w = .ok sz.toArray w := by
  rw [Array.mapM_eq_mapM_toList]
  simp only [Sem.run_map, hpl, Result.andThen_ok]
 have h3 : (Instr.build t (ps.map fun (i, x) => (i, a.eval x))).run P w = .ok (.agg res) w := by
  unfold Instr.build
  simp only [Sem.run_bind, zeroValue, typeInfo, run_program, hi, Result.andThen_ok, Sem.run_pure, hZ, run_underlying hde, h2]
  rw [hparts]
  have : (fun (x : Nat) => sz.toArray[x]?) = fun (i : Nat) => sz[i]? := by funext i; simp
  rw [this, hr]
  simp
 simp [execOp, h3]
theorem run_storeVar (hT : TysOk P T) {w : World} {t : TypeId} {ti : TyI} (ht : T.get t = some ti) {b off : Nat} {l : Array Value} {E : TypeId} (hl : w.heap[b]? = some (.cells l E (0, 0))) {v : Value}
  (hn : v.cells.size = ti.size) (ho : off + ti.size ≤ l.size) (h1 : ∀ u ∈ v.cells.toList, u.oneCell' = true) :
  (storeVar t ⟨b, off, none⟩ v).run P w = .ok () (w.setRow b (l.toList.take off ++ v.cells.toList ++ l.toList.drop (off + v.cells.toList.length)).toArray) := by
 have := run_storeCells_at (P := P) b off E v.cells.toList 0 l w hl (by simp [hn]; omega) h1
 simp only [Nat.add_zero, Array.length_toList, hn] at this
 simp [storeVar, run_size hT ht, hn, this]
theorem set_flatten {α : Type} {sz : Nat} {es : List (List α)} (hl : lensAre sz es) {i : Nat} {e : List α} (hi : es[i]? = some e) {x : List α} {o : Nat} (ho : o + x.length ≤ sz) :
  (es.set i (e.take o ++ x ++ e.drop (o + x.length))).flatten = es.flatten.take (i * sz + o) ++ x ++ es.flatten.drop (i * sz + o + x.length) := by
 induction es generalizing i with
 | nil => simp at hi
 | cons f r ih =>
  have hf := hl f (List.mem_cons_self ..)
  cases i with
  | zero =>
   simp at hi
   subst hi
   simp only [List.set_cons_zero, List.flatten_cons, Nat.zero_mul, Nat.zero_add]
   rw [List.take_append_of_le_length (by omega), List.drop_append_of_le_length (by omega)]
   simp
  | succ i =>
   simp only [List.set_cons_succ, List.flatten_cons]
   rw [ih (fun e he => hl e (List.mem_cons_of_mem _ he)) (by simpa using hi)]
   have e1 : (i + 1) * sz + o = f.length + (i * sz + o) := by rw [Nat.succ_mul]; omega
   have e2 : (i + 1) * sz + o + x.length = f.length + (i * sz + o + x.length) := by rw [Nat.succ_mul]; omega
   rw [e2, e1, List.take_length_add_append, List.drop_length_add_append]
   simp
theorem take_splice {α : Type} {l Y : List α} {o n : Nat} (h : o + Y.length ≤ n) (hn : n ≤ l.length) :
  (l.take o ++ Y ++ l.drop (o + Y.length)).take n = (l.take n).take o ++ Y ++ (l.take n).drop (o + Y.length) := by
 have e1 : (l.take n).length = n := by rw [List.length_take]; omega
 apply List.ext_getElem?
 intro k
 by_cases hk : k < n
 ·rw [List.getElem?_take_of_lt hk]
  by_cases hin : o ≤ k ∧ k < o + Y.length
  ·rw [splice_get_in (by omega) hin.1 hin.2, splice_get_in (by omega) hin.1 hin.2]
  ·rw [splice_get_out (by omega) (by omega), splice_get_out (by omega) (by omega), List.getElem?_take_of_lt hk]
 ·rw [List.getElem?_eq_none (by rw [List.length_take]; omega), List.getElem?_eq_none (by rw [splice_len (by omega)]; omega)]
theorem els_set (es : Els) (n : Nat) (x : Cells) : (es.set n x).toV = es.toV.set n x.toV := by
 cases es <;> cases x <;> simp [Els.set, Els.toV, Cells.toV, injL_eq, List.map_set]
theorem out_store (hT : TysOk P T) {t : TypeId} {x y : Operand} (hk : opK T e h dst (.store t x y) K) : ∃ ws, K ws ∧ Out P e h ⟨dst, .store t x y, ty, pos, after, guard⟩ ws := by
 simp only [opK] at hk
 cases dst with
 | some d => exact hk.elim
 | none =>
 simp only [storeK] at hk
 split at hk
 case h_2 => exact hk.elim
 rename_i u v ti hu hv ht
 obtain ⟨hc, hk⟩ := chk_t hk
 simp only [Bool.and_eq_true] at hc
 obtain ⟨hlen, hok⟩ := hc
 have hlen := beq_t hlen
 rw [Cells.len_eq] at hlen
 split at hk
 ·rename_i id off hp
  split at hk
  case h_2 => exact hk.elim
  rename_i cs hcs
  obtain ⟨hb, hk⟩ := chk_t hk
  have hb := ble_t hb
  rw [Cells.len_eq] at hb
  refine ⟨_, hk, ?_⟩
  intro σ cx r m L F st a w he hh hg hd
  unfold placeOf at hp
  split at hp <;> cases hp
  have hev : a.eval x = .pointer (some ⟨L.ρ id, off, none⟩) := hg.opnd (opnd_sub he hu)
  have hrv := (hg.opnd (opnd_sub he hv)).cells'
  have hvl := hrv.length
  have h0 := hh _ _ hcs
  obtain ⟨l, E, hl, hr⟩ := hg.heap.obj id _ h0
  have hll := hr.length
  have hst := run_storeVar hT (w := w) ht hl (off := off) (v := a.eval y) (by rw [← hlen, ← hvl]; simp) (by simp at hll; omega) (hrv.one (by rw [← Cells.ok_eq]; exact hok))
  obtain ⟨g1, g2⟩ := hg.obj (o := .box (cs.splice off v.cells)) h0 trivial (w' := w.setRow (L.ρ id) (l.toList.take off ++ (a.eval y).cells.toList ++ l.toList.drop (off + (a.eval y).cells.toList.length)).toArray) rfl rfl rfl (size_setRow _ _ _) (fun b hb => setRow_other _ _ _ _ hb)
   (by rw [hl]; intro ds e; cases e) (by rw [hl]; intro lp e; cases e)
   ⟨_, E, setRow_heap _ _ _ _ _ _ hl, by
    rw [Cells.splice_toV]
    have tr : Tr F w F (w.setRow (L.ρ id) (l.toList.take off ++ (a.eval y).cells.toList ++ l.toList.drop (off + (a.eval y).cells.toList.length)).toArray) :=
     .of_keep rfl rfl rfl (by simp) (fun _ => Nat.le_refl _) hg.heap.fresh fun b _ hF => setRow_other _ _ _ _ (by rintro rfl; have := (hg.heap.own id _ h0 trivial).1; omega)
    exact RepVL.mono tr _ _ (fun _ _ => ⟨rfl, rfl⟩) (by simpa using RepVL.splice off hr hrv)⟩
  exact ⟨undef, _, .skip, by simp [execOp, Instr.storeAt, hev, Instr.sureAddr, hst], .inr ⟨rfl, rfl⟩, L, F, g1, g2⟩
 ·rename_i id sz i off hp
  split at hk
  case h_2 => exact hk.elim
  rename_i n es hes
  obtain ⟨hn, hk'⟩ := chk_t hk
  have hn' := beq_t hn
  clear hk hn
  subst hn'
  obtain ⟨c, hci, hk⟩ := elsAtK_t hk'
  obtain ⟨hb, hk⟩ := chk_t hk
  have hb := ble_t hb
  rw [Cells.len_eq] at hb
  refine ⟨_, hk, ?_⟩
  intro σ cx r m L F st a w he hh hg hd
  unfold placeOf at hp
  split at hp <;> cases hp
  have hev : a.eval x = .pointer (some ⟨L.ρ id, i * n + off, none⟩) := hg.opnd (opnd_sub he hu)
  have hrv := (hg.opnd (opnd_sub he hv)).cells'
  have hvl := hrv.length
  have h0 := hh _ _ hes
  obtain ⟨hs0, hlens, hrest⟩ := hg.heap.obj id _ h0
  rcases hrest with ⟨hnil, _⟩ | ⟨l, E, hl, hκ, hsz, hr⟩
  ·rw [hnil] at hci; simp at hci
  have hcl : c.toV.length = n := hlens _ (List.mem_of_getElem? hci)
  have hil : i < es.toV.length := (List.getElem?_eq_some_iff.1 hci).1
  have hil' : i * n + n ≤ es.toV.length * n := by rw [← Nat.succ_mul]; exact Nat.mul_le_mul_right _ hil
  have hbk : Backed L id (.arr n es) := by
   show L.κ id ≠ 0
   have : 0 < es.toV.length * n := Nat.mul_pos (by omega) hs0
   omega
  have hst := run_storeVar hT (w := w) ht hl (off := i * n + off) (v := a.eval y) (by rw [← hlen, ← hvl]; simp) (by omega) (hrv.one (by rw [← Cells.ok_eq]; exact hok))
  have hvl' : (a.eval y).cells.toList.length = ti.size := by rw [hvl, hlen]
  have hsp := splice_len (cs := l.toList) (l := (a.eval y).cells.toList) (off := i * n + off) (by rw [hvl']; simp; omega)
  generalize hc' : (l.toList.take (i * n + off) ++ (a.eval y).cells.toList ++ l.toList.drop (i * n + off + (a.eval y).cells.toList.length)).toArray = c' at hst
  have ce : c'.toList = l.toList.take (i * n + off) ++ (a.eval y).cells.toList ++ l.toList.drop (i * n + off + (a.eval y).cells.toList.length) := by rw [← hc']
  have hcs' : c'.size = l.size := by rw [← ce] at hsp; simpa using hsp
  have tr : Tr F w F (w.setRow (L.ρ id) c') :=
   .of_keep rfl rfl rfl (by simp) (fun _ => Nat.le_refl _) hg.heap.fresh fun b _ hF => setRow_other _ _ _ _ (by rintro rfl; have := (hg.heap.own id _ h0 hbk).1; omega)
  have hset : ((es.set i (c.splice off v.cells)).toV) = es.toV.set i (c.toV.take off ++ v.cells.toV ++ c.toV.drop (off + v.cells.toV.length)) := by rw [els_set, Cells.splice_toV]
  obtain ⟨g1, g2⟩ := hg.obj (o := .arr n (es.set i (c.splice off v.cells))) h0 hbk (w' := w.setRow (L.ρ id) c') rfl rfl rfl (size_setRow _ _ _) (fun b hb => setRow_other _ _ _ _ hb)
   (by rw [hl]; intro ds e; cases e) (by rw [hl]; intro lp e; cases e) (by
    refine ⟨hs0, ?_, .inr ⟨c', E, setRow_heap _ _ _ _ _ _ hl, ?_, ?_, ?_⟩⟩
    ·rw [hset]
     intro e he
     rcases List.mem_or_eq_of_mem_set he with he | rfl
     ·exact hlens e he
     ·rw [splice_len (by omega)]; exact hcl
    ·rw [hcs', hκ]
    ·rw [hset, List.length_set, hcs']; exact hsz
    ·rw [hset, List.length_set, set_flatten hlens hci (by omega), ce]
     refine RepVL.mono tr _ _ (fun _ _ => ⟨rfl, rfl⟩) ?_
     have h1 := RepVL.splice (i * n + off) hr hrv
     have e1 : (l.toList.take (i * n + off) ++ (a.eval y).cells.toList ++ l.toList.drop (i * n + off + (a.eval y).cells.toList.length)).take (es.toV.length * n) =
       (l.toList.take (es.toV.length * n)).take (i * n + off) ++ (a.eval y).cells.toList ++ (l.toList.take (es.toV.length * n)).drop (i * n + off + (a.eval y).cells.toList.length) := by
      exact take_splice (by omega) (by simp; omega)
     rw [e1]; exact h1)
  exact ⟨undef, _, .skip, by simp [execOp, Instr.storeAt, hev, Instr.sureAddr, hst], .inr ⟨rfl, rfl⟩, L, F, g1, g2⟩
 ·exact hk.elim
end
end Go.PX
namespace Go.PX
open Go.RowKit
section
variable {σ : Type} {cx : Cx σ} {r : Option Nat} {m : List Nat} {L : Loc} {F : Nat → Nat} {st : St σ} {a : Act} {w : World}
theorem Good.retake (hh : Good cx r m L F st a w) {id d : Nat} {o0 o : Obj} (hpd : ¬ pinned d) (h0 : get st.heap id = some o0) (hb0 : Backed L id o0) {w' : World}
  (hos : w'.os = w.os) (ht : w'.tape = w.tape) (hu : w'.output = w.output) (hsz : w'.heap.size = w.heap.size) (hk : ∀ b, b ≠ L.ρ id → w'.heap[b]? = w.heap[b]?)
  (hnd : ∀ ds, w.heap[L.ρ id]? ≠ some (.deferred ds)) (hnl : ∀ lp, w.heap[L.ρ id]? ≠ some (.loop lp))
  (ho : RepO cx.yv ⟨fun i => if i = d then L.ρ id else L.ρ i, fun i => if i = d then L.κ id else L.κ i⟩ F w' d o) :
  Good cx r m ⟨fun i => if i = d then L.ρ id else L.ρ i, fun i => if i = d then L.κ id else L.κ i⟩ F (applyW (applyW st (.del id)) (.new d o)) a w' ∧ Tr F w F w' := by
 obtain ⟨hF, hnC⟩ := hh.heap.own id o0 h0 hb0
 have tr : Tr F w F w' := .of_keep hos ht hu (by omega) (fun _ => Nat.le_refl _) hh.heap.fresh fun b _ hF' => hk b (by rintro rfl; omega)
 have hC : ∀ c, cx.C st.s c → w'.heap[c]? = w.heap[c]? := fun c hc => hk c (by rintro rfl; exact hnC hc)
 have hg : ∀ i o', get (applyW (applyW st (.del id)) (.new d o)).heap i = some o' → (i = d ∧ o' = o) ∨ (i ≠ d ∧ i ≠ id ∧ ∃ o1, get st.heap i = some o1 ∧ o' = Obj.mapId (killF d) o1) := by
  intro i o' hi
  simp only [applyW, get_put, get_mapT, get_cut] at hi
  split at hi
  ·rename_i e; left; exact ⟨e, by cases hi; rfl⟩
  ·rename_i e
   right
   by_cases hid : i = id
   ·simp [hid] at hi
   ·refine ⟨e, hid, ?_⟩
    cases h1 : get st.heap i with
    | none => simp [h1] at hi
    | some o1 => simp [h1, hid] at hi; exact ⟨o1, rfl, hi.symm⟩
 have key : ∀ i o', get (applyW (applyW st (.del id)) (.new d o)).heap i = some o' → i ≠ d → Backed ⟨fun i => if i = d then L.ρ id else L.ρ i, fun i => if i = d then L.κ id else L.κ i⟩ i o' → i ≠ id ∧ ∃ o1, get st.heap i = some o1 ∧ Backed L i o1 := by
  intro i o' hi hne hb
  rcases hg i o' hi with ⟨rfl, rfl⟩ | ⟨_, hid, o1, h1, rfl⟩
  ·exact absurd rfl hne
  ·refine ⟨hid, o1, h1, ?_⟩
   have := (Backed_kill _ d i o1).1 hb
   cases o1 <;> simp_all [Backed]
 refine ⟨⟨⟨cx.stable hh.heap.hg tr (fun c hc => hh.heap.fresh c (by omega)) fun c hc => ⟨hC c hc, rfl⟩, fun c hc => by rw [hsz]; exact hh.heap.csz c hc, fun c hc => hh.heap.fresh c (by omega), ?_, ?_, ?_⟩, ?_, hh.dfr, ?_, hh.mnd, ?_, fun i hi => ?_, hh.tsz⟩, tr⟩
 ·intro i o' hi
  rcases hg i o' hi with ⟨rfl, rfl⟩ | ⟨hne, hid, o1, h1, rfl⟩
  ·exact ho
  ·refine RepO.mono (L := L) tr i _ (fun j hj => ?_) ⟨by simp [hne], by simp [hne]⟩ (fun hb => hk _ ?_) (RepO.kill d i o1 (hh.heap.obj i o1 h1))
   ·have : j ≠ d := by rintro rfl; exact namesO_kill j o1 hj
    simp [this]
   ·intro e
    exact hid (hh.heap.inj i id o1 o0 h1 h0 ((Backed_kill L d i o1).1 hb) hb0 e)
 ·intro i o' hi hb
  by_cases hie : i = d
  ·subst hie; simp only [if_true]; exact ⟨hF, hnC⟩
  ·obtain ⟨_, o1, h1, hb1⟩ := key i o' hi hie hb
   simp only [hie, if_false]
   exact hh.heap.own i o1 h1 hb1
 ·intro i j o' p hi hj hbi hbj e
  by_cases hie : i = d <;> by_cases hje : j = d
  ·rw [hie, hje]
  ·exfalso
   obtain ⟨hjid, p1, hp1, hbp⟩ := key j p hj hje hbj
   simp [hie, hje] at e
   exact hjid (hh.heap.inj j id p1 o0 hp1 h0 hbp hb0 e.symm)
  ·exfalso
   obtain ⟨hiid, p1, hp1, hbp⟩ := key i o' hi hie hbi
   simp [hie, hje] at e
   exact hiid (hh.heap.inj i id p1 o0 hp1 h0 hbp hb0 e)
  ·obtain ⟨_, o1, ho1, hb1⟩ := key i o' hi hie hbi
   obtain ⟨_, p1, hp1, hbp⟩ := key j p hj hje hbj
   simp only [hie, hje, if_false] at e
   exact hh.heap.inj i j o1 p1 ho1 hp1 hb1 hbp e
 ·intro s v hs
  simp only [applyW, get_mapT] at hs
  cases h1 : get st.env s with
  | none => simp [h1] at hs
  | some v0 =>
   simp [h1] at hs
   subst hs
   obtain ⟨x, hx, hr⟩ := hh.env s v0 h1
   refine ⟨x, hx, RepV.mono tr _ x (fun j hj => ?_) (RepV.kill d v0 x hr)⟩
   have : j ≠ d := by rintro rfl; exact names_kill j v0 hj
   simp [this]
 ·intro b hb
  have := (hh.mks b hb).1
  exact ⟨by rw [hk b (by rintro rfl; exact hnd _ this)]; exact this, (hh.mks b hb).2⟩
 ·intro l hl
  obtain ⟨lp, hlp⟩ := hh.lk l hl
  exact ⟨lp, ⟨by rw [hk l (by rintro rfl; exact hnl _ hlp.1.1)]; exact hlp.1.1, hlp.1.2⟩, hlp.2⟩
 ·have : i ≠ d := by rintro rfl; exact hpd hi
  simp only [this, if_false]; exact hh.pin i hi
end
theorem Els.len_eq (c : Els) : c.len = c.toV.length := by
 cases c <;> simp [Els.len, Els.toV, injL_eq]
theorem Els.part_toV (c : Els) (off n : Nat) : (c.part off n).toV = (c.toV.drop off).take n := by
 cases c <;> simp [Els.part, Els.toV, injL_eq, List.map_drop, List.map_take]
theorem Els.app_toV (c x : Els) : (c.app x).toV = c.toV ++ x.toV := by
 cases c <;> cases x <;> simp [Els.app, Els.toV, injL_eq]
theorem flatten_take {α : Type} {sz : Nat} : ∀ {es : List (List α)} (n : Nat), lensAre sz es → (es.take n).flatten = es.flatten.take (n * sz)
 | [], n, _ => by simp
 | f :: es, 0, _ => by simp
 | f :: es, n + 1, h => by
  have hf := h f (List.mem_cons_self ..)
  have e1 : (n + 1) * sz = f.length + n * sz := by rw [Nat.succ_mul]; omega
  rw [List.take_succ_cons, List.flatten_cons, List.flatten_cons, flatten_take n (fun e he => h e (List.mem_cons_of_mem _ he)), e1, List.take_length_add_append]
theorem flatten_drop {α : Type} {sz : Nat} : ∀ {es : List (List α)} (n : Nat), lensAre sz es → (es.drop n).flatten = es.flatten.drop (n * sz)
 | [], n, _ => by simp
 | f :: es, 0, _ => by simp
 | f :: es, n + 1, h => by
  have hf := h f (List.mem_cons_self ..)
  have e1 : (n + 1) * sz = f.length + n * sz := by rw [Nat.succ_mul]; omega
  rw [List.drop_succ_cons, List.flatten_cons, flatten_drop n (fun e he => h e (List.mem_cons_of_mem _ he)), e1, List.drop_length_add_append]
section
variable {yv : Option Nat} {L : Loc} {F : Nat → Nat} {w : World}
theorem RepEs.cells {b off sz : Nat} : ∀ {es : List (List D)}, RepEs F w b off sz es → ∃ l : List Value, RepDL F w es.flatten l ∧ l.length = es.length * sz ∧ ∀ (j : Nat) v, l[j]? = some v → w.cell? ⟨b, off + j, none⟩ = some v := by
 intro es
 have at_ : ∀ {cs : List D} {o : Nat}, RepAt F w b o cs → ∃ l : List Value, RepDL F w cs l ∧ ∀ (j : Nat) v, l[j]? = some v → w.cell? ⟨b, o + j, none⟩ = some v := by
  intro cs
  induction cs with
  | nil => intro o _; exact ⟨[], rfl, by simp⟩
  | cons c r ih =>
   intro o h
   obtain ⟨_, ⟨x, hx, hc⟩, hr⟩ := h
   obtain ⟨l, hl, hj⟩ := ih hr
   refine ⟨x :: l, ⟨x, l, rfl, hc, hl⟩, fun j v hv => ?_⟩
   cases j with
   | zero => simp at hv; subst hv; exact hx
   | succ j =>
    have := hj j v (by simpa using hv)
    rw [Nat.add_assoc, Nat.add_comm 1 j] at this; exact this
 induction es generalizing off with
 | nil => intro _; exact ⟨[], rfl, by simp, by simp⟩
 | cons e r ih =>
  intro h
  obtain ⟨he, ha, hr⟩ := h
  obtain ⟨l1, h1, j1⟩ := at_ ha
  obtain ⟨l2, h2, e2, j2⟩ := ih hr
  have e1 := h1.length
  refine ⟨l1 ++ l2, ?_, by simp [e1, e2, he, Nat.succ_mul]; omega, fun j v hv => ?_⟩
  ·rw [List.flatten_cons]
   have := RepVL.append (yv := none) (L := ⟨fun _ => 0, fun _ => 0⟩) (RepVL.inj.2 h1) (RepVL.inj.2 h2)
   rw [← inj_append] at this
   exact RepVL.inj.1 this
  ·by_cases hj : j < l1.length
   ·rw [List.getElem?_append_left hj] at hv; exact j1 j v hv
   ·rw [List.getElem?_append_right (by omega)] at hv
    have := j2 _ v hv
    have e : off + sz + (j - l1.length) = off + j := by omega
    rw [e] at this; exact this
theorem elems_of {σ' : Type} {h : Heap} {s : σ'} {cx : Cx σ'} {hp : Heap} (hs : SubT h hp) (hg : HeapOk cx L F hp s w) {v : V} {fs : Els} (hf : elemsV h v = some fs) {y : Value} (hr : RepV cx.yv L F w v y) {sz : Nat} (hl : ∀ e ∈ fs.toV, e.length = sz) (hsz : 0 < sz) :
  ∃ (ay : Option Addr) (cap : Nat) (news : List Value), y = .slice ay fs.toV.length cap ∧ fs.toV.length ≤ cap ∧ RepVL cx.yv L F w fs.toV.flatten news ∧ news.length = fs.toV.length * sz ∧
   (fs.toV = [] ∨ ∃ b off, ay = some ⟨b, off, none⟩ ∧ ∀ (j : Nat) v, news[j]? = some v → w.cell? ⟨b, off + j, none⟩ = some v) := by
 unfold elemsV at hf
 split at hf
 ·rename_i es
  cases hf
  obtain ⟨a0, len, cap, rfl, hlen, hcap, hes⟩ := hr
  have e1 : (Els.dd es).toV.length = es.length := by simp [Els.toV, injL_eq]
  by_cases hne : es = []
  ·subst hne
   refine ⟨a0, cap, [], by rw [hlen]; rfl, Nat.zero_le _, rfl, by simp [Els.toV, injL], .inl rfl⟩
  ·obtain ⟨b, off, sz', rfl, hsz0, hat⟩ := hes hne
   have hszz : sz' = sz := by
    cases es with
    | nil => exact absurd rfl hne
    | cons x r =>
     have := hl (inj x) (by simp [Els.toV, injL])
     rw [inj_length] at this
     exact hat.1.symm.trans this
   subst hszz
   obtain ⟨l, h1, h2, h3⟩ := RepEs.cells hat
   refine ⟨_, cap, l, by rw [hlen, e1], by rw [e1, ← hlen]; exact hcap, ?_, by rw [h2, e1], .inr ⟨b, off, rfl, h3⟩⟩
   show RepVL _ _ _ _ (injL es).flatten l
   rw [injL_flatten]; exact RepVL.inj.2 h1
 ·cases hf
  have hr : y = .slice none 0 0 := hr
  exact ⟨none, 0, [], hr, Nat.le_refl _, rfl, by simp [Els.toV, injL], .inl rfl⟩
 ·rename_i id z off n
  split at hf
  case h_2 => cases hf
  rename_i m es hes
  split at hf
  case h_2 => cases hf
  rename_i hc1 hc2
  cases hf
  have hc1 := beq_t hc1
  have hc2 := ble_t hc2
  subst hc1
  rw [Els.len_eq] at hc2
  obtain ⟨a0, cap, rfl, hcap, hz0, hb⟩ := hr
  have e1 : (es.part off n).toV.length = n := by rw [Els.part_toV]; simp; omega
  obtain ⟨_, hlens, hrest⟩ := hg.obj id _ (hs _ _ hes)
  by_cases hn0 : n = 0
  ·subst hn0
   have e0 : (es.part off 0).toV = [] := by rw [Els.part_toV]; simp
   exact ⟨a0, cap, [], by rw [e0]; rfl, by rw [e0]; exact Nat.zero_le _, by rw [e0]; rfl, by rw [e0]; simp, .inl e0⟩
  ·rcases hb with ⟨h0, _⟩ | ⟨rfl, hb⟩
   ·omega
   have hmsz : m = sz := by
    have hx : off < es.toV.length := by omega
    have := hl es.toV[off] (by rw [Els.part_toV]; exact List.mem_iff_getElem?.2 ⟨0, by rw [List.getElem?_take_of_lt (by omega), List.getElem?_drop]; simp [hx]⟩)
    rw [← this]; exact (hlens _ (List.getElem_mem _)).symm
   subst hmsz
   rcases hrest with ⟨he, _⟩ | ⟨l, E, hl', hk, hszl, hrr⟩
   ·rw [he] at hc2; simp at hc2; omega
   have hflat : (es.part off n).toV.flatten = (es.toV.flatten.drop (off * m)).take (n * m) := by
    rw [Els.part_toV, flatten_take _ (fun e he => hlens e (List.mem_of_mem_drop he)), flatten_drop _ hlens]
   have hle : (off + n) * m ≤ es.toV.length * m := Nat.mul_le_mul_right _ hc2
   rw [Nat.add_mul] at hle
   refine ⟨_, cap, ((l.toList.take (es.toV.length * m)).drop (off * m)).take (n * m), by rw [e1], by rw [e1]; exact hcap, by rw [hflat]; exact (hrr.drop _).take _, ?_, .inr ⟨_, _, rfl, fun j v hv => ?_⟩⟩
   ·rw [e1]; simp; omega
   ·rw [cell_of_row _ _ _ _ _ _ hl']
    have hj : j < n * m := by have := (List.getElem?_eq_some_iff.1 hv).1; simp at this; omega
    rw [List.getElem?_take_of_lt hj, List.getElem?_drop, List.getElem?_take_of_lt (by omega)] at hv
    simpa using hv
 ·cases hf
end
end Go.PX
namespace Go.PX
open Go.RowKit
section
variable {P : Program} {T : Tys}
theorem run_append_room {w : World} (t tx ty e : TypeId) {i : TypeInfo} (ht : P.underlying t = some (.slice e)) (hi : P.info? e = some i) {b off sLen sCap : Nat} {x : Value} {n : Nat} {news : List Value} (hs : Src P i.size tx x n news w)
  (hroom : sLen + n ≤ sCap) {c : Array Value} {E : TypeId} (hb : w.heap[b]? = some (.cells c E (0, 0))) (hc : off + sCap * i.size ≤ c.size) :
  (Builtin.append_ #[t, tx] ty #[.slice (some ⟨b, off, none⟩) sLen sCap, x]).run P w =
   .ok (.slice (some ⟨b, off, none⟩) (sLen + n) sCap) (w.setRow b (c.toList.take (off + sLen * i.size) ++ news ++ c.toList.drop (off + sLen * i.size + news.length)).toArray) := by
 have hle : (sLen + n) * i.size ≤ sCap * i.size := Nat.mul_le_mul_right _ hroom
 rw [Nat.add_mul] at hle
 have hst := run_storeCells_at (P := P) b (off + sLen * i.size) E news 0 c w hb (by rw [hs.newsLen]; omega) hs.one
 simp only [Nat.add_zero] at hst
 rcases hs.kind with ⟨e', hk⟩ | hk <;> simp [Builtin.append_, run_underlying ht, run_underlying hk, sizeOf, typeInfo, hi, hs.len, hroom, hs.cells, add_none, hst]
theorem run_append_none {w : World} (t tx ty e : TypeId) {i : TypeInfo} (ht : P.underlying t = some (.slice e)) (hi : P.info? e = some i) {base : Option Addr} {sLen sCap : Nat} {x : Value} (hs : Src P i.size tx x 0 [] w)
  (hroom : sLen ≤ sCap) :
  (Builtin.append_ #[t, tx] ty #[.slice base sLen sCap, x]).run P w = .ok (.slice base sLen sCap) w := by
 cases base <;> rcases hs.kind with ⟨e', hk⟩ | hk <;> simp [Builtin.append_, run_underlying ht, run_underlying hk, sizeOf, typeInfo, hi, hs.len, hroom, hs.cells, storeCells]
theorem src_of {w : World} {size : Nat} {u el : TypeId} (hu : P.underlying u = some (.slice el)) {ay : Option Addr} {n cap : Nat} {news : List Value} (hlen : news.length = n * size)
  (hc : n = 0 ∨ ∃ b off, ay = some ⟨b, off, none⟩ ∧ ∀ (j : Nat) v, news[j]? = some v → w.cell? ⟨b, off + j, none⟩ = some v) (h1 : ∀ v ∈ news, v.oneCell' = true) :
  Src P size u (.slice ay n cap) n news w := by
 rcases hc with rfl | ⟨b, off, rfl, hj⟩
 ·have hn : news = [] := List.length_eq_zero_iff.1 (by simpa using hlen)
  subst hn
  cases ay with
  | none => exact Src.ofNil w hu cap
  | some ad => exact Src.ofSlice w hu ad 0 cap [] (by simp) (by simp) (fun _ h => by cases h)
 ·exact Src.ofSlice w hu _ n cap news hlen (fun j v hv => by rw [add_none]; exact hj j v hv) h1
variable {e : Env} {h : Heap} {dst : Option Nat} {K : List Wr → Prop} {ty : TypeId} {pos : String} {after : Array Edge} {guard : Option (Nat × Bool)}
theorem append_grow {σ : Type} {cx : Cx σ} {r : Option Nat} {m : List Nat} {L : Loc} {F : Nat → Nat} {st : St σ} {a : Act} {w : World} (hg : Good cx r m L F st a w) {d : Nat} (hd : d < a.tmps.size)
  {t tx el : TypeId} {ie : TypeInfo} {z : Value} (hu : P.underlying t = some (.slice el)) (hie : P.info? el = some ie) (hz : ie.zero = some z) (hzs : z.cells.size = ie.size) (hsz : 0 < ie.size) (hby : 0 < ie.bytes)
  {base : Option Addr} {len cap n : Nat} {olds news : List Value} {x : Value} (hold : ∀ w' : World, (∀ y, w'.cell? y = w.cell? y) → (Builtin.firstCells ie.size len (.slice base len cap)).run P w' = .ok olds.toArray w')
  (holdl : olds.length = len * ie.size) (hs : Src P ie.size tx x n news w) (hgr : cap < len + n) (hbig : (len + n) * ie.bytes ≤ 140737488355328)
  {es : Els} (hesl : es.toV.length = len + n) (hlens : lensAre ie.size es.toV) (hr : RepVL cx.yv L F w es.toV.flatten (olds ++ news)) (hf : ¬ namesVL es.toV.flatten d) :
  ∃ v w' L' F', (Builtin.append_ #[t, tx] ty #[.slice base len cap, x]).run P w = .ok v w' ∧ Good cx r m L' F' (applyWs st [.new d (.arr ie.size es), .set d (.sl d ie.size 0 (len + n))]) (a.put (some d) v) w' ∧ Tr F w F' w' := by
 have hnl := hs.newsLen
 have h63 : ((len + n : Nat) : Int) ≤ 9223372036854775807 := by
  have : len + n ≤ (len + n) * ie.bytes := Nat.le_mul_of_pos_right _ hby
  omega
 have hrun := run_append_grow_src (P := P) w t tx ty el ie z hu hie hz base len cap olds (hold w.drew fun _ => rfl) x n news hs hgr h63 (growslice_fits hgr hbig)
 generalize hgc : grownCap w (len + n) cap el = nc at hrun
 have hnc : len + n ≤ nc := by rw [← hgc]; exact grownCap_ge _ _ _ _
 generalize hcells : (olds ++ news).toArray ++ Builtin.zeroCells z.cells (nc - (len + n)) = c' at hrun
 have hmul : (len + n) * ie.size = len * ie.size + n * ie.size := Nat.add_mul _ _ _
 have hctake : c'.toList.take ((len + n) * ie.size) = olds ++ news := by
  rw [← hcells]
  have : (olds ++ news).length = (len + n) * ie.size := by simp [holdl, hnl, hmul]
  rw [← this]
  simp only [Array.toList_append]
  exact List.take_left' rfl
 have hcsz : c'.size = nc * ie.size := by
  rw [← hcells]
  have h1 : nc = (len + n) + (nc - (len + n)) := by omega
  have h2 : nc * ie.size = (len + n) * ie.size + (nc - (len + n)) * ie.size := by
   conv => lhs; rw [h1]
   rw [Nat.add_mul]
  rw [h2]
  simp [Builtin.zeroCells, holdl, hnl, hzs, hmul]
 have hgd : Good cx r m L F st a w.drew := hg.same rfl rfl rfl rfl
 have tr0 : Tr F w F w.drew := Tr.drew _
 have tr1 : Tr F w.drew F (w.drew.alloc (.cells c' el)) := Tr.alloc hgd.heap.fresh _
 have hle : (len + n) * ie.size ≤ nc * ie.size := Nat.mul_le_mul_right _ hnc
 have hgn := hgd.new d c'.size (.arr ie.size es) (.cells c' el) (hgd.unpinned hd) ⟨hsz, hlens, .inr ⟨c', el, (by show (w.drew.alloc _).heap[if d = d then w.drew.heap.size else L.ρ d]? = _; rw [if_pos rfl]; exact heap_alloc_new w.drew _), (by simp), (by rw [hesl, hcsz]; exact hle), (by
  rw [hesl, hctake]
  exact RepVL.newLoc (L := L) (Tr.trans tr0 tr1) (fun i hi => by simp [hi]) hf hr)⟩⟩
 refine ⟨_, _, _, F, hrun, hgn.set (v := .sl d ie.size 0 (len + n)) hd ⟨_, _, rfl, hnc, hsz, .inr ⟨(by simp), (by simp [hcsz])⟩⟩, Tr.trans tr0 tr1⟩
theorem out_append (hT : TysOk P T) {args : Array Operand} {tys : Array TypeId} (hk : builtinK T e h dst .append args tys K) : ∃ ws, K ws ∧ Out P e h ⟨dst, .call ⟨.builtin .append, args, tys⟩, ty, pos, after, guard⟩ ws := by
 simp only [builtinK] at hk
 split at hk
 case h_2 => exact hk.elim
 rename_i x y t u hargs htys
 split at hk
 case h_2 => exact hk.elim
 rename_i ui hui
 replace hk := appendK_t hk
 unfold appendKo at hk
 split at hk
 case h_2 => exact hk.elim
 rename_i v uv ei d hx hy hei
 split at hk
 case h_2 => exact hk.elim
 rename_i fs hfs
 obtain ⟨hok, hk⟩ := chk_t hk
 obtain ⟨el, hun, hel⟩ := sliceOf_t hT hei
 obtain ⟨el', hun', _⟩ := sliceOf_t hT hui
 obtain ⟨ie, z, hie, hz, hsz, hby, hsize, hbytes, hzs⟩ := elemOk_t hT hel hok
 have hrun : ∀ (a : Act) (w : World) (b : Option Addr) (l c : Nat) (v : Value) (w' : World), a.eval x = .slice b l c → (Builtin.append_ #[t, u] ty #[.slice b l c, a.eval y]).run P w = .ok v w' →
   (execOp a.eval ⟨some d, .call ⟨.builtin .append, args, tys⟩, ty, pos, after, guard⟩).run P w = .ok (.value v) w' := fun a w b l c v w' hev hv => by
  have h1 : args.map a.eval = #[.slice b l c, a.eval y] := by
   apply Array.ext'
   simp [hargs, hev]
  have h2 : tys = #[t, u] := by
   apply Array.ext'
   simp [htys]
  simp [execOp, resolve, invoke, builtin, h1, h2, hv]
 unfold targetK at hk
 split at hk
 ·obtain ⟨hc, hk⟩ := chk_t hk
  simp only [Bool.and_eq_true] at hc
  obtain ⟨hfok, hfree⟩ := hc
  obtain ⟨hbig, hk⟩ := chk_t hk
  have hbig := of_decide_eq_true hbig
  refine ⟨_, hk, ?_⟩
  intro σ cx r m L F st a w he hh hg hd
  have hev : a.eval x = .slice none 0 0 := hg.opnd (opnd_sub he hx)
  have hfo := els_ok hfok
  obtain ⟨ay, cap, news, hye, hcap, hnr, hnl, hcell⟩ := elems_of hh hg.heap hfs (hg.opnd (opnd_sub he hy)) (fun e he => (hfo e he).1) hsz
  have h1 := hnr.one (allScalar_flatten fun e he => (hfo e he).2)
  have hsrc : Src P ie.size u (a.eval y) fs.toV.length news w := by
   rw [hye, ← hsize]
   exact src_of hun' hnl (hcell.imp (fun h => by rw [h]; rfl) fun h => h) h1
  have happ : ((Els.dd []).app fs).toV = fs.toV := by rw [Els.app_toV]; rfl
  have hl0 : (Els.dd []).len + fs.len = fs.toV.length := by rw [Els.len_eq, Els.len_eq]; simp [Els.toV, injL]
  rw [hl0] at hbig
  rw [hl0, hsize]
  by_cases h0 : fs.toV = []
  ·have hn0 : fs.toV.length = 0 := by rw [h0]; rfl
   have hnn : news = [] := List.length_eq_zero_iff.1 (by rw [hnl, hn0]; simp)
   rw [hn0, hnn] at hsrc
   have hr := run_append_none (P := P) t u ty el hun hie (base := none) (sLen := 0) (sCap := 0) hsrc (Nat.le_refl _)
   have hgn := hg.newEmpty d ie.size (hg.unpinned (hd d rfl)) (by rw [← hsize]; exact hsz) ((Els.dd []).app fs) (by rw [happ, h0])
   exact ⟨_, _, _, hrun a w none 0 0 _ _ hev hr, .inl rfl, _, F, hgn.set (v := .sl d ie.size 0 fs.toV.length) (hd d rfl) ⟨none, 0, (by rw [hn0]), (by rw [hn0]; exact Nat.le_refl _), (by rw [← hsize]; exact hsz), .inl ⟨hn0, rfl⟩⟩, Tr.refl F w⟩
  ·have hpos : 0 < fs.toV.length := Nat.pos_of_ne_zero fun e => h0 (List.length_eq_zero_iff.1 e)
   have := append_grow (P := P) (ty := ty) (tx := u) (x := a.eval y) hg (hd d rfl) hun hie hz hzs (by omega) (by omega) (base := none) (len := 0) (cap := 0) (n := fs.toV.length) (olds := []) (news := news) (fun w' _ => run_firstCells_none w' ie.size 0 0 0) (by simp) hsrc (by omega) (by rw [Nat.zero_add, ← hbytes]; exact hbig)
    (es := (Els.dd []).app fs) (by rw [happ]; simp) (by rw [happ, ← hsize]; exact fun e he => (hfo e he).1) (by rw [happ]; exact hnr) (els_free hfree)
   obtain ⟨v, w', L', F', hv, hgn, tr⟩ := this
   rw [Nat.zero_add] at hgn
   exact ⟨v, w', _, hrun a w none 0 0 v w' hev hv, .inl rfl, L', F', hgn, tr⟩
 ·rename_i id n off len _
  split at hk
  case h_2 => exact hk.elim
  rename_i mm es0 hes0
  obtain ⟨hc, hk1⟩ := chk_t hk
  clear hk
  simp only [Bool.and_eq_true] at hc
  obtain ⟨⟨⟨hn1, hm1⟩, hle⟩, hoff⟩ := hc
  have hn1 := beq_t hn1; have hm1 := beq_t hm1; have hle := ble_t hle; have hoff := beq_t hoff
  rw [Els.len_eq] at hle
  obtain ⟨hc, hk2⟩ := chk_t hk1
  clear hk1
  simp only [Bool.and_eq_true] at hc
  obtain ⟨hfok, hfree⟩ := hc
  obtain ⟨hbig, hk⟩ := chk_t hk2
  have hbig := of_decide_eq_true hbig
  refine ⟨_, hk, ?_⟩
  intro σ cx r m L F st a w he hh hg hd
  subst hn1 hoff
  rw [hm1] at hes0
  clear hm1
  obtain ⟨base, cap, hev, hlc, _, hb⟩ := hg.opnd (opnd_sub he hx)
  have hfo := els_ok hfok
  have h0 := hh _ _ hes0
  obtain ⟨_, hlens, hrest⟩ := hg.heap.obj id _ h0
  obtain ⟨ay, capy, news, hye, hcapy, hnr, hnl, hcell⟩ := elems_of hh hg.heap hfs (hg.opnd (opnd_sub he hy)) (fun e he => (hfo e he).1) hsz
  have h1 := hnr.one (allScalar_flatten fun e he => (hfo e he).2)
  have hsrc : Src P ie.size u (a.eval y) fs.toV.length news w := by
   rw [hye, ← hsize]
   exact src_of hun' hnl (hcell.imp (fun h => by rw [h]; rfl) fun h => h) h1
  have hpl : (es0.part 0 len).toV = es0.toV.take len := by rw [Els.part_toV]; rfl
  have hpll : (es0.part 0 len).toV.length = len := by rw [hpl]; simp; omega
  have happ : ((es0.part 0 len).app fs).toV = es0.toV.take len ++ fs.toV := by rw [Els.app_toV, hpl]
  have hl0 : (es0.part 0 len).len + fs.len = len + fs.toV.length := by rw [Els.len_eq, Els.len_eq, hpll]
  have happl : ((es0.part 0 len).app fs).toV.length = len + fs.toV.length := by rw [Els.app_toV, List.length_append, hpll]
  have hplens : lensAre ei.size (es0.toV.take len) := fun e he => hlens e (List.mem_of_mem_take he)
  have happlens : lensAre ei.size ((es0.part 0 len).app fs).toV := by
   rw [happ]
   intro e he
   rcases List.mem_append.1 he with he | he
   ·exact hplens e he
   ·exact (hfo e he).1
  rw [hl0] at hbig
  rw [hl0]
  -- the old elements
  have hold : ∃ olds, (∀ w' : World, (∀ x, w'.cell? x = w.cell? x) → (Builtin.firstCells ie.size len (.slice base len cap)).run P w' = .ok olds.toArray w') ∧ RepVL cx.yv L F w (es0.toV.take len).flatten olds ∧ olds.length = len * ie.size := by
   rw [← hsize]
   by_cases hl0 : len = 0
   ·subst hl0
    refine ⟨[], fun w' _ => ?_, by simp [RepVL], by simp⟩
    cases base with
    | none => exact run_firstCells_none w' _ 0 0 cap
    | some ad => exact run_firstCells_some w' _ 0 ad 0 cap [] (by simp) (by simp)
   ·rcases hb with ⟨h0, _⟩ | ⟨rfl, hb⟩
    ·omega
    rcases hrest with ⟨he, _⟩ | ⟨l, E, hl', hk', hszl, hrr⟩
    ·rw [he] at hle; simp at hle; omega
    have hle' : len * ei.size ≤ es0.toV.length * ei.size := Nat.mul_le_mul_right _ hle
    refine ⟨(l.toList.take (es0.toV.length * ei.size)).take (len * ei.size), fun w' hw' => run_firstCells_some w' _ len _ len cap _ (by simp; omega) fun j v hv => ?_, by rw [flatten_take _ hlens]; exact hrr.take _, by simp; omega⟩
    rw [add_none, hw', cell_of_row _ _ _ _ _ _ hl']
    have hj : j < len * ei.size := by have := (List.getElem?_eq_some_iff.1 hv).1; simp at this; omega
    rw [List.getElem?_take_of_lt hj, List.getElem?_take_of_lt (by omega)] at hv
    simpa using hv
  obtain ⟨olds, hold, holdr, holdl⟩ := hold
  have hallr : RepVL cx.yv L F w ((es0.part 0 len).app fs).toV.flatten (olds ++ news) := by
   rw [happ, List.flatten_append]; exact holdr.append hnr
  have hdel := hg.del id
  by_cases hroom : len + fs.toV.length ≤ cap
  ·rcases hb with ⟨hb1, hb2⟩ | ⟨rfl, hb⟩
   ·-- nothing at all
    have hn0 : fs.toV.length = 0 := by omega
    have hnn : news = [] := List.length_eq_zero_iff.1 (by rw [hnl, hn0]; simp)
    rw [hn0, hnn] at hsrc
    have hr := run_append_none (P := P) t u ty el hun hie (base := base) (sLen := len) (sCap := cap) hsrc hlc
    have hemp : ((es0.part 0 len).app fs).toV = [] := List.length_eq_zero_iff.1 (by rw [happl]; omega)
    have hgn := hdel.newEmpty d ei.size (hdel.unpinned (hd d rfl)) hsz ((es0.part 0 len).app fs) hemp
    exact ⟨_, _, _, hrun a w base len cap _ _ hev hr, .inl rfl, _, F, hgn.set (v := .sl d ei.size 0 (len + fs.toV.length)) (hd d rfl) ⟨base, cap, (by rw [hn0]; rfl), (by omega), hsz, .inl ⟨(by omega), hb2⟩⟩, Tr.refl F w⟩
   ·by_cases hcap0 : cap = 0
    ·-- no room, and none wanted
     have hn0 : fs.toV.length = 0 := by omega
     have hnn : news = [] := List.length_eq_zero_iff.1 (by rw [hnl, hn0]; simp)
     rw [hn0, hnn] at hsrc
     have hr := run_append_none (P := P) t u ty el hun hie (base := some ⟨L.ρ id, 0 * ei.size, none⟩) (sLen := len) (sCap := cap) hsrc hlc
     have hemp : ((es0.part 0 len).app fs).toV = [] := List.length_eq_zero_iff.1 (by rw [happl]; omega)
     have hgn := hdel.newEmpty d ei.size (hdel.unpinned (hd d rfl)) hsz ((es0.part 0 len).app fs) hemp
     exact ⟨_, _, _, hrun a w _ len cap _ _ hev hr, .inl rfl, _, F, hgn.set (v := .sl d ei.size 0 (len + fs.toV.length)) (hd d rfl) ⟨_, cap, (by rw [hn0]; rfl), (by omega), hsz, .inl ⟨(by omega), hcap0⟩⟩, Tr.refl F w⟩
    ·-- room in the block
     rw [Nat.zero_add] at hb
     have hκ : L.κ id ≠ 0 := by
      have : 0 < cap * ei.size := Nat.mul_pos (by omega) hsz
      omega
     rcases hrest with ⟨_, hk0⟩ | ⟨l, E, hl', hk', hszl, hrr⟩
     ·exact absurd hk0 hκ
     have hr := run_append_room (P := P) (ty := ty) t u el hun hie hsrc hroom (b := L.ρ id) (off := 0 * ei.size) hl' (by rw [hk', ← hsize]; simpa using hb)
     simp only [Nat.zero_mul, Nat.zero_add] at hr hev
     have hroom' : (len + fs.toV.length) * ei.size ≤ cap * ei.size := Nat.mul_le_mul_right _ hroom
     rw [Nat.add_mul] at hroom'
     have hnl' : news.length = fs.toV.length * ei.size := hnl
     have hlie : len * ie.size = len * ei.size := by rw [hsize]
     have hL := Array.length_toList (xs := l)
     have hsp := splice_len (cs := l.toList) (l := news) (off := len * ie.size) (by omega)
     generalize hc' : (l.toList.take (len * ie.size) ++ news ++ l.toList.drop (len * ie.size + news.length)).toArray = c' at hr
     have ce : c'.toList = l.toList.take (len * ie.size) ++ news ++ l.toList.drop (len * ie.size + news.length) := by rw [← hc']
     have hcs' : c'.size = l.size := by rw [← ce] at hsp; simpa using hsp
     have tr : Tr F w F (w.setRow (L.ρ id) c') :=
      .of_keep rfl rfl rfl (by simp) (fun _ => Nat.le_refl _) hg.heap.fresh fun b _ hF => setRow_other _ _ _ _ (by rintro rfl; have := (hg.heap.own id _ h0 hκ).1; omega)
     have hol : olds = l.toList.take (len * ie.size) := by
      have h2 := hold w (fun _ => rfl)
      have hle' : len * ei.size ≤ es0.toV.length * ei.size := Nat.mul_le_mul_right _ hle
      have h3 := run_firstCells_some (P := P) w ie.size len ⟨L.ρ id, 0 * ei.size, none⟩ len cap (l.toList.take (len * ie.size)) (by rw [List.length_take, Array.length_toList, ← hsize]; omega) (fun j v hv => by
       rw [add_none, cell_of_row _ _ _ _ _ _ hl']
       have hj : j < len * ie.size := by have := (List.getElem?_eq_some_iff.1 hv).1; rw [List.length_take] at this; omega
       rw [List.getElem?_take_of_lt hj] at hv
       simpa using hv)
      rw [h3] at h2
      simp only [Result.ok.injEq, and_true] at h2
      have := congrArg Array.toList h2
      simpa using this.symm
     obtain ⟨g1, g2⟩ := hg.retake (d := d) (o := .arr ei.size ((es0.part 0 len).app fs)) (hg.unpinned (hd d rfl)) h0 hκ (w' := w.setRow (L.ρ id) c') rfl rfl rfl (size_setRow _ _ _) (fun b hb => setRow_other _ _ _ _ hb)
      (by rw [hl']; intro ds e; cases e) (by rw [hl']; intro lp e; cases e)
      ⟨hsz, happlens, .inr ⟨c', E, (by show (w.setRow _ c').heap[if d = d then L.ρ id else L.ρ d]? = _; rw [if_pos rfl]; exact setRow_heap _ _ _ _ _ _ hl'), (by rw [hcs', hk']; simp), (by rw [happl, hcs', hk', Nat.add_mul]; omega), (by
       rw [happl, ce]
       have e1 : (len + fs.toV.length) * ei.size = (l.toList.take (len * ie.size) ++ news).length := by
        rw [List.length_append, List.length_take, hnl', Nat.add_mul]; omega
       rw [e1, List.take_left', ← hol]
       ·exact RepVL.newLoc (L := L) tr (fun i hi => by simp [hi]) (els_free hfree) hallr
       ·rfl)⟩⟩
     exact ⟨_, _, _, hrun a w _ len cap _ _ hev hr, .inl rfl, _, F, g1.set (v := .sl d ei.size 0 (len + fs.toV.length)) (hd d rfl) ⟨_, _, rfl, hroom, hsz, .inr ⟨(by simp), (by simp; exact hb)⟩⟩, g2⟩
  ·have := append_grow (P := P) (ty := ty) (tx := u) (x := a.eval y) hdel (hd d rfl) hun hie hz hzs (by omega) (by omega) (base := base) (len := len) (cap := cap) (n := fs.toV.length) (olds := olds) (news := news) hold holdl hsrc (by omega) (by rw [← hbytes]; exact hbig)
    (es := (es0.part 0 len).app fs) happl (by rw [← hsize]; exact happlens) hallr (els_free hfree)
   obtain ⟨v, w', L', F', hv, hgn, tr⟩ := this
   rw [← hsize] at hgn
   exact ⟨v, w', _, hrun a w base len cap v w' hev hv, .inl rfl, L', F', hgn, tr⟩
 ·exact hk.elim
end
end Go.PX
