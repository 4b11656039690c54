import Derived.Test.YtifbnniijibfgaaPxB
import Derived.ProofKit
set_option linter.all false
/- PX: each operation does what its abstract counterpart says: operands, types, and operations that leave memory alone. -/
namespace Go.PX
open Go.RowKit

theorem RepD_ofScalar {F : Nat → Nat} {w : World} {v : Value} {a : D} (h : ofScalar v = some a) : RepD F w a v := by
  unfold ofScalar at h
  split at h <;> cases h <;> rfl

theorem RepDL_ofScalars {F : Nat → Nat} {w : World} : ∀ {l : List Value} {as : List D}, ofScalars l = some as → RepDL F w as l
  | [], as, h => by simp [ofScalars] at h; subst h; rfl
  | v :: r, as, h => by
    simp only [ofScalars] at h
    split at h
    · rename_i a l' ha hl'
      cases h
      exact ⟨v, r, rfl, RepD_ofScalar ha, RepDL_ofScalars hl'⟩
    · cases h

theorem RepD_ofConst {F : Nat → Nat} {w : World} {v : Value} {a : D} (h : ofConst v = some a) : RepD F w a v := by
  unfold ofConst at h
  split at h
  · rename_i cs
    cases hs : ofScalars cs.toList with
    | none => rw [hs] at h; cases h
    | some l => rw [hs] at h; cases h; exact ⟨cs, rfl, RepDL_ofScalars hs⟩
  · rename_i cs
    split at h
    · rename_i h0
      cases h
      exact ⟨cs, rfl, h0⟩
    · cases h
  · exact RepD_ofScalar h

/-! Types. -/

def kdOf (d : TypeDesc) : Kd :=
  match d with
  | .bool => .bool
  | .int k => .int k
  | .string => .str
  | .slice e => .slice e
  | .struct fs => if fs.any (fun f => f.name == "_") then .other else .struct (fs.toList.map fun f => (f.offset, f.type))
  | .array n e => .array n e
  | .map k e => .map k e
  | _ => .other

def aggOf (d : TypeDesc) : Bool :=
  match d with
  | .struct _ => true
  | .array _ _ => true
  | _ => false

def zeroCells (v : Value) : Option (List D) :=
  match ofConst v with
  | some (.agg l) => some l
  | some (.tup _) => none
  | some v => some [v]
  | none => none

def aggC (v : Value) : Bool :=
  match ofConst v with
  | some (.agg _) => true
  | _ => false

/-- A table of types says what the program's own tables say. -/
def TysOk (P : Program) (T : Tys) : Prop :=
  ∀ t ti, T.get t = some ti → ∃ i d, P.info? t = some i ∧ P.underlying t = some d ∧ ti.size = i.size ∧ ti.bytes = i.bytes ∧ ti.kd = kdOf d ∧ ti.isAgg = aggOf d ∧
    (ti.held = false → P.stoodInHeld t = false) ∧ (∀ z, ti.zero = some z → ∃ zv, i.zero = some zv ∧ zeroCells zv = some z ∧ aggC zv = ti.isAgg)

theorem kdOf_slice {d : TypeDesc} {e : TypeId} (h : kdOf d = .slice e) : d = .slice e := by
  unfold kdOf at h; split at h <;> first | (cases h; rfl) | (split at h <;> cases h) | cases h
theorem kdOf_str {d : TypeDesc} (h : kdOf d = .str) : d = .string := by
  unfold kdOf at h; split at h <;> first | rfl | (split at h <;> cases h) | cases h
theorem kdOf_int {d : TypeDesc} {k : IntKind} (h : kdOf d = .int k) : d = .int k := by
  unfold kdOf at h; split at h <;> first | (cases h; rfl) | (split at h <;> cases h) | cases h
theorem kdOf_bool {d : TypeDesc} (h : kdOf d = .bool) : d = .bool := by
  unfold kdOf at h; split at h <;> first | rfl | (split at h <;> cases h) | cases h
theorem kdOf_array {d : TypeDesc} {n : Nat} {e : TypeId} (h : kdOf d = .array n e) : d = .array n e := by
  unfold kdOf at h; split at h <;> first | (cases h; rfl) | (split at h <;> cases h) | cases h
theorem kdOf_map {d : TypeDesc} {k e : TypeId} (h : kdOf d = .map k e) : d = .map k e := by
  unfold kdOf at h; split at h <;> first | (cases h; rfl) | (split at h <;> cases h) | cases h
theorem kdOf_struct {d : TypeDesc} {fs : List (Nat × TypeId)} (h : kdOf d = .struct fs) :
    ∃ fa : Array Field, d = .struct fa ∧ fs = fa.toList.map (fun f => (f.offset, f.type)) ∧ ∀ f ∈ fa.toList, (f.name == "_") = false := by
  unfold kdOf at h
  split at h <;> first | cases h | skip
  rename_i fa
  split at h
  · cases h
  · rename_i hn
    cases h
    refine ⟨fa, rfl, rfl, fun f hf => ?_⟩
    have hn' : fa.any (fun f => f.name == "_") = false := by simpa using hn
    rw [Array.any_eq_false'] at hn'
    simpa using hn' f (by simpa using hf)

section
variable {P : Program} {T : Tys} {w : World}

theorem run_isAgg (hT : TysOk P T) {t : TypeId} {ti : TyI} (h : T.get t = some ti) : (isAgg t).run P w = .ok ti.isAgg w := by
  obtain ⟨i, d, hi, hd, hsz, hby, hkd, hag, hhe, hz⟩ := hT t ti h
  unfold isAgg
  rw [hag]
  cases d <;> simp [run_underlying hd, aggOf]

theorem run_size (hT : TysOk P T) {t : TypeId} {ti : TyI} (h : T.get t = some ti) : (sizeOf t).run P w = .ok ti.size w := by
  obtain ⟨i, d, hi, hd, hsz, hby, hkd, hag, hhe, hz⟩ := hT t ti h
  simp [sizeOf, typeInfo, hi, hsz]

end

theorem chk_t {b : Bool} {K : Prop} (h : chk b K) : b = true ∧ K := by
  cases b
  · exact h.elim
  · exact ⟨rfl, h⟩

theorem brk_t {b : Bool} {X Y : Prop} (h : brk b X Y) : (b = true ∧ X) ∨ (b = false ∧ Y) := by
  cases b
  · exact .inr ⟨rfl, h⟩
  · exact .inl ⟨rfl, h⟩

theorem ble_t {n m : Nat} (h : Nat.ble n m = true) : n ≤ m := Nat.le_of_ble_eq_true h
theorem beq_t {n m : Nat} (h : Nat.beq n m = true) : n = m := Nat.eq_of_beq_eq_true h
theorem nbeq_t {n m : Nat} (h : (!Nat.beq n m) = true) : n ≠ m := by
  intro e; subst e; simp at h

section
variable {σ : Type} {cx : Cx σ} {r : Option Nat} {m : List Nat} {L : Loc} {F : Nat → Nat} {st : St σ} {a : Act} {w : World}

theorem opnd_sub {e e' : Env} (hs : SubT e e') {x : Operand} {v : V} (hx : opnd e x = some v) : opnd e' x = some v := by
  cases x with
  | tmp t => exact hs t v hx
  | const c => exact hx
  | func f => exact hx
  | global g => exact hx

theorem opnds_sub {e e' : Env} (hs : SubT e e') : ∀ {l : List Operand} {vs : List V}, opnds e l = some vs → opnds e' l = some vs
  | [], vs, h => h
  | x :: r, vs, h => by
    simp only [opnds] at h ⊢
    cases hx : opnd e x with
    | none => simp [hx] at h
    | some v =>
      cases hr : opnds e r with
      | none => simp [hx, hr] at h
      | some l => simp [hx, hr] at h; simp [opnd_sub hs hx, opnds_sub hs hr, h]

/-- What an operand is worth. -/
theorem Good.opnd (h : Good cx r m L F st a w) {x : Operand} {v : V} (hx : PX.opnd st.env x = some v) : RepV cx.yv L F w v (a.eval x) := by
  cases x with
  | tmp t =>
    obtain ⟨y, hy, hr⟩ := h.env t v hx
    simpa [Act.eval, hy] using hr
  | const c =>
    simp only [PX.opnd] at hx
    split at hx
    · rename_i v' hv; cases hx; exact RepD_ofConst hv
    · cases hx
  | func f =>
    simp only [PX.opnd, Option.some.injEq] at hx
    subst hx
    exact ⟨#[], rfl, rfl⟩
  | global g => simp [PX.opnd] at hx

theorem Good.opnds (h : Good cx r m L F st a w) : ∀ {l : List Operand} {vs : List V}, PX.opnds st.env l = some vs → RepVL cx.yv L F w vs (l.map a.eval)
  | [], vs, hx => by simp [PX.opnds] at hx; subst hx; rfl
  | x :: r, vs, hx => by
    simp only [PX.opnds] at hx
    cases hv : PX.opnd st.env x with
    | none => simp [hv] at hx
    | some v =>
      cases hr : PX.opnds st.env r with
      | none => simp [hv, hr] at hx
      | some l => simp [hv, hr] at hx; subst hx; exact ⟨_, _, rfl, h.opnd hv, h.opnds hr⟩
end

/-- An operation that leaves memory alone. -/
theorem out_val {P : Program} {e : Env} {h : Heap} {o : Oper} {v : V}
    (hr : ∀ {σ : Type} (cx : Cx σ) (r : Option Nat) (m : List Nat) (L : Loc) (F : Nat → Nat) (st : St σ) (a : Act) (w : World), SubT e st.env → SubT h st.heap → Good cx r m L F st a w →
      ∃ x, (execOp a.eval o).run P w = .ok (.value x) w ∧ RepV cx.yv L F w v x) : Out P e h o (wset o.dst v) := by
  intro σ cx r m L F st a w he hh hg hd
  obtain ⟨x, hx, hv⟩ := hr cx r m L F st a w he hh hg
  exact ⟨x, w, _, hx, .inl rfl, L, F, hg.wset hd hv, Tr.refl F w⟩

section
variable {P : Program} {T : Tys} {e : Env} {h : Heap} {dst : Option Nat} {K : List Wr → Prop} {ty : TypeId} {pos : String} {after : Array Edge} {guard : Option (Nat × Bool)}

theorem out_move {x : Operand} (hk : opK T e h dst (.move x) K) : ∃ ws, K ws ∧ Out P e h ⟨dst, .move x, ty, pos, after, guard⟩ ws := by
  simp only [opK] at hk
  split at hk
  · rename_i v hv
    exact ⟨_, hk, out_val (o := ⟨dst, .move x, ty, pos, after, guard⟩) fun cx r m L F st a w he hh hg => ⟨_, by simp [execOp], hg.opnd (opnd_sub he hv)⟩⟩
  · exact hk.elim

theorem out_assign {x : Operand} (hk : opK T e h dst (.assign x) K) : ∃ ws, K ws ∧ Out P e h ⟨dst, .assign x, ty, pos, after, guard⟩ ws := by
  simp only [opK] at hk
  split at hk
  · rename_i v hv
    exact ⟨_, hk, out_val (o := ⟨dst, .assign x, ty, pos, after, guard⟩) fun cx r m L F st a w he hh hg => ⟨_, by simp [execOp], hg.opnd (opnd_sub he hv)⟩⟩
  · exact hk.elim

theorem eval_bool {σ : Type} {cx : Cx σ} {r : Option Nat} {m : List Nat} {L : Loc} {F : Nat → Nat} {st : St σ} {a : Act} {w : World} (hg : Good cx r m L F st a w) {x : Operand} {b : Bool}
    (he : SubT e st.env) (hx : opnd e x = some (.d (.bool b))) : a.eval x = .bool b := hg.opnd (opnd_sub he hx)

theorem eval_int {σ : Type} {cx : Cx σ} {r : Option Nat} {m : List Nat} {L : Loc} {F : Nat → Nat} {st : St σ} {a : Act} {w : World} (hg : Good cx r m L F st a w) {x : Operand} {k : IntKind} {n : Int}
    (he : SubT e st.env) (hx : opnd e x = some (.d (.int k n))) : a.eval x = .int k n := hg.opnd (opnd_sub he hx)

theorem eval_str {σ : Type} {cx : Cx σ} {r : Option Nat} {m : List Nat} {L : Loc} {F : Nat → Nat} {st : St σ} {a : Act} {w : World} (hg : Good cx r m L F st a w) {x : Operand} {s : ByteArray}
    (he : SubT e st.env) (hx : opnd e x = some (.d (.str s))) : a.eval x = .string s := hg.opnd (opnd_sub he hx)

theorem out_pick {c x y : Operand} (hk : opK T e h dst (.pick c x y) K) : ∃ ws, K ws ∧ Out P e h ⟨dst, .pick c x y, ty, pos, after, guard⟩ ws := by
  simp only [opK] at hk
  have key : ∀ (t : Bool) (z : Operand) (v : V), opnd e c = some (.d (.bool t)) → z = (if t then x else y) → opnd e z = some v → Out P e h ⟨dst, .pick c x y, ty, pos, after, guard⟩ (wset dst v) := by
    intro t z v hc hz hv
    refine out_val (o := ⟨dst, .pick c x y, ty, pos, after, guard⟩) fun cx r m L F st a w he hh hg => ⟨a.eval z, ?_, hg.opnd (opnd_sub he hv)⟩
    have := eval_bool hg he hc
    cases t <;> simp [execOp, this, asBool, hz]
  split at hk
  · rename_i t va vb hc hx hy
    rcases brk_t hk with ⟨rfl, hk⟩ | ⟨rfl, hk⟩
    · exact ⟨_, hk, key true x va hc rfl hx⟩
    · exact ⟨_, hk, key false y vb hc rfl hy⟩
  · rename_i t va hc hx hy
    obtain ⟨rfl, hk⟩ := chk_t hk
    exact ⟨_, hk, key true x va hc rfl hx⟩
  · rename_i t vb hc hx hy
    obtain ⟨hb, hk⟩ := chk_t hk
    have hb : t = false := by simpa using hb
    subst hb
    exact ⟨_, hk, key false y vb hc rfl hy⟩
  · exact hk.elim

theorem out_nilCheck {x : Operand} (hk : opK T e h dst (.nilCheck x) K) : ∃ ws, K ws ∧ Out P e h ⟨dst, .nilCheck x, ty, pos, after, guard⟩ ws := by
  simp only [opK] at hk
  split at hk
  case h_2 => exact hk.elim
  rename_i v hv
  have key : (∀ (yv : Option Nat) (L : Loc) (F : Nat → Nat) (w : World) (y : Value), RepV yv L F w v y → (∃ p, y = .pointer (some p)) ∨ ∃ f l, y = .func (.func f) #[] l) →
      Out P e h ⟨dst, .nilCheck x, ty, pos, after, guard⟩ (wset dst v) := by
    intro hy
    refine out_val (o := ⟨dst, .nilCheck x, ty, pos, after, guard⟩) fun cx r m L F st a w he hh hg => ⟨a.eval x, ?_, hg.opnd (opnd_sub he hv)⟩
    rcases hy _ _ _ _ _ (hg.opnd (opnd_sub he hv)) with ⟨p, hp⟩ | ⟨f, l, hp⟩ <;> simp [execOp, hp]
  split at hk
  · exact ⟨_, hk, key fun yv L F w y hy => by obtain ⟨b, off, rfl, _⟩ := hy; exact .inl ⟨_, rfl⟩⟩
  · exact ⟨_, hk, key fun yv L F w y hy => .inl ⟨_, hy⟩⟩
  · exact ⟨_, hk, key fun yv L F w y hy => .inl ⟨_, hy⟩⟩
  · exact ⟨_, hk, key fun yv L F w y hy => by obtain ⟨l, rfl, _⟩ := hy; exact .inr ⟨_, _, rfl⟩⟩
  · exact ⟨_, hk, key fun yv L F w y hy => by obtain ⟨l, rfl, _⟩ := hy; exact .inr ⟨_, _, rfl⟩⟩
  · exact hk.elim

theorem arith_t {k : IntKind} {n : Int} {K : V → Prop} (h : arith k n K) : K (.d (.int k (k.wrap n))) := by cases h; assumption

theorem out_unOp {op : UnOp} {t : TypeId} {x : Operand} (hk : opK T e h dst (.unOp op t x) K) : ∃ ws, K ws ∧ Out P e h ⟨dst, .unOp op t x, ty, pos, after, guard⟩ ws := by
  simp only [opK] at hk
  split at hk
  · rename_i b hv
    exact ⟨_, hk, out_val (v := .d (.bool !b)) (o := ⟨dst, .unOp .not t x, ty, pos, after, guard⟩) fun cx r m L F st a w he hh hg => ⟨.bool !b, by simp [execOp, eval_bool hg he hv, Op.unary], rfl⟩⟩
  · rename_i k n hv
    exact ⟨_, arith_t hk, out_val (v := .d (.int k (k.wrap (0 - n)))) (o := ⟨dst, .unOp .neg t x, ty, pos, after, guard⟩) fun cx r m L F st a w he hh hg => ⟨.int k (k.wrap (0 - n)), by simp [execOp, eval_int hg he hv, Op.unary, Op.intArith], rfl⟩⟩
  · exact hk.elim

theorem out_convert (hT : TysOk P T) {s d : TypeId} {x : Operand} (hk : opK T e h dst (.convert s d x) K) : ∃ ws, K ws ∧ Out P e h ⟨dst, .convert s d x, ty, pos, after, guard⟩ ws := by
  simp only [opK] at hk
  split at hk
  case h_2 => exact hk.elim
  rename_i si di v hs hd hv
  obtain ⟨i, dd, hi, hdd, _, _, hk1, _⟩ := hT s si hs
  obtain ⟨j, de, hj, hde, _, _, hk2, _⟩ := hT d di hd
  split at hk
  · rename_i k1 k k2 n e1 e2
    rw [e1] at hk1; rw [e2] at hk2
    have e1 := kdOf_int hk1.symm
    have e2 := kdOf_int hk2.symm
    subst e1 e2
    exact ⟨_, arith_t hk, out_val (v := .d (.int k (k.wrap n))) (o := ⟨dst, .convert s d x, ty, pos, after, guard⟩) fun cx r m L F st a w he hh hg =>
      ⟨.int k (k.wrap n), by simp [execOp, eval_int hg he hv, convert, run_underlying hdd, run_underlying hde, Conv.intToInt], rfl⟩⟩
  · rename_i sv e1 e2
    rw [e1] at hk1; rw [e2] at hk2
    have e1 := kdOf_str hk1.symm
    have e2 := kdOf_str hk2.symm
    subst e1 e2
    exact ⟨_, hk, out_val (v := .d (.str sv)) (o := ⟨dst, .convert s d x, ty, pos, after, guard⟩) fun cx r m L F st a w he hh hg =>
      ⟨.string sv, by simp [execOp, eval_str hg he hv, convert, run_underlying hdd, run_underlying hde], rfl⟩⟩
  · exact hk.elim

theorem cellK_t {α : Type} {cs : List α} {n : Nat} {K : α → Prop} (h : cellK cs n K) : ∃ v, cs[n]? = some v ∧ K v := by
  unfold cellK at h
  split at h
  · rename_i v hv; exact ⟨v, hv, h⟩
  · exact h.elim

theorem RepDL.get {F : Nat → Nat} {w : World} {cs : List D} {l : List Value} (i : Nat) {c : D} (h : RepDL F w cs l) (hi : cs[i]? = some c) : ∃ x, l[i]? = some x ∧ RepD F w c x := by
  have := RepVL.get (yv := none) (L := ⟨fun _ => 0, fun _ => 0⟩) (c := .d c) i (RepVL.inj.2 h) (by rw [inj_get, hi]; rfl)
  exact this

theorem out_extract {x : Operand} {i : Nat} (hk : opK T e h dst (.extract x i) K) : ∃ ws, K ws ∧ Out P e h ⟨dst, .extract x i, ty, pos, after, guard⟩ ws := by
  simp only [opK] at hk
  split at hk
  · rename_i l hv
    obtain ⟨v, hi, hk⟩ := cellK_t hk
    refine ⟨_, hk, out_val (o := ⟨dst, .extract x i, ty, pos, after, guard⟩) fun cx r m L F st a w he hh hg => ?_⟩
    obtain ⟨vs, hev, hl⟩ := hg.opnd (opnd_sub he hv)
    obtain ⟨y, hy, hry⟩ := RepDL.get i hl hi
    have hy' : vs[i]? = some y := by simpa using hy
    exact ⟨y, by simp [execOp, hev, Instr.extract, hy'], hry⟩
  · rename_i l hv
    obtain ⟨v, hi, hk⟩ := cellK_t hk
    refine ⟨_, hk, out_val (o := ⟨dst, .extract x i, ty, pos, after, guard⟩) fun cx r m L F st a w he hh hg => ?_⟩
    obtain ⟨vs, hev, hl⟩ := hg.opnd (opnd_sub he hv)
    obtain ⟨y, hy, hry⟩ := RepVL.get i hl hi
    have hy' : vs[i]? = some y := by simpa using hy
    exact ⟨y, by simp [execOp, hev, Instr.extract, hy'], hry⟩
  · exact hk.elim

end
end Go.PX

/- PX: comparisons and arithmetic. -/
namespace Go.PX
open Go.RowKit

theorem beq_str (b c : ByteArray) : (b.toList == c.toList) = decide (b = c) := by
  rw [← beq_toListBytes, Bool.eq_iff_iff, decide_eq_true_eq]
  constructor
  · intro h
    have h : (b.data == c.data) = true := h
    cases b; cases c
    simp only [beq_iff_eq] at h
    rw [h]
  · rintro rfl
    show (b.data == b.data) = true
    simp
theorem int_beq (b c : Int) : (b == c) = decide (b = c) := rfl

theorem stringOp_eql {P : Program} {w : World} (b c : ByteArray) : (Op.stringOp .eql b c).run P w = .ok (.bool (decide (b = c))) w := by
  simp [Op.stringOp, beq_str]
theorem stringOp_neq {P : Program} {w : World} (b c : ByteArray) : (Op.stringOp .neq b c).run P w = .ok (.bool (!decide (b = c))) w := by
  simp [Op.stringOp, bne, beq_str]

theorem RepDL.take {F : Nat → Nat} {w : World} {cs : List D} {l : List Value} (n : Nat) (h : RepDL F w cs l) : RepDL F w (cs.take n) (l.take n) := by
  have := RepVL.take (yv := none) (L := ⟨fun _ => 0, fun _ => 0⟩) n (RepVL.inj.2 h)
  rw [← inj_take] at this
  exact RepVL.inj.1 this
theorem RepDL.drop {F : Nat → Nat} {w : World} {cs : List D} {l : List Value} (n : Nat) (h : RepDL F w cs l) : RepDL F w (cs.drop n) (l.drop n) := by
  have := RepVL.drop (yv := none) (L := ⟨fun _ => 0, fun _ => 0⟩) n (RepVL.inj.2 h)
  rw [← inj_drop] at this
  exact RepVL.inj.1 this

section
variable {P : Program} {T : Tys} {F : Nat → Nat} {w : World}

/-- A value of a type whose cells are known. -/
def ValIs (T : Tys) (F : Nat → Nat) (w : World) (t : TypeId) (xs : List D) (x : Value) : Prop :=
  ∀ ti, T.get t = some ti → if ti.isAgg then ∃ l : Array Value, x = .agg l ∧ RepDL F w xs l.toList else ∀ c, xs = [c] → RepD F w c x

theorem run_part (hT : TysOk P T) {t : TypeId} {ti : TyI} (ht : T.get t = some ti) {cs : Array Value} {xs : List D} {off : Nat} (hx : RepDL F w xs cs.toList) (h : off + ti.size ≤ xs.length) (h1 : 0 < ti.size) :
    ∃ x, (part t cs off).run P w = .ok x w ∧ ValIs T F w t ((xs.drop off).take ti.size) x := by
  unfold part
  have hs := run_size (w := w) hT ht
  have hl : cs.size = xs.length := by simpa using hx.length
  cases hA : ti.isAgg
  · have hlt : off < cs.size := by omega
    refine ⟨cs[off], ?_, fun ti' hti' => ?_⟩
    · simp [run_isAgg hT ht, hA, hlt]
    · rw [ht] at hti'; cases hti'
      simp only [hA, Bool.false_eq_true, if_false]
      intro c hc
      have hc' : xs[off]? = some c := by
        have : ((xs.drop off).take ti.size)[0]? = some c := by rw [hc]; rfl
        rw [List.getElem?_take_of_lt h1, List.getElem?_drop] at this
        simpa using this
      obtain ⟨y, hy, hr⟩ := RepDL.get off hx hc'
      have : cs[off] = y := by
        have := (List.getElem?_eq_some_iff.1 hy).2
        simpa using this
      rw [this]; exact hr
  · refine ⟨.agg (cs.extract off (off + ti.size)), ?_, fun ti' hti' => ?_⟩
    · simp [run_isAgg hT ht, hA, hs]
    · rw [ht] at hti'; cases hti'
      simp only [hA, if_true]
      refine ⟨_, rfl, ?_⟩
      have : (cs.extract off (off + ti.size)).toList = (cs.toList.drop off).take ti.size := by simp [List.extract_eq_take_drop]
      rw [this]
      exact RepDL.take _ (RepDL.drop off hx)

theorem eqFs_sound (hT : TysOk P T) {eq : TypeId → List D → List D → Option Bool} {N : Nat}
    (heq : ∀ (t : TypeId) (xs ys : List D) (r : Bool), eq t xs ys = some r →
      P.eqGuardType N t = false ∧ ∀ (x y : Value), ValIs T F w t xs x → ValIs T F w t ys y → (Op.equalIn N t x y).run P w = .ok r w) :
    ∀ (fs : List Field), (∀ f ∈ fs, (f.name == "_") = false) → ∀ (xs ys : List D) (r : Bool), eqFs T eq (fs.map fun f => (f.offset, f.type)) xs ys = some r →
    (∀ f ∈ fs, P.eqGuardType N f.type = false) ∧ ∀ (lx ly : Array Value), RepDL F w xs lx.toList → RepDL F w ys ly.toList → (Op.eqFields N lx ly fs).run P w = .ok r w
  | [], _, xs, ys, r, h => by
    simp only [List.map_nil, eqFs, Option.some.injEq] at h
    subst h
    exact ⟨by simp, fun _ _ _ _ => by simp [Op.eqFields]⟩
  | f :: fs, hnm, xs, ys, r, h => by
    simp only [List.map_cons, eqFs] at h
    split at h
    · cases h
    rename_i ti hti
    split at h
    case h_2 => cases h
    rename_i hn0 hxl hyl
    have hn0 : ti.size ≠ 0 := by intro e; rw [e] at hn0; simp at hn0
    have hxl := ble_t hxl
    have hyl := ble_t hyl
    split at h
    · rename_i b c hb hc'
      cases h
      have h1 := heq f.type _ _ b hb
      have h2 := eqFs_sound hT heq fs (fun g hg => hnm g (List.mem_cons_of_mem _ hg)) xs ys c hc'
      refine ⟨fun g hg => ?_, fun lx ly hlx hly => ?_⟩
      · rcases List.mem_cons.1 hg with rfl | hg
        · exact h1.1
        · exact h2.1 g hg
      · obtain ⟨x, hx, hvx⟩ := run_part (F := F) (w := w) hT hti hlx hxl (by omega)
        obtain ⟨y, hy, hvy⟩ := run_part (F := F) (w := w) hT hti hly hyl (by omega)
        have hnf : f.name ≠ "_" := by
          have := hnm f (List.mem_cons_self ..)
          simpa using this
        simp only [Op.eqFields, hnf, ne_eq, not_false_eq_true, if_true, Sem.run_bind, hx, hy, Result.andThen_ok, h1.2 x y hvx hvy]
        cases b
        · simp
        · simp [h2.2 lx ly hlx hly]
    · cases h

theorem eqV_sound (hT : TysOk P T) : ∀ (d : Nat) (t : TypeId) (xs ys : List D) (r : Bool), eqV T d t xs ys = some r → ∀ (N : Nat), d ≤ N → 
    P.eqGuardType N t = false ∧ ∀ (x y : Value), ValIs T F w t xs x → ValIs T F w t ys y → (Op.equalIn N t x y).run P w = .ok r w
  | 0, _, _, _, _, h, _, _ => by simp [eqV] at h
  | d + 1, t, xs, ys, r, h, 0, hN => by omega
  | d + 1, t, xs, ys, r, h, N + 1, hN => by
    simp only [eqV] at h
    split at h
    · cases h
    rename_i ti hti
    obtain ⟨i, de, hi, hde, _, _, hkd, hag, hhe, _⟩ := hT t ti hti
    split at h
    · rename_i hk
      have e := kdOf_bool (hkd ▸ hk); subst e
      split at h
      · rename_i b c; cases h
        refine ⟨by simp [Program.eqGuardType, hde], fun x y hx hy => ?_⟩
        have hx' := hx ti hti; have hy' := hy ti hti
        rw [hag] at hx' hy'
        have ex : x = .bool b := hx' _ rfl
        have ey : y = .bool c := hy' _ rfl
        subst ex ey
        exact run_equalIn_bool' w N t b c hde
      · cases h
    · rename_i k hk
      have e := kdOf_int (hkd ▸ hk); subst e
      split at h
      · rename_i k1 b k2 c
        split at h
        · rename_i hkk; have hkk := of_decide_eq_true hkk; subst hkk; cases h
          refine ⟨by simp [Program.eqGuardType, hde], fun x y hx hy => ?_⟩
          have hx' := hx ti hti; have hy' := hy ti hti
          rw [hag] at hx' hy'
          have ex : x = .int k1 b := hx' _ rfl
          have ey : y = .int k1 c := hy' _ rfl
          subst ex ey
          exact run_equalIn_int w N t k1 k b c hde
        · cases h
      · cases h
    · rename_i hk
      have e := kdOf_str (hkd ▸ hk); subst e
      split at h
      · rename_i b c; cases h
        refine ⟨by simp [Program.eqGuardType, hde], fun x y hx hy => ?_⟩
        have hx' := hx ti hti; have hy' := hy ti hti
        rw [hag] at hx' hy'
        have ex : x = .string b := hx' _ rfl
        have ey : y = .string c := hy' _ rfl
        subst ex ey
        rw [run_equalIn_string w N t b c hde, beq_str]
      · cases h
    · rename_i fs hk
      obtain ⟨fa, rfl, rfl, hnm⟩ := kdOf_struct (hkd ▸ hk)
      split at h
      · cases h
      rename_i hheld
      have hheld' : P.stoodInHeld t = false := hhe hheld
      have hF := eqFs_sound (P := P) (F := F) (w := w) hT (fun t xs ys r h => eqV_sound hT d t xs ys r h N (by omega)) fa.toList hnm xs ys r h
      refine ⟨?_, fun x y hx hy => ?_⟩
      · simp only [Program.eqGuardType, hde]
        rw [Array.any_eq_false']
        intro f hf
        have := hF.1 f (by simpa using hf)
        simp [this]
      · have hx' := hx ti hti; have hy' := hy ti hti
        rw [hag] at hx' hy'
        simp only [aggOf, if_true] at hx' hy'
        obtain ⟨lx, rfl, hlx⟩ := hx'
        obtain ⟨ly, rfl, hly⟩ := hy'
        have hfo : P.fieldsOf t = fa := by simp [Program.fieldsOf, hde]
        rw [run_equalIn_struct w N t lx ly (by rw [hfo]; exact hde) hheld', hfo]
        exact hF.2 lx ly hlx hly
    · cases h

theorem depth_ge : 9 ≤ P.depth := by unfold Program.depth Made.depth; omega

theorem eqGuard_plain {op : BinOp} {t : TypeId} {x y : Operand} {u v : Value} (h : ∀ l, u ≠ .agg l) (h2 : u ≠ .nilIface) : (eqGuard op t x y u v).run P w = .ok () w := by
  have key : ∀ (m1 : Sem Unit) (m2 : Sem Unit), (match u, v with
      | .nilIface, .nilIface => m1
      | .agg _, .agg _ => m2
      | _, _ => pure ()).run P w = .ok () w := by
    intro m1 m2
    cases u <;> first | exact absurd rfl h2 | exact absurd rfl (h _) | (cases v <;> rfl)
  unfold eqGuard
  cases op <;> first | (simp; done) | skip
  · exact key _ _
  · exact key _ _

end

theorem isBool_t {P : Program} {T : Tys} (hT : TysOk P T) {t : TypeId} (h : isBool T t = true) : P.underlying t = some .bool := by
  unfold isBool at h
  split at h
  · rename_i ti hti
    split at h
    · rename_i hk
      obtain ⟨i, de, hi, hde, _, _, hkd, _⟩ := hT t ti hti
      rw [hk] at hkd
      rw [hde, kdOf_bool hkd.symm]
    · cases h
  · cases h

theorem isStruct_t {T : Tys} {t : TypeId} (h : isStruct T t = true) : ∃ ti fs, T.get t = some ti ∧ ti.kd = .struct fs := by
  unfold isStruct at h
  split at h
  · rename_i ti hti
    split at h
    · rename_i fs hk; exact ⟨ti, fs, hti, hk⟩
    · cases h
  · cases h

theorem boolO_t {x : Option Bool} {K : V → Prop} (h : boolO x K) : ∃ b, x = some b ∧ K (.d (.bool b)) := by
  unfold boolO at h
  split at h
  · exact ⟨_, rfl, h⟩
  · exact h.elim

theorem notO_t {x : Option Bool} {b : Bool} (h : notO x = some b) : ∃ c, x = some c ∧ b = !c := by
  unfold notO at h
  split at h
  · cases h; exact ⟨_, rfl, rfl⟩
  · cases h

section
variable {P : Program} {T : Tys} {e : Env} {h : Heap} {dst : Option Nat} {K : List Wr → Prop} {ty : TypeId} {pos : String} {after : Array Edge} {guard : Option (Nat × Bool)}

theorem out_binOp (hT : TysOk P T) {op : BinOp} {t t' : TypeId} {x y : Operand} (hk : opK T e h dst (.binOp op t x y t') K) : ∃ ws, K ws ∧ Out P e h ⟨dst, .binOp op t x y t', ty, pos, after, guard⟩ ws := by
  simp only [opK] at hk
  split at hk
  case h_2 => exact hk.elim
  rename_i u v hu hv
  have fin : ∀ (d : D) (hd : K (wset dst (.d d))), (∀ {σ : Type} (cx : Cx σ) (r : Option Nat) (m : List Nat) (L : Loc) (F : Nat → Nat) (st : St σ) (a : Act) (w : World), SubT e st.env → Good cx r m L F st a w →
      ∃ s, (eqGuard op t x y (a.eval x) (a.eval y)).run P w = .ok () w ∧ (binOp op t (a.eval x) (a.eval y)).run P w = .ok s w ∧ RepD F w d s) → ∃ ws, K ws ∧ Out P e h ⟨dst, .binOp op t x y t', ty, pos, after, guard⟩ ws := by
    intro d hd hr
    refine ⟨_, hd, out_val (v := .d d) (o := ⟨dst, .binOp op t x y t', ty, pos, after, guard⟩) fun cx r m L F st a w he hh hg => ?_⟩
    obtain ⟨s, h1, h2, h3⟩ := hr cx r m L F st a w he hg
    exact ⟨s, by simp [execOp, h1, h2], h3⟩
  unfold binK at hk
  split at hk
  · rename_i k b k' c
    have ints : ∀ {σ : Type} (cx : Cx σ) (r : Option Nat) (m : List Nat) (L : Loc) (F : Nat → Nat) (st : St σ) (a : Act) (w : World), SubT e st.env → Good cx r m L F st a w →
        a.eval x = .int k b ∧ a.eval y = .int k' c ∧ (eqGuard op t x y (a.eval x) (a.eval y)).run P w = .ok () w := by
      intro σ cx r m L F st a w he hg
      have hx := eval_int hg he hu; have hy := eval_int hg he hv
      exact ⟨hx, hy, by rw [hx, hy]; exact eqGuard_plain (fun l e => by cases e) (fun e => by cases e)⟩
    split at hk
    · obtain ⟨hc, hk⟩ := chk_t hk
      have hc : 0 ≤ c := of_decide_eq_true hc
      refine fin _ (arith_t hk) fun cx r m L F st a w he hg => ?_
      obtain ⟨hx, hy, h1⟩ := ints cx r m L F st a w he hg
      exact ⟨_, h1, by rw [hx, hy]; simp [binOp, Op.shift, show ¬ c < 0 by omega], rfl⟩
    · obtain ⟨hc, hk⟩ := chk_t hk
      have hc : 0 ≤ c := of_decide_eq_true hc
      refine fin _ hk fun cx r m L F st a w he hg => ?_
      obtain ⟨hx, hy, h1⟩ := ints cx r m L F st a w he hg
      exact ⟨_, h1, by rw [hx, hy]; simp [binOp, Op.shift, show ¬ c < 0 by omega], rfl⟩
    · split at hk
      case h_2 => exact hk.elim
      rename_i hkk
      have hkk := of_decide_eq_true hkk
      subst hkk
      have : ∃ d, K (wset dst (.d d)) ∧ ∀ F w, ∃ s, ((binOp op t (.int k b) (.int k c)).run P w = .ok s w) ∧ RepD F w d s := by
        clear ints fin
        cases op <;> simp only [intK] at hk
        case add => exact ⟨_, arith_t hk, fun F w => ⟨_, by simp [binOp, Op.intArith], rfl⟩⟩
        case sub => exact ⟨_, arith_t hk, fun F w => ⟨_, by simp [binOp, Op.intArith], rfl⟩⟩
        case mul => exact ⟨_, arith_t hk, fun F w => ⟨_, by simp [binOp, Op.intArith], rfl⟩⟩
        case quo =>
          obtain ⟨hc, hb⟩ := chk_t hk
          have hc : c ≠ 0 := of_decide_eq_true hc
          exact ⟨_, arith_t hb, fun F w => ⟨_, by simp [binOp, Op.intDiv, hc], rfl⟩⟩
        case rem =>
          obtain ⟨hc, hb⟩ := chk_t hk
          have hc : c ≠ 0 := of_decide_eq_true hc
          exact ⟨_, hb, fun F w => ⟨_, by simp [binOp, Op.intDiv, hc], rfl⟩⟩
        case eql => exact ⟨_, hk, fun F w => ⟨.bool (decide (b = c)), by simp [binOp, Op.intCmp, int_beq], rfl⟩⟩
        case neq => exact ⟨_, hk, fun F w => ⟨.bool (!decide (b = c)), by simp [binOp, Op.intCmp, bne, int_beq], rfl⟩⟩
        case lss => exact ⟨_, hk, fun F w => ⟨_, by simp [binOp, Op.intCmp], rfl⟩⟩
        case leq => exact ⟨_, hk, fun F w => ⟨_, by simp [binOp, Op.intCmp], rfl⟩⟩
        case gtr => exact ⟨_, hk, fun F w => ⟨_, by simp [binOp, Op.intCmp], rfl⟩⟩
        case geq => exact ⟨_, hk, fun F w => ⟨_, by simp [binOp, Op.intCmp], rfl⟩⟩
        all_goals exact hk.elim
      obtain ⟨d, hd, hrun⟩ := this
      refine fin d hd fun cx r m L F st a w he hg => ?_
      obtain ⟨hx, hy, h1⟩ := ints cx r m L F st a w he hg
      obtain ⟨s, h2, h3⟩ := hrun F w
      exact ⟨s, h1, by rw [hx, hy]; exact h2, h3⟩
  · rename_i b c
    have bools : ∀ {σ : Type} (cx : Cx σ) (r : Option Nat) (m : List Nat) (L : Loc) (F : Nat → Nat) (st : St σ) (a : Act) (w : World), SubT e st.env → Good cx r m L F st a w →
        a.eval x = .bool b ∧ a.eval y = .bool c ∧ (eqGuard op t x y (a.eval x) (a.eval y)).run P w = .ok () w := by
      intro σ cx r m L F st a w he hg
      have hx := eval_bool hg he hu; have hy := eval_bool hg he hv
      exact ⟨hx, hy, by rw [hx, hy]; exact eqGuard_plain (fun l e => by cases e) (fun e => by cases e)⟩
    split at hk
    · rename_i hb
      have hde := isBool_t hT hb
      refine fin _ hk fun cx r m L F st a w he hg => ?_
      obtain ⟨hx, hy, h1⟩ := bools cx r m L F st a w he hg
      exact ⟨_, h1, by rw [hx, hy]; exact run_eql_bool w t b c hde, rfl⟩
    · rename_i hb
      have hde := isBool_t hT hb
      refine fin _ hk fun cx r m L F st a w he hg => ?_
      obtain ⟨hx, hy, h1⟩ := bools cx r m L F st a w he hg
      exact ⟨_, h1, by rw [hx, hy]; exact run_neq_bool w t b c hde, rfl⟩
    · exact hk.elim
  · rename_i b c
    have strs : ∀ {σ : Type} (cx : Cx σ) (r : Option Nat) (m : List Nat) (L : Loc) (F : Nat → Nat) (st : St σ) (a : Act) (w : World), SubT e st.env → Good cx r m L F st a w →
        a.eval x = .string b ∧ a.eval y = .string c ∧ (eqGuard op t x y (a.eval x) (a.eval y)).run P w = .ok () w := by
      intro σ cx r m L F st a w he hg
      have hx := eval_str hg he hu; have hy := eval_str hg he hv
      exact ⟨hx, hy, by rw [hx, hy]; exact eqGuard_plain (fun l e => by cases e) (fun e => by cases e)⟩
    split at hk
    · refine fin _ hk fun cx r m L F st a w he hg => ?_
      obtain ⟨hx, hy, h1⟩ := strs cx r m L F st a w he hg
      exact ⟨.bool (decide (b = c)), h1, by rw [hx, hy]; simpa [binOp] using stringOp_eql b c, rfl⟩
    · refine fin _ hk fun cx r m L F st a w he hg => ?_
      obtain ⟨hx, hy, h1⟩ := strs cx r m L F st a w he hg
      exact ⟨.bool (!decide (b = c)), h1, by rw [hx, hy]; simpa [binOp] using stringOp_neq b c, rfl⟩
    · exact hk.elim
  · rename_i xs ys
    have key : ∀ (b : Bool) (hs : isStruct T t = true) (hbv : eqV T 9 t xs ys = some b) {σ : Type} (cx : Cx σ) (r : Option Nat) (m : List Nat) (L : Loc) (F : Nat → Nat) (st : St σ) (a : Act) (w : World), SubT e st.env → Good cx r m L F st a w →
        ∃ lx ly, a.eval x = .agg lx ∧ a.eval y = .agg ly ∧ (eqGuard op t x y (a.eval x) (a.eval y)).run P w = .ok () w ∧ (Op.equal t (a.eval x) (a.eval y)).run P w = .ok b w := by
      intro b hs hbv σ cx r m L F st a w he hg
      obtain ⟨lx, hx, hlx⟩ := hg.opnd (opnd_sub he hu)
      obtain ⟨ly, hy, hly⟩ := hg.opnd (opnd_sub he hv)
      have h9 := eqV_sound (P := P) (F := F) (w := w) hT 9 t xs ys b hbv
      have hgt := (h9 P.depth depth_ge).1
      obtain ⟨ti, fs, hti, hkd'⟩ := isStruct_t hs
      obtain ⟨i, de, hi, hde, _, _, hkd, hag, _⟩ := hT t ti hti
      have hag : ti.isAgg = true := by
        rw [hag]
        rw [hkd'] at hkd
        obtain ⟨fa, hfa, _⟩ := kdOf_struct hkd.symm
        subst hfa; rfl
      have hval : ∀ (zs : List D) (l : Array Value), RepDL F w zs l.toList → ValIs T F w t zs (.agg l) := fun zs l hl ti' hti' => by
        rw [hti] at hti'; cases hti'
        rw [hag]; exact ⟨l, rfl, hl⟩
      refine ⟨lx, ly, hx, hy, ?_, ?_⟩
      · rw [hx, hy]
        unfold eqGuard
        cases op <;> simp [hgt]
      · rw [hx, hy]
        exact (h9 Op.maxDepth (by decide)).2 _ _ (hval _ _ hlx) (hval _ _ hly)
    split at hk
    · rename_i hs
      obtain ⟨b, hbv, hk⟩ := boolO_t hk
      refine fin _ hk fun cx r m L F st a w he hg => ?_
      obtain ⟨lx, ly, hx, hy, h1, h2⟩ := key b hs hbv cx r m L F st a w he hg
      refine ⟨.bool b, h1, ?_, rfl⟩
      rw [hx, hy] at h2 ⊢
      simp [binOp, h2]
    · rename_i hs
      obtain ⟨b, hbv, hk⟩ := boolO_t hk
      obtain ⟨c, hbv', rfl⟩ := notO_t hbv
      refine fin _ hk fun cx r m L F st a w he hg => ?_
      obtain ⟨lx, ly, hx, hy, h1, h2⟩ := key c hs hbv' cx r m L F st a w he hg
      refine ⟨.bool !c, h1, ?_, rfl⟩
      rw [hx, hy] at h2 ⊢
      simp [binOp, h2]
    · exact hk.elim
  · exact hk.elim

end
end Go.PX

/- PX: addresses, reads of memory, parts of values, slices, lengths. -/
namespace Go.PX
open Go.RowKit

theorem add_none (b off n : Nat) : (⟨b, off, none⟩ : Addr).add n = ⟨b, off + n, none⟩ := by
  unfold Addr.add; split
  · rename_i h; subst h; rfl
  · rfl

theorem RepAt.get {F : Nat → Nat} {w : World} : ∀ {cs : List D} {b off : Nat} (i : Nat) {c : D}, RepAt F w b off cs → cs[i]? = some c → off + i < F b ∧ ∃ x, w.cell? ⟨b, off + i, none⟩ = some x ∧ RepD F w c x
  | [], _, _, i, c, _, hi => by simp at hi
  | d :: r, b, off, 0, c, h, hi => by
    simp at hi
    subst hi
    exact ⟨h.1, h.2.1⟩
  | d :: r, b, off, i + 1, c, h, hi => by
    have := RepAt.get i h.2.2 (by simpa using hi)
    simpa [Nat.add_assoc, Nat.add_comm 1 i] using this

theorem RepAt.of_get {F : Nat → Nat} {w : World} : ∀ {cs : List D} {b off : Nat}, (∀ (i : Nat) (c : D), cs[i]? = some c → off + i < F b ∧ ∃ x, w.cell? ⟨b, off + i, none⟩ = some x ∧ RepD F w c x) → RepAt F w b off cs
  | [], _, _, _ => trivial
  | c :: r, b, off, h => ⟨(h 0 c (by simp)).1, (h 0 c (by simp)).2, RepAt.of_get fun i d hd => by
      have := h (i + 1) d (by simpa using hd)
      simpa [Nat.add_assoc, Nat.add_comm 1 i] using this⟩

theorem RepAt.drop {F : Nat → Nat} {w : World} {cs : List D} {b off : Nat} (n : Nat) (h : RepAt F w b off cs) : RepAt F w b (off + n) (cs.drop n) :=
  .of_get fun i c hc => by
    rw [List.getElem?_drop] at hc
    simpa [Nat.add_assoc] using RepAt.get _ h hc

theorem RepEs.get {F : Nat → Nat} {w : World} : ∀ {es : List (List D)} {b off sz : Nat} (i : Nat) {e : List D}, RepEs F w b off sz es → es[i]? = some e → e.length = sz ∧ RepAt F w b (off + i * sz) e
  | [], _, _, _, i, c, _, hi => by simp at hi
  | d :: r, b, off, sz, 0, c, h, hi => by
    simp at hi
    subst hi
    exact ⟨h.1, by simpa using h.2.1⟩
  | d :: r, b, off, sz, i + 1, c, h, hi => by
    have := RepEs.get i h.2.2 (by simpa using hi)
    refine ⟨this.1, ?_⟩
    have e : off + (i + 1) * sz = off + sz + i * sz := by rw [Nat.succ_mul]; omega
    rw [e]; exact this.2

theorem RepEs.of_get {F : Nat → Nat} {w : World} : ∀ {es : List (List D)} {b off sz : Nat}, (∀ (i : Nat) (e : List D), es[i]? = some e → e.length = sz ∧ RepAt F w b (off + i * sz) e) → RepEs F w b off sz es
  | [], _, _, _, _ => trivial
  | e :: r, b, off, sz, h => ⟨(h 0 e (by simp)).1, by simpa using (h 0 e (by simp)).2, RepEs.of_get fun i d hd => by
      have := h (i + 1) d (by simpa using hd)
      have e : off + (i + 1) * sz = off + sz + i * sz := by rw [Nat.succ_mul]; omega
      rw [e] at this; exact this⟩

theorem RepEs.take {F : Nat → Nat} {w : World} {es : List (List D)} {b off sz : Nat} (n : Nat) (h : RepEs F w b off sz es) : RepEs F w b off sz (es.take n) :=
  .of_get fun i e he => by
    rw [List.getElem?_take] at he
    split at he
    · exact RepEs.get i h he
    · simp at he

theorem RepEs.drop {F : Nat → Nat} {w : World} {es : List (List D)} {b off sz : Nat} (n : Nat) (h : RepEs F w b off sz es) : RepEs F w b (off + n * sz) sz (es.drop n) :=
  .of_get fun i e he => by
    rw [List.getElem?_drop] at he
    have := RepEs.get _ h he
    rw [Nat.add_mul, ← Nat.add_assoc] at this
    exact this

theorem dsOf_eq : ∀ {l : List V} {ds : List D}, dsOf l = some ds → l = inj ds
  | [], ds, h => by simp [dsOf] at h; subst h; rfl
  | v :: r, ds, h => by
    cases v <;> simp only [dsOf] at h <;> first | (cases h; done) | skip
    rename_i d
    cases hr : dsOf r with
    | none => simp [hr] at h
    | some l => simp [hr] at h; subst h; simp [inj, dsOf_eq hr]

section
variable {yv : Option Nat} {L : Loc} {F : Nat → Nat} {w : World}

theorem RepV.mkAgg {cs : List V} {l : Array Value} (h : RepVL yv L F w cs l.toList) : RepV yv L F w (mkAgg cs) (.agg l) := by
  unfold PX.mkAgg
  split
  · rename_i ds hd
    rw [dsOf_eq hd] at h
    exact ⟨l, rfl, RepVL.inj.1 h⟩
  · exact ⟨l, rfl, h⟩

theorem Cells.len_eq (c : Cells) : c.len = c.toV.length := by
  cases c
  · exact (inj_length _).symm
  · rfl

theorem RepV.sub {c : Cells} {off n : Nat} {l : Array Value} (h : RepVL yv L F w ((c.toV.drop off).take n) l.toList) : RepV yv L F w (c.sub off n) (.agg l) := by
  cases c with
  | dd d =>
    refine ⟨l, rfl, ?_⟩
    simp only [Cells.toV, ← inj_drop, ← inj_take] at h
    exact RepVL.inj.1 h
  | vv d => exact RepV.mkAgg h

theorem atK_t {c : Cells} {n : Nat} {K : V → Prop} (h : c.atK n K) : ∃ v, c.toV[n]? = some v ∧ K v := by
  cases c with
  | dd l =>
    obtain ⟨v, hv, hk⟩ := cellK_t h
    exact ⟨.d v, by simp [Cells.toV, inj_get, hv], hk⟩
  | vv l => exact cellK_t h

theorem getK_t {ti : TyI} {c : Cells} {off : Nat} {K : V → Prop} (h : c.getK ti off K) :
    ∃ v, K v ∧ ((ti.isAgg = true ∧ off + ti.size ≤ c.toV.length ∧ v = c.sub off ti.size) ∨ (ti.isAgg = false ∧ c.toV[off]? = some v)) := by
  unfold Cells.getK at h
  split at h
  · rename_i hA
    obtain ⟨hb, hk⟩ := chk_t h
    rw [Cells.len_eq] at hb
    exact ⟨_, hk, .inl ⟨hA, ble_t hb, rfl⟩⟩
  · rename_i hA
    obtain ⟨v, hv, hk⟩ := atK_t h
    exact ⟨v, hk, .inr ⟨hA, hv⟩⟩

theorem cells_list {b off : Nat} : ∀ {cs : List V} (n : Nat), n ≤ cs.length → (∀ (i : Nat) c, cs[i]? = some c → ∃ v, w.cell? ⟨b, off + i, none⟩ = some v ∧ RepV yv L F w c v) →
    ∃ l : List Value, RepVL yv L F w (cs.take n) l ∧ ∀ (j : Nat) v, l[j]? = some v → w.cell? ⟨b, off + j, none⟩ = some v
  | cs, 0, _, _ => ⟨[], by simp [RepVL], by simp⟩
  | cs, n + 1, hn, h => by
    obtain ⟨l, hl, hj⟩ := cells_list n (by omega) h
    have hlt : n < cs.length := by omega
    obtain ⟨v, hv, hr⟩ := h n cs[n] (by simp [hlt])
    have hll : l.length = n := by have := hl.length; simp at this; omega
    refine ⟨l ++ [v], ?_, ?_⟩
    · rw [List.take_succ_eq_append_getElem hlt]
      exact hl.append ⟨v, [], rfl, hr, rfl⟩
    · intro j u hu
      by_cases hjn : j < n
      · rw [List.getElem?_append_left (by omega)] at hu
        exact hj j u hu
      · rw [List.getElem?_append_right (by omega)] at hu
        have : j - l.length = 0 := by
          rcases Nat.eq_zero_or_pos (j - l.length) with h0 | h0
          · exact h0
          · rw [List.getElem?_eq_none (by simp; omega)] at hu; cases hu
        rw [this] at hu
        simp at hu
        subst hu
        have : j = n := by omega
        subst this; exact hv

theorem run_loadVar {P : Program} {T : Tys} (hT : TysOk P T) {t : TypeId} {ti : TyI} (ht : T.get t = some ti) {b off o : Nat} {c : Cells} {v : V}
    (hc : ∀ (i : Nat) x, (c.toV.drop o)[i]? = some x → ∃ v, w.cell? ⟨b, off + i, none⟩ = some v ∧ RepV yv L F w x v)
    (hv : (ti.isAgg = true ∧ o + ti.size ≤ c.toV.length ∧ v = c.sub o ti.size) ∨ (ti.isAgg = false ∧ c.toV[o]? = some v)) :
    ∃ x, (loadVar t ⟨b, off, none⟩).run P w = .ok x w ∧ RepV yv L F w v x := by
  rcases hv with ⟨hA, hn, rfl⟩ | ⟨hA, hv⟩
  · obtain ⟨l, hl, hj⟩ := cells_list ti.size (by simp; omega) hc
    have hll : l.length = ti.size := by have := hl.length; simp at this; omega
    have hrun : (loadCells ⟨b, off, none⟩ l.length).run P w = .ok l.toArray w :=
      run_loadCells_list (P := P) w ⟨b, off, none⟩ l (fun j v hv => by rw [add_none]; exact hj j v hv)
    rw [hll] at hrun
    exact ⟨.agg l.toArray, by simp [loadVar, run_isAgg hT ht, hA, run_size hT ht, hrun], RepV.sub (by simpa using hl)⟩
  · obtain ⟨x, hx, hr⟩ := hc 0 v (by rw [List.getElem?_drop]; exact hv)
    exact ⟨x, by simp [loadVar, run_isAgg hT ht, hA] at hx ⊢; simp [hx], hr⟩

theorem flatten_get {α : Type} {sz : Nat} : ∀ {es : List (List α)} {i j : Nat} {e : List α} {c : α}, lensAre sz es → es[i]? = some e → e[j]? = some c → es.flatten[i * sz + j]? = some c
  | [], i, j, e, c, _, hi, _ => by simp at hi
  | f :: es, 0, j, e, c, h, hi, hj => by
    simp at hi
    subst hi
    have : j < f.length := (List.getElem?_eq_some_iff.1 hj).1
    rw [List.flatten_cons, Nat.zero_mul, Nat.zero_add, List.getElem?_append_left this]
    exact hj
  | f :: es, i + 1, j, e, c, h, hi, hj => by
    have hf := h f (List.mem_cons_self ..)
    rw [List.flatten_cons, List.getElem?_append_right (by rw [Nat.succ_mul]; omega)]
    have : (i + 1) * sz + j - f.length = i * sz + j := by rw [Nat.succ_mul]; omega
    rw [this]
    exact flatten_get (fun e he => h e (List.mem_cons_of_mem _ he)) (by simpa using hi) hj

theorem flatten_len {α : Type} {sz : Nat} : ∀ {es : List (List α)}, lensAre sz es → es.flatten.length = es.length * sz
  | [], _ => by simp
  | f :: es, h => by
    rw [List.flatten_cons, List.length_append, flatten_len (fun e he => h e (List.mem_cons_of_mem _ he)), h f (List.mem_cons_self ..), List.length_cons, Nat.succ_mul]; omega

theorem elsAtK_t {es : Els} {n : Nat} {K : Cells → Prop} (h : es.atK n K) : ∃ c, es.toV[n]? = some c.toV ∧ K c := by
  cases es with
  | dd l =>
    obtain ⟨v, hv, hk⟩ := cellK_t h
    exact ⟨.dd v, by simp [Els.toV, injL_eq, hv, Cells.toV], hk⟩
  | vv l =>
    obtain ⟨v, hv, hk⟩ := cellK_t h
    exact ⟨.vv v, by simp [Els.toV, hv, Cells.toV], hk⟩

theorem RepO.boxCells {id : Nat} {c : Cells} (h : RepO yv L F w id (.box c)) (o : Nat) : ∀ (i : Nat) x, (c.toV.drop o)[i]? = some x → ∃ v, w.cell? ⟨L.ρ id, o + i, none⟩ = some v ∧ RepV yv L F w x v := by
  intro i x hx
  obtain ⟨l, T, hl, hr⟩ := h
  rw [List.getElem?_drop] at hx
  obtain ⟨v, hv, hrv⟩ := RepVL.get _ hr hx
  exact ⟨v, by rw [cell_of_row _ _ _ _ _ _ hl]; simpa using hv, hrv⟩

theorem RepO.arrCells {id sz i : Nat} {es : Els} {c : Cells} (h : RepO yv L F w id (.arr sz es)) (hi : es.toV[i]? = some c.toV) (o : Nat) :
    ∀ (j : Nat) x, (c.toV.drop o)[j]? = some x → ∃ v, w.cell? ⟨L.ρ id, i * sz + o + j, none⟩ = some v ∧ RepV yv L F w x v := by
  intro j x hx
  obtain ⟨hs, hl, h⟩ := h
  rw [List.getElem?_drop] at hx
  rcases h with ⟨he, _⟩ | ⟨l, T, hl', hk, hn, hr⟩
  · rw [he] at hi; simp at hi
  · have hg := flatten_get hl hi hx
    obtain ⟨v, hv, hrv⟩ := RepVL.get _ hr hg
    refine ⟨v, ?_, hrv⟩
    rw [cell_of_row _ _ _ _ _ _ hl', Nat.add_assoc]
    rw [List.getElem?_take] at hv
    split at hv
    · simpa using hv
    · cases hv

end

section
variable {P : Program} {T : Tys} {e : Env} {h : Heap} {dst : Option Nat} {K : List Wr → Prop} {ty : TypeId} {pos : String} {after : Array Edge} {guard : Option (Nat × Bool)}

/-- Reading a variable. -/
theorem loadK_t (hT : TysOk P T) {t : TypeId} {x : Operand} {K : V → Prop} (hk : loadK T e h t x K) :
    ∃ v, K v ∧ ∀ {σ : Type} (cx : Cx σ) (L : Loc) (F : Nat → Nat) (s : σ) (u : Value) (w : World) (hp : Heap), SubT h hp → HeapOk cx L F hp s w → (∀ v, opnd e x = some v → RepV cx.yv L F w v u) →
      ∃ b off y, u = .pointer (some ⟨b, off, none⟩) ∧ (loadVar t ⟨b, off, none⟩).run P w = .ok y w ∧ RepV cx.yv L F w v y := by
  unfold loadK at hk
  split at hk
  · exact hk.elim
  rename_i v hv
  split at hk
  · rename_i cs ti hp ht
    obtain ⟨r, hr, hc⟩ := getK_t hk
    refine ⟨r, hr, fun cx L F s u w hp' hs hg hu => ?_⟩
    unfold placeOf at hp
    split at hp <;> cases hp
    obtain ⟨b, off, rfl, hat⟩ := hu _ hv
    obtain ⟨y, hy, hr⟩ := run_loadVar (yv := cx.yv) (L := L) (F := F) (w := w) (b := b) (off := off) (o := 0) hT ht (fun i x hx => by
      rw [List.drop_zero, Cells.toV, inj_get] at hx
      cases hc' : cs[i]? with
      | none => simp [hc'] at hx
      | some c =>
        simp [hc'] at hx; subst hx
        exact (RepAt.get i hat hc').2) hc
    exact ⟨b, off, y, rfl, hy, hr⟩
  · rename_i id off ti hp ht
    split at hk
    case h_2 => exact hk.elim
    rename_i cs hcs
    obtain ⟨r, hr, hc⟩ := getK_t hk
    refine ⟨r, hr, fun cx L F s u w hp' hs hg hu => ?_⟩
    unfold placeOf at hp
    split at hp <;> cases hp
    have hu : u = .pointer (some ⟨L.ρ id, off, none⟩) := hu _ hv
    obtain ⟨y, hy, hr⟩ := run_loadVar (yv := cx.yv) (L := L) (F := F) (w := w) (b := L.ρ id) (off := off) (o := off) hT ht (RepO.boxCells (hg.obj id _ (hs _ _ hcs)) off) hc
    exact ⟨_, _, y, hu, hy, hr⟩
  · rename_i id sz i off ti hp ht
    split at hk
    case h_2 => exact hk.elim
    rename_i n es hes
    obtain ⟨hn, hk⟩ := chk_t hk
    have hn := beq_t hn
    obtain ⟨c, hci, hk⟩ := elsAtK_t hk
    obtain ⟨r, hr, hc⟩ := getK_t hk
    refine ⟨r, hr, fun cx L F s u w hp' hs hg hu => ?_⟩
    unfold placeOf at hp
    split at hp <;> cases hp
    have hu : u = .pointer (some ⟨L.ρ id, i * sz + off, none⟩) := hu _ hv
    subst hn
    obtain ⟨y, hy, hr⟩ := run_loadVar (yv := cx.yv) (L := L) (F := F) (w := w) (b := L.ρ id) (off := i * n + off) (o := off) hT ht (RepO.arrCells (hg.obj id _ (hs _ _ hes)) hci off) hc
    exact ⟨_, _, y, hu, hy, hr⟩
  · exact hk.elim

theorem out_load (hT : TysOk P T) {t : TypeId} {x : Operand} (hk : opK T e h dst (.load t x) K) : ∃ ws, K ws ∧ Out P e h ⟨dst, .load t x, ty, pos, after, guard⟩ ws := by
  simp only [opK] at hk
  obtain ⟨v, hv, hl⟩ := loadK_t (P := P) hT hk
  refine ⟨_, hv, out_val (o := ⟨dst, .load t x, ty, pos, after, guard⟩) fun cx r m L F st a w he hh hg => ?_⟩
  obtain ⟨b, off, y, hu, hy, hr⟩ := hl cx L F st.s (a.eval x) w st.heap hh hg.heap (fun v hv => hg.opnd (opnd_sub he hv))
  exact ⟨y, by simp [execOp, Instr.loadAt, hu, Instr.sureAddr, hy], hr⟩

theorem fieldOf_t (hT : TysOk P T) {t : TypeId} {i off : Nat} {fi : TyI} (h : fieldOf T t i = some (off, fi)) :
    ∃ (fa : Array Field) (f : Field), P.underlying t = some (.struct fa) ∧ fa[i]? = some f ∧ f.offset = off ∧ T.get f.type = some fi := by
  unfold fieldOf at h
  split at h
  case h_2 => cases h
  rename_i ti hti
  split at h
  case h_2 => cases h
  rename_i fs hk
  split at h
  case h_2 => cases h
  rename_i off' ft hi
  split at h
  case h_2 => cases h
  rename_i fi' hfi
  cases h
  obtain ⟨ii, de, hii, hde, _, _, hkd, _⟩ := hT t ti hti
  rw [hk] at hkd
  obtain ⟨fa, rfl, rfl, _⟩ := kdOf_struct hkd.symm
  rw [List.getElem?_map] at hi
  cases hf : fa.toList[i]? with
  | none => rw [hf] at hi; cases hi
  | some f =>
    rw [hf] at hi
    cases hi
    exact ⟨fa, f, hde, by simpa using hf, rfl, hfi⟩

/-- Moving on from a place. -/
theorem place_add {v : V} {p : Place} (hp : placeOf v = some p) (n : Nat) {yv : Option Nat} {L : Loc} {F : Nat → Nat} {w : World} {u : Value} (hr : RepV yv L F w v u) :
    ∃ b off, u = .pointer (some ⟨b, off, none⟩) ∧ RepV yv L F w (p.add n) (.pointer (some ⟨b, off + n, none⟩)) := by
  unfold placeOf at hp
  split at hp <;> cases hp
  · obtain ⟨b, off, rfl, hat⟩ := hr
    exact ⟨b, off, rfl, b, off + n, rfl, RepAt.drop n hat⟩
  · exact ⟨_, _, hr, rfl⟩
  · exact ⟨_, _, hr, by show Value.pointer _ = Value.pointer _; rw [Nat.add_assoc]⟩

theorem out_fieldAddr (hT : TysOk P T) {t : TypeId} {x : Operand} {i : Nat} (hk : opK T e h dst (.fieldAddr t x i) K) : ∃ ws, K ws ∧ Out P e h ⟨dst, .fieldAddr t x i, ty, pos, after, guard⟩ ws := by
  simp only [opK] at hk
  split at hk
  case h_2 => exact hk.elim
  rename_i v off fi hv hf
  obtain ⟨hsz, hk⟩ := chk_t hk
  have hsz := nbeq_t hsz
  split at hk
  case h_2 => exact hk.elim
  rename_i p hp
  obtain ⟨fa, f, hu, hfi, rfl, hft⟩ := fieldOf_t hT hf
  refine ⟨_, hk, out_val (o := ⟨dst, .fieldAddr t x i, ty, pos, after, guard⟩) fun cx r m L F st a w he hh hg => ?_⟩
  obtain ⟨b, o', hev, hr⟩ := place_add hp f.offset (hg.opnd (opnd_sub he hv))
  exact ⟨_, by simp [execOp, Instr.fieldAt, run_underlying hu, hfi, hev, Instr.sureAddr, fieldPlace, run_size hT hft, hsz, add_none], hr⟩

theorem run_part' (hT : TysOk P T) {yv : Option Nat} {L : Loc} {F : Nat → Nat} {w : World} {t : TypeId} {ti : TyI} (ht : T.get t = some ti) {cs : Array Value} {c : Cells} {off : Nat} (hx : RepVL yv L F w c.toV cs.toList) {v : V}
    (hv : (ti.isAgg = true ∧ off + ti.size ≤ c.toV.length ∧ v = c.sub off ti.size) ∨ (ti.isAgg = false ∧ c.toV[off]? = some v)) :
    ∃ y, (part t cs off).run P w = .ok y w ∧ RepV yv L F w v y := by
  rcases hv with ⟨hA, hn, rfl⟩ | ⟨hA, hv⟩
  · refine ⟨.agg (cs.extract off (off + ti.size)), by simp [part, run_isAgg hT ht, hA, run_size hT ht], RepV.sub ?_⟩
    have : (cs.extract off (off + ti.size)).toList = (cs.toList.drop off).take ti.size := by simp [List.extract_eq_take_drop]
    rw [this]
    exact (hx.drop off).take _
  · obtain ⟨y, hy, hr⟩ := RepVL.get off hx hv
    have hy' : cs[off]? = some y := by simpa using hy
    exact ⟨y, by simp [part, run_isAgg hT ht, hA, hy'], hr⟩

theorem out_field (hT : TysOk P T) {t : TypeId} {x : Operand} {i : Nat} (hk : opK T e h dst (.field t x i) K) : ∃ ws, K ws ∧ Out P e h ⟨dst, .field t x i, ty, pos, after, guard⟩ ws := by
  simp only [opK] at hk
  have key : ∀ (c : Cells) (off : Nat) (fi : TyI) (u : V), opnd e x = some u → fieldOf T t i = some (off, fi) → (∀ (yv : Option Nat) (L : Loc) (F : Nat → Nat) (w : World) (y : Value), RepV yv L F w u y → ∃ l : Array Value, y = .agg l ∧ RepVL yv L F w c.toV l.toList) →
      c.getK fi off (fun v => K (wset dst v)) → ∃ ws, K ws ∧ Out P e h ⟨dst, .field t x i, ty, pos, after, guard⟩ ws := by
    intro c off fi u hu hf hr hk
    obtain ⟨v, hv, hc⟩ := getK_t hk
    obtain ⟨fa, f, hun, hfi, rfl, hft⟩ := fieldOf_t hT hf
    refine ⟨_, hv, out_val (o := ⟨dst, .field t x i, ty, pos, after, guard⟩) fun cx r m L F st a w he hh hg => ?_⟩
    obtain ⟨l, hl, hlr⟩ := hr _ _ _ _ _ (hg.opnd (opnd_sub he hu))
    obtain ⟨y, hy, hr⟩ := run_part' hT hft hlr hc
    exact ⟨y, by simp [execOp, Instr.field, run_underlying hun, hfi, hl, asAgg, hy], hr⟩
  split at hk
  · rename_i cs off fi hu hf
    exact key (.dd cs) off fi _ hu hf (fun yv L F w y hr => by obtain ⟨l, rfl, hl⟩ := hr; exact ⟨l, rfl, RepVL.inj.2 hl⟩) hk
  · rename_i cs off fi hu hf
    exact key (.vv cs) off fi _ hu hf (fun yv L F w y hr => by obtain ⟨l, rfl, hl⟩ := hr; exact ⟨l, rfl, hl⟩) hk
  · exact hk.elim

theorem elemK_t {es : List (List D)} {i : Int} {K : List D → Prop} (h : elemK es i K) : ∃ l, 0 ≤ i ∧ es[i.toNat]? = some l ∧ K l := by
  unfold elemK at h
  split at h
  · rename_i l h0 hl; exact ⟨l, of_decide_eq_true h0, hl, h⟩
  · exact h.elim

theorem kd_under (hT : TysOk P T) {t : TypeId} {ti : TyI} (ht : T.get t = some ti) : ∃ d, P.underlying t = some d ∧ ti.kd = kdOf d := by
  obtain ⟨i, d, hi, hd, _, _, hk, _⟩ := hT t ti ht
  exact ⟨d, hd, hk⟩

theorem out_indexAddr (hT : TysOk P T) {t : TypeId} {x i : Operand} (hk : opK T e h dst (.indexAddr t x i) K) : ∃ ws, K ws ∧ Out P e h ⟨dst, .indexAddr t x i, ty, pos, after, guard⟩ ws := by
  simp only [opK] at hk
  split at hk
  case h_2 => exact hk.elim
  rename_i ti v k n ht hv hi
  obtain ⟨d, hu, hkd⟩ := kd_under hT ht
  split at hk
  · rename_i el hk1
    rw [hk1] at hkd
    have := kdOf_slice hkd.symm; subst this
    split at hk
    case h_2 => exact hk.elim
    rename_i ei hei
    obtain ⟨hsz, hk⟩ := chk_t hk
    have hsz := nbeq_t hsz
    split at hk
    · rename_i es _
      obtain ⟨l, hn0, hl, hk⟩ := elemK_t hk
      obtain ⟨hll, hk⟩ := chk_t hk
      have hll := beq_t hll
      refine ⟨_, hk, out_val (o := ⟨dst, .indexAddr t x i, ty, pos, after, guard⟩) fun cx r m L F st a w he hh hg => ?_⟩
      have hiv := eval_int hg he hi
      obtain ⟨a0, len, cap, hev, hlen, hcap, hes⟩ := hg.opnd (opnd_sub he hv)
      obtain ⟨b, off, sz, rfl, hsz0, hat⟩ := hes (by rintro rfl; simp at hl)
      obtain ⟨hlz, hrat⟩ := RepEs.get n.toNat hat hl
      have hszz : sz = ei.size := by omega
      have hnl : n.toNat < es.length := (List.getElem?_eq_some_iff.1 hl).1
      refine ⟨.pointer (some ⟨b, off + n.toNat * ei.size, none⟩), ?_, b, _, rfl, hszz ▸ hrat⟩
      have h1 : (n : Int) < (len : Int) := by rw [hlen]; omega
      simp [execOp, Instr.indexAt, hiv, asIntOf, run_underlying hu, hev, hn0, h1, run_size hT hei, add_none]
    · rename_i id sz off len _
      obtain ⟨hn, hk⟩ := chk_t hk
      simp only [Bool.and_eq_true, decide_eq_true_eq] at hn
      obtain ⟨hszz, hk⟩ := chk_t hk
      have hszz := beq_t hszz
      refine ⟨_, hk, out_val (o := ⟨dst, .indexAddr t x i, ty, pos, after, guard⟩) fun cx r m L F st a w he hh hg => ?_⟩
      have hiv := eval_int hg he hi
      obtain ⟨a0, cap, hev, hcap, hsz0, hb⟩ := hg.opnd (opnd_sub he hv)
      rcases hb with ⟨h0, _⟩ | ⟨rfl, hb⟩
      · omega
      refine ⟨.pointer (some ⟨L.ρ id, off * sz + n.toNat * ei.size, none⟩), ?_, ?_⟩
      · simp [execOp, Instr.indexAt, hiv, asIntOf, run_underlying hu, hev, hn.1, hn.2, run_size hT hei, add_none]
      · show Value.pointer _ = Value.pointer _
        rw [← hszz, Nat.add_zero, Nat.add_mul]
    · exact hk.elim
  · rename_i len el hk1
    rw [hk1] at hkd
    have := kdOf_array hkd.symm; subst this
    split at hk
    case h_2 => exact hk.elim
    rename_i ei p hei hp
    obtain ⟨hsz, hk⟩ := chk_t hk
    have hsz := nbeq_t hsz
    obtain ⟨hn, hk⟩ := chk_t hk
    simp only [Bool.and_eq_true, decide_eq_true_eq] at hn
    refine ⟨_, hk, out_val (o := ⟨dst, .indexAddr t x i, ty, pos, after, guard⟩) fun cx r m L F st a w he hh hg => ?_⟩
    have hiv := eval_int hg he hi
    obtain ⟨b, o', hev, hr⟩ := place_add hp (n.toNat * ei.size) (hg.opnd (opnd_sub he hv))
    exact ⟨_, by simp [execOp, Instr.indexAt, hiv, asIntOf, run_underlying hu, hev, Instr.sureAddr, hn.1, hn.2, run_size hT hei, add_none], hr⟩
  · exact hk.elim

theorem out_index (hT : TysOk P T) {t : TypeId} {x i : Operand} (hk : opK T e h dst (.index t x i) K) : ∃ ws, K ws ∧ Out P e h ⟨dst, .index t x i, ty, pos, after, guard⟩ ws := by
  simp only [opK] at hk
  split at hk
  case h_2 => exact hk.elim
  rename_i ti v k n ht hv hi
  obtain ⟨d, hu, hkd⟩ := kd_under hT ht
  have key : ∀ (c : Cells) (len : Nat) (el : TypeId) (ei : TyI), d = .array len el → T.get el = some ei → 0 ≤ n ∧ n < len →
      (∀ (yv : Option Nat) (L : Loc) (F : Nat → Nat) (w : World) (y : Value), RepV yv L F w v y → ∃ l : Array Value, y = .agg l ∧ RepVL yv L F w c.toV l.toList) →
      c.getK ei (n.toNat * ei.size) (fun v => K (wset dst v)) → ∃ ws, K ws ∧ Out P e h ⟨dst, .index t x i, ty, pos, after, guard⟩ ws := by
    intro c len el ei hde hei hn hr hk
    subst hde
    obtain ⟨u, hv', hc⟩ := getK_t hk
    refine ⟨_, hv', out_val (o := ⟨dst, .index t x i, ty, pos, after, guard⟩) fun cx r m L F st a w he hh hg => ?_⟩
    have hiv := eval_int hg he hi
    obtain ⟨l, hl, hlr⟩ := hr _ _ _ _ _ (hg.opnd (opnd_sub he hv))
    obtain ⟨y, hy, hr⟩ := run_part' hT hei hlr hc
    exact ⟨y, by simp [execOp, Instr.index, hiv, hl, asIntOf, run_underlying hu, hn.1, hn.2, run_size hT hei, hy], hr⟩
  split at hk
  · rename_i s hk1
    rw [hk1] at hkd
    have := kdOf_str hkd.symm; subst this
    obtain ⟨hn, hk⟩ := chk_t hk
    have hn := of_decide_eq_true hn
    obtain ⟨b, hb, hk⟩ := cellK_t hk
    refine ⟨_, hk, out_val (v := .d (.int .u8 b.toNat)) (o := ⟨dst, .index t x i, ty, pos, after, guard⟩) fun cx r m L F st a w he hh hg => ?_⟩
    have hiv := eval_int hg he hi
    have hxv := eval_str hg he hv
    have hlt' : n.toNat < s.data.toList.length := (List.getElem?_eq_some_iff.1 hb).1
    have hlt : n.toNat < s.size := by simpa using hlt'
    have hb' : s[n.toNat]? = some b := by
      rw [getElem?_pos s n.toNat hlt]
      rw [List.getElem?_eq_getElem hlt'] at hb
      cases hb
      rfl
    exact ⟨.int .u8 b.toNat, by simp [execOp, Instr.index, hiv, hxv, asIntOf, run_underlying hu, hn, hb'], rfl⟩
  · rename_i len el cs hk1
    rw [hk1] at hkd
    split at hk
    case h_2 => exact hk.elim
    rename_i ei hei
    obtain ⟨hn, hk⟩ := chk_t hk
    simp only [Bool.and_eq_true, decide_eq_true_eq] at hn
    exact key (.dd cs) len el ei (kdOf_array hkd.symm) hei hn (fun yv L F w y hr => by obtain ⟨l, rfl, hl⟩ := hr; exact ⟨l, rfl, RepVL.inj.2 hl⟩) hk
  · rename_i len el cs hk1
    rw [hk1] at hkd
    split at hk
    case h_2 => exact hk.elim
    rename_i ei hei
    obtain ⟨hn, hk⟩ := chk_t hk
    simp only [Bool.and_eq_true, decide_eq_true_eq] at hn
    exact key (.vv cs) len el ei (kdOf_array hkd.symm) hei hn (fun yv L F w y hr => by obtain ⟨l, rfl, hl⟩ := hr; exact ⟨l, rfl, hl⟩) hk
  · exact hk.elim

end
end Go.PX
