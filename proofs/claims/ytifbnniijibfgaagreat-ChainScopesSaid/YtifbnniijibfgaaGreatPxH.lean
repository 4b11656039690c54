import Derived.Test.YtifbnniijibfgaaGreatPxG
import Derived.ProofKit
import Derived.ReadAgain
import Derived.Test.YtifbnniijibfgaaGreatPxA
import Derived.Test.YtifbnniijibfgaaGreatPxF
import Derived.Test.YtifbnniijibfgaaGreatProg
set_option linter.all false
set_option maxRecDepth 10000
/- PX: from a contract to a row: what the arguments read, and what is left. -/
namespace Go.PX
open Go.RowKit Go.ChangeShapes

/-- All that lies there is frozen. -/
def topF (W : World) (b : Nat) : Nat := match W.heap[b]? with
  | some (.cells c _ _) => c.size + 1
  | some _ => 1
  | none => 0

def topCx (W : World) : Cx Unit where
  C := fun _ b => b < W.heap.size
  HG := fun _ w F => W.heap.size ≤ w.heap.size ∧ ∀ b, b < W.heap.size → w.heap[b]? = W.heap[b]?
  yv := none
  rcd := none
  pρ := id
  pκ := id
  stable := by
    rintro s w F w' F' ⟨h1, h2⟩ tr hf hk
    exact ⟨Nat.le_trans h1 tr.size, fun b hb => (hk b hb).1.trans (h2 b hb)⟩

/-- Of what was there, nothing turns. -/
structure Still (W W' : World) : Prop where
  os : W'.os = W.os
  output : W'.output = W.output
  size : W.heap.size ≤ W'.heap.size
  heap : ∀ b, b < W.heap.size → W'.heap[b]? = W.heap[b]?

theorem Still.frame {W W' : World} (h : Still W W') (may : MemPlace → Prop) : W.keptBut W' may := by
  refine ⟨h.os, h.output, fun i hi => ?_⟩
  rw [h.heap i hi]
  cases W.heap[i]? with
  | none => rfl
  | some o => cases o with
    | cells c t fr => exact ⟨rfl, rfl, rfl, fun _ _ => rfl⟩
    | map es clock => exact .inr ⟨rfl, rfl⟩
    | _ => rfl

theorem Still.sameAt {W W' : World} (h : Still W W') {p : MemPlace} (hp : p.block < W.heap.size) : W.sameAt W' p := by
  cases p with
  | cell b off =>
    have := h.heap b hp
    simp only [World.sameAt, World.cell?, this]
  | map b => exact h.heap b hp

theorem top {P : Program} {f : FuncId} {ds : List D} {d : D} (h : FnV P f ds d) (W : World) (args : Array Value) (hr : RepDL (topF W) W ds args.toList) :
    Calls P f args W fun e W' => ∃ x, e = .returned x ∧ (∃ F', RepD F' W' d x) ∧ Still W W' := by
  have h1 := (h (σ := Unit) ⟨fun _ _ _ _ => False⟩ ()).run (topCx W) (fun l hl => by cases hl) ⟨id, id⟩ (topF W) args W
    ⟨⟨Nat.le_refl _, fun _ _ => rfl⟩, fun b hb => hb, fun b hb => by simp [topF, Array.getElem?_eq_none hb], fun id o ho => by simp [get] at ho, fun id o ho => by simp [get] at ho, fun i j o p ho => by simp [get] at ho⟩ (RepVL.inj.2 hr)
  refine callsIn_wide.1 (h1.mono ?_)
  rintro e W' ⟨x, rfl, v, h', s', L', F', ⟨⟨rfl, rfl⟩, _⟩, hh, hx, tr, _⟩
  exact ⟨x, rfl, ⟨F', hx⟩, tr.os, tr.output, hh.hg.1, hh.hg.2⟩

/-- Arguments that are only read read as before. -/
theorem trodAll_carry {H : Type} {enc : TypeId × Value → H} {P : Program} {W W' : World} {base : Nat} {sp : Nat → Bool} {held : Bool} : ∀ {ts : List TypeId} {vs : List Value} {ds : List (DataW H)} {ps : List MemPlace},
    DataW.TrodAll enc P W base sp held ts vs ds ps → (∀ p ∈ ps, W.sameAt W' p) → DataW.TrodAll enc P W' base sp held ts vs ds ps
  | [], [], [], _, h, _ => h
  | _ :: _, _ :: _, _ :: _, _, ⟨p, q, ⟨n, h1⟩, h2, e⟩, hs => ⟨p, q, ⟨n, DataW.trod_carry n _ _ _ h1 fun x hx => hs x (by rw [e]; exact List.mem_append_left _ hx)⟩, trodAll_carry h2 (fun x hx => hs x (by rw [e]; exact List.mem_append_right _ hx)), e⟩

/-- What is read of a type is data of a make. -/
structure Rd (P : Program) (W : World) (t : TypeId) (S : List D → Prop) : Prop where
  read : ∀ {H : Type} {enc : TypeId × Value → H} {sp : Nat → Bool} {held : Bool} {fuel : Nat} {cs : List Value} {x : DataW H × List MemPlace}, DataW.trod enc P W 0 sp held fuel t cs = some x → ∃ ds, S ds ∧ RepDL (topF W) W ds cs

section
variable {P : Program} {W : World} {t : TypeId}

theorem Rd.int {k : IntKind} (ht : P.underlying t = some (.int k)) : Rd P W t fun ds => ∃ n, ds = [.int k n] := by
  refine ⟨?_⟩
  intro H enc sp held fuel cs x h
  obtain ⟨n, rfl, _, _⟩ := DataW.trod_int ht h
  exact ⟨[.int k n], ⟨n, rfl⟩, _, [], rfl, rfl, rfl⟩

theorem Rd.bool (ht : P.underlying t = some .bool) : Rd P W t fun ds => ∃ b, ds = [.bool b] := by
  refine ⟨?_⟩
  intro H enc sp held fuel cs x h
  obtain ⟨n, rfl, _⟩ := DataW.trod_bool ht h
  exact ⟨[.bool n], ⟨n, rfl⟩, _, [], rfl, rfl, rfl⟩

theorem Rd.str (ht : P.underlying t = some .string) : Rd P W t fun ds => ∃ s, ds = [.str s] := by
  refine ⟨?_⟩
  intro H enc sp held fuel cs x h
  obtain ⟨n, rfl, _, _⟩ := DataW.trod_string ht h
  exact ⟨[.str n], ⟨n, rfl⟩, _, [], rfl, rfl, rfl⟩

theorem Rd.mono {S S' : List D → Prop} (h : Rd P W t S) (hS : ∀ ds, S ds → S' ds) : Rd P W t S' := by
  refine ⟨?_⟩
  intro H enc sp held fuel cs x hx
  obtain ⟨ds, h1, h2⟩ := h.read hx
  exact ⟨ds, hS ds h1, h2⟩

theorem cell_topF {b off : Nat} {v : Value} (h : W.cell? ⟨b, off, none⟩ = some v) : off < topF W b := by
  unfold World.cell? at h
  unfold topF
  simp only at h
  split at h
  · rename_i c t' f hb
    rw [hb]
    simp only [Option.isSome_none, Bool.false_eq_true, if_false] at h
    obtain ⟨hlt, _⟩ := Array.getElem?_eq_some_iff.1 h
    simp only; omega
  · cases h

theorem repAt_of : ∀ {ds : List D} {cs : List Value} {b off : Nat}, RepDL (topF W) W ds cs → (∀ i v, cs[i]? = some v → W.cell? ⟨b, off + i, none⟩ = some v) → RepAt (topF W) W b off ds
  | [], _, _, _, _, _ => trivial
  | d :: r, _, b, off, h, hc => by
    obtain ⟨x, l', rfl, hd, hl⟩ := h
    have h0 := hc 0 x rfl
    refine ⟨cell_topF h0, ⟨x, h0, hd⟩, repAt_of hl fun i v hv => ?_⟩
    have := hc (i + 1) v hv
    rwa [show off + (i + 1) = off + 1 + i by omega] at this

theorem cells_get {a : Addr} {k : Nat} {cs : List Value} (h : W.cells? 0 a k = some cs) : cs.length = k ∧ ∀ i v, cs[i]? = some v → W.cell? (a.add i) = some v := by
  unfold World.cells? at h
  rw [if_pos (Nat.zero_le _)] at h
  have hl : cs.length = k := by simpa using mapM_some_length h
  refine ⟨hl, fun i v hv => ?_⟩
  have hi : i < k := by
    have := (List.getElem?_eq_some_iff.1 hv).1
    omega
  rw [mapM_some_get h i i (by simp [hi]), hv]

theorem repEs_of {e : TypeId} {S : List D → Prop} {b : Nat} {k : Nat} : ∀ {n : Nat} {off : Nat}, (∀ i, i < n → ∃ cs ds, cs.length = k ∧ (∀ j v, cs[j]? = some v → W.cell? ⟨b, off + i * k + j, none⟩ = some v) ∧ S ds ∧ RepDL (topF W) W ds cs) →
    ∃ es : List (List D), es.length = n ∧ (∀ e ∈ es, S e) ∧ RepEs (topF W) W b off k es
  | 0, off, _ => ⟨[], rfl, fun e h => by (cases h), trivial⟩
  | n + 1, off, h => by
    obtain ⟨cs, ds, h1, h2, h3, h4⟩ := h 0 (by omega)
    obtain ⟨es, g1, g2, g3⟩ := repEs_of (e := e) (S := S) (n := n) (off := off + k) fun i hi => by
      obtain ⟨cs, ds, h1, h2, h3, h4⟩ := h (i + 1) (by omega)
      refine ⟨cs, ds, h1, fun j v hv => ?_, h3, h4⟩
      have := h2 j v hv
      rwa [show off + (i + 1) * k + j = off + k + i * k + j by rw [Nat.add_mul]; omega] at this
    refine ⟨ds :: es, by simp [g1], fun e he => ?_, ?_, ?_, g3⟩
    · rcases List.mem_cons.1 he with rfl | he
      · exact h3
      · exact g2 e he
    · rw [← h4.length, h1]
    · exact repAt_of h4 fun i v hv => by simpa using h2 i v hv

theorem Rd.slice {e : TypeId} {S : List D → Prop} (ht : P.underlying t = some (.slice e)) {k : Nat} (hk : P.cellsOf e = k) (hpos : 0 < k) (he : Rd P W e S) : Rd P W t fun ds => ∃ es, ds = [.vs es] ∧ ∀ e ∈ es, S e := by
  subst hk
  refine ⟨?_⟩
  intro H enc sp held fuel cs x h
  rcases DataW.trod_slice ht h with ⟨rfl, _⟩ | ⟨a, len, cap, elems, rest, n, rfl, rfl, _, _, hl, _, hlen, hel, _, _⟩
  · exact ⟨[.vs []], ⟨[], rfl, fun e h => by (cases h)⟩, _, [], rfl, ⟨none, 0, 0, rfl, rfl, Nat.le_refl _, fun h => absurd rfl h⟩, rfl⟩
  · by_cases h0 : len = 0
    · subst h0
      exact ⟨[.vs []], ⟨[], rfl, fun e h => by (cases h)⟩, _, [], rfl, ⟨some a, 0, cap, rfl, rfl, hl, fun h => absurd rfl h⟩, rfl⟩
    have one : ∀ i, i < len → ∃ cs ds, W.cells? 0 (a.add (i * P.cellsOf e)) (P.cellsOf e) = some cs ∧ S ds ∧ RepDL (topF W) W ds cs := by
      intro i hi
      have h1 := hel i hi
      rw [List.getElem?_eq_getElem (by omega)] at h1
      obtain ⟨cs, h2, h3⟩ := Option.bind_eq_some_iff.1 h1
      obtain ⟨ds, h4, h5⟩ := he.read h3
      exact ⟨cs, ds, h2, h4, h5⟩
    have hs : a.spot = none := by
      obtain ⟨cs, ds, h1, _, h3⟩ := one 0 (by omega)
      obtain ⟨g1, g2⟩ := cells_get h1
      have hlt : 0 < cs.length := by omega
      have := g2 0 cs[0] (List.getElem?_eq_getElem hlt)
      have := World.cell?_spot this
      simpa [Addr.add] using this
    obtain ⟨b, off, spot⟩ := a
    simp only at hs
    subst hs
    obtain ⟨es, g1, g2, g3⟩ := repEs_of (e := e) (S := S) (W := W) (b := b) (k := P.cellsOf e) (n := len) (off := off) fun i hi => by
      obtain ⟨cs, ds, h1, h2, h3⟩ := one i hi
      obtain ⟨k1, k2⟩ := cells_get h1
      refine ⟨cs, ds, k1, fun j v hv => ?_, h2, h3⟩
      have := k2 j v hv
      have e1 : ∀ n m : Nat, (Addr.add ⟨b, n, none⟩ m) = ⟨b, n + m, none⟩ := by
        intro n m
        unfold Addr.add
        split
        · rename_i h; subst h; rfl
        · rfl
      rw [e1, e1] at this
      exact this
    exact ⟨[.vs es], ⟨es, rfl, g2⟩, _, [], rfl, ⟨some ⟨b, off, none⟩, len, cap, rfl, g1.symm, hl, fun _ => ⟨b, off, _, rfl, hpos, g3⟩⟩, rfl⟩

/-- Parts, one behind the other. -/
def AllS : List (List D → Prop) → List D → Prop
  | [], ds => ds = []
  | S :: r, ds => ∃ a b, ds = a ++ b ∧ S a ∧ AllS r b

theorem RepDL.app {F : Nat → Nat} {w : World} : ∀ {a b : List D} {l m : List Value}, RepDL F w a l → RepDL F w b m → RepDL F w (a ++ b) (l ++ m)
  | [], b, l, m, h1, h2 => by
    have : l = [] := h1
    subst this; exact h2
  | d :: a, b, l, m, h1, h2 => by
    obtain ⟨x, l', rfl, hd, hl⟩ := h1
    exact ⟨x, l' ++ m, rfl, hd, RepDL.app hl h2⟩

/-- The fields of a struct, read one by one. -/
inductive RdF (P : Program) (W : World) : List Field → Nat → Nat → List (List D → Prop) → Prop where
  | nil (n : Nat) : RdF P W [] n n []
  | cons {f : Field} {fs : List Field} {off n k : Nat} {S : List D → Prop} {Ss : List (List D → Prop)} (ho : f.offset = off) (hk : P.cellsOf f.type = k) (hf : Rd P W f.type S) (hr : RdF P W fs (off + k) n Ss) : RdF P W (f :: fs) off n (S :: Ss)

theorem rdF_read {fs : List Field} {off n : Nat} {Ss : List (List D → Prop)} (h : RdF P W fs off n Ss) : ∀ {H : Type} {enc : TypeId × Value → H} {sp : Nat → Bool} {held : Bool} {fuel : Nat} {cs : List Value} {xs : List (DataW H × List MemPlace)}, cs.length = n →
    fs.mapM (fun f => DataW.trod enc P W 0 sp held fuel f.type ((cs.drop f.offset).take (P.cellsOf f.type))) = some xs → ∃ ds, AllS Ss ds ∧ RepDL (topF W) W ds (cs.drop off) := by
  induction h with
  | nil m =>
    intro H enc sp held fuel cs xs hn _
    rw [List.drop_eq_nil_of_le (by omega)]
    exact ⟨[], rfl, rfl⟩
  | @cons f fs off m k S Ss ho hk hf hr ih =>
    intro H enc sp held fuel cs xs hn hm
    rw [List.mapM_cons] at hm
    simp only [Option.bind_eq_bind, Option.bind_eq_some_iff, Option.pure_def, Option.some.injEq] at hm
    obtain ⟨y, hy, ys, hys, _⟩ := hm
    obtain ⟨ds1, h1, h2⟩ := hf.read hy
    obtain ⟨ds2, h3, h4⟩ := ih hn hys
    rw [ho, hk] at h2
    refine ⟨ds1 ++ ds2, ⟨ds1, ds2, rfl, h1, h3⟩, ?_⟩
    have h5 := RepDL.app h2 h4
    rwa [show (cs.drop off).take k ++ cs.drop (off + k) = cs.drop off by rw [← List.drop_drop]; exact List.take_append_drop _ _] at h5

theorem Rd.struct {fs : Array Field} {n : Nat} {Ss : List (List D → Prop)} (ht : P.underlying t = some (.struct fs)) (hn : P.cellsOf t = n) (hf : RdF P W fs.toList 0 n Ss) : Rd P W t (AllS Ss) := by
  refine ⟨?_⟩
  intro H enc sp held fuel cs x h
  cases fuel with
  | zero => simp [DataW.trod] at h
  | succ fuel =>
    unfold DataW.trod at h
    rw [ht] at h
    simp only at h
    split at h
    · rename_i hl
      obtain ⟨xs, hxs, _⟩ := Option.map_eq_some_iff.1 h
      obtain ⟨ds, h1, h2⟩ := rdF_read hf (hl.trans hn) hxs
      exact ⟨ds, h1, by simpa using h2⟩
    · cases h
end

/-- A list of parts is a list of things. -/
theorem list_of {α : Type} {f : α → List D} {S : List D → Prop} (h : ∀ ds, S ds → ∃ a, ds = f a) : ∀ {es : List (List D)}, (∀ e ∈ es, S e) → ∃ l : List α, es = l.map f
  | [], _ => ⟨[], rfl⟩
  | e :: r, he => by
    obtain ⟨a, ha⟩ := h e (he e (by simp))
    obtain ⟨l, hl⟩ := list_of h (es := r) fun x hx => he x (by simp [hx])
    exact ⟨a :: l, by rw [ha, hl]; rfl⟩
end Go.PX

namespace Go.PX
def tys : Tys := (.nd (.nd (.nd (.nd (.nd (.nd .lf 3
 { size := 1, bytes := 8, kd := (.int .i64), isAgg := false, held := false, zero := some [.int .i64 0] }
 .lf) 4
 { size := 1, bytes := 1, kd := .bool, isAgg := false, held := false, zero := some [.bool false] }
 .lf) 5
 { size := 1, bytes := 1, kd := (.int .u8), isAgg := false, held := false, zero := some [.int .u8 0] }
 (.nd (.nd .lf 9
 { size := 1, bytes := 16, kd := .str, isAgg := false, held := false, zero := some [.str ⟨#[]⟩] }
 .lf) 21
 { size := 1, bytes := 4, kd := (.int .i32), isAgg := false, held := false, zero := some [.int .i32 0] }
 .lf)) 22
 { size := 1, bytes := 24, kd := (.slice 111), isAgg := false, held := false, zero := some [.nils] }
 (.nd (.nd (.nd .lf 24
 { size := 2, bytes := 16, kd := (.struct [(0, 3), (1, 3)]), isAgg := true, held := false, zero := some [.int .i64 0, .int .i64 0] }
 .lf) 25
 { size := 1, bytes := 24, kd := (.slice 118), isAgg := false, held := false, zero := some [.nils] }
 .lf) 27
 { size := 7, bytes := 88, kd := (.struct [(0, 22), (1, 3), (2, 3), (3, 3), (4, 24), (6, 25)]), isAgg := true, held := false, zero := some [.nils, .int .i64 0, .int .i64 0, .int .i64 0, .int .i64 0, .int .i64 0, .nils] }
 (.nd (.nd .lf 29
 { size := 4, bytes := 32, kd := (.struct [(0, 3), (1, 3), (2, 3), (3, 3)]), isAgg := true, held := false, zero := some [.int .i64 0, .int .i64 0, .int .i64 0, .int .i64 0] }
 .lf) 30
 { size := 1, bytes := 24, kd := (.slice 61), isAgg := false, held := false, zero := some [.nils] }
 .lf))) 32
 { size := 13, bytes := 152, kd := (.struct [(0, 27), (7, 29), (11, 3), (12, 30)]), isAgg := true, held := false, zero := some [.nils, .int .i64 0, .int .i64 0, .int .i64 0, .int .i64 0, .int .i64 0, .nils, .int .i64 0, .int .i64 0, .int .i64 0, .int .i64 0, .int .i64 0, .nils] }
 (.nd (.nd (.nd (.nd .lf 33
 { size := 1, bytes := 24, kd := (.slice 3), isAgg := false, held := false, zero := some [.nils] }
 .lf) 35
 { size := 6, bytes := 64, kd := (.struct [(0, 3), (1, 3), (2, 3), (3, 3), (4, 3), (5, 33)]), isAgg := true, held := false, zero := some [.int .i64 0, .int .i64 0, .int .i64 0, .int .i64 0, .int .i64 0, .nils] }
 .lf) 37
 { size := 8, bytes := 80, kd := (.struct [(0, 3), (1, 3), (2, 35)]), isAgg := true, held := false, zero := some [.int .i64 0, .int .i64 0, .int .i64 0, .int .i64 0, .int .i64 0, .int .i64 0, .int .i64 0, .nils] }
 (.nd (.nd .lf 38
 { size := 1, bytes := 8, kd := (.int .i64), isAgg := false, held := false, zero := some [.int .i64 0] }
 .lf) 50
 { size := 1, bytes := 24, kd := (.slice 24), isAgg := false, held := false, zero := some [.nils] }
 .lf)) 61
 { size := 8, bytes := 64, kd := (.struct [(0, 24), (2, 24), (4, 24), (6, 24)]), isAgg := true, held := false, zero := some [.int .i64 0, .int .i64 0, .int .i64 0, .int .i64 0, .int .i64 0, .int .i64 0, .int .i64 0, .int .i64 0] }
 (.nd (.nd (.nd .lf 63
 { size := 10, bytes := 96, kd := (.struct [(0, 29), (4, 35)]), isAgg := true, held := false, zero := some [.int .i64 0, .int .i64 0, .int .i64 0, .int .i64 0, .int .i64 0, .int .i64 0, .int .i64 0, .int .i64 0, .int .i64 0, .nils] }
 .lf) 67
 { size := 1, bytes := 8, kd := .other, isAgg := false, held := false, zero := some [.nilp] }
 .lf) 80
 { size := 1, bytes := 8, kd := (.map 3 24), isAgg := false, held := false, zero := some [.nilm] }
 (.nd (.nd .lf 82
 { size := 15, bytes := 184, kd := (.struct [(0, 32), (13, 50), (14, 80)]), isAgg := true, held := false, zero := some [.nils, .int .i64 0, .int .i64 0, .int .i64 0, .int .i64 0, .int .i64 0, .nils, .int .i64 0, .int .i64 0, .int .i64 0, .int .i64 0, .int .i64 0, .nils, .nils, .nilm] }
 .lf) 96
 { size := 1, bytes := 24, kd := (.slice 4), isAgg := false, held := false, zero := some [.nils] }
 .lf)))) 101
 { size := 1, bytes := 8, kd := .other, isAgg := false, held := false, zero := some [.nilf] }
 (.nd (.nd (.nd (.nd (.nd .lf 102
 { size := 1, bytes := 24, kd := (.slice 33), isAgg := false, held := false, zero := some [.nils] }
 .lf) 105
 { size := 1, bytes := 8, kd := .other, isAgg := false, held := false, zero := some [.nilf] }
 .lf) 106
 { size := 2, bytes := 16, kd := (.array 2 105), isAgg := true, held := false, zero := some [.nilf, .nilf] }
 (.nd (.nd .lf 109
 { size := 1, bytes := 24, kd := (.slice 125), isAgg := false, held := false, zero := some [.nils] }
 .lf) 111
 { size := 8, bytes := 88, kd := (.struct [(0, 9), (1, 3), (2, 3), (3, 24), (5, 24), (7, 109)]), isAgg := true, held := false, zero := some [.str ⟨#[]⟩, .int .i64 0, .int .i64 0, .int .i64 0, .int .i64 0, .int .i64 0, .int .i64 0, .nils] }
 .lf)) 114
 { size := 9, bytes := 96, kd := (.struct [(0, 111), (8, 3)]), isAgg := true, held := false, zero := some [.str ⟨#[]⟩, .int .i64 0, .int .i64 0, .int .i64 0, .int .i64 0, .int .i64 0, .int .i64 0, .nils, .int .i64 0] }
 (.nd (.nd (.nd .lf 118
 { size := 2, bytes := 16, kd := (.struct [(0, 3), (1, 3)]), isAgg := true, held := false, zero := some [.int .i64 0, .int .i64 0] }
 .lf) 121
 { size := 1, bytes := 8, kd := .other, isAgg := false, held := false, zero := some [.nilf] }
 .lf) 125
 { size := 2, bytes := 16, kd := (.struct [(0, 3), (1, 3)]), isAgg := true, held := false, zero := some [.int .i64 0, .int .i64 0] }
 (.nd (.nd .lf 130
 { size := 1, bytes := 8, kd := .other, isAgg := false, held := false, zero := some [.nilf] }
 .lf) 134
 { size := 1, bytes := 8, kd := .other, isAgg := false, held := false, zero := some [.nilf] }
 .lf))) 139
 { size := 1, bytes := 24, kd := (.slice 35), isAgg := false, held := false, zero := some [.nils] }
 (.nd (.nd (.nd (.nd .lf 140
 { size := 1, bytes := 8, kd := .other, isAgg := false, held := false, zero := some [.nilf] }
 .lf) 147
 { size := 1, bytes := 8, kd := .other, isAgg := false, held := false, zero := some [.nilf] }
 .lf) 148
 { size := 1, bytes := 8, kd := .other, isAgg := false, held := false, zero := some [.nilf] }
 (.nd (.nd .lf 151
 { size := 3, bytes := 24, kd := (.struct [(0, 3), (1, 24)]), isAgg := true, held := false, zero := some [.int .i64 0, .int .i64 0, .int .i64 0] }
 .lf) 155
 { size := 1, bytes := 8, kd := .other, isAgg := false, held := false, zero := some [.nilf] }
 .lf)) 156
 { size := 1, bytes := 8, kd := .other, isAgg := false, held := false, zero := some [.nilf] }
 (.nd (.nd (.nd .lf 163
 { size := 1, bytes := 8, kd := .other, isAgg := false, held := false, zero := some [.nilf] }
 .lf) 165
 { size := 1, bytes := 24, kd := (.slice 9), isAgg := false, held := false, zero := some [.nils] }
 .lf) 168
 { size := 1, bytes := 24, kd := (.slice 38), isAgg := false, held := false, zero := some [.nils] }
 (.nd (.nd .lf 169
 { size := 1, bytes := 8, kd := .other, isAgg := false, held := false, zero := some [.nilf] }
 .lf) 171
 { size := 1, bytes := 8, kd := .other, isAgg := false, held := false, zero := some [.nilf] }
 .lf)))))
end Go.PX

namespace Go.PX
open Go.Proofs
theorem tysOk : TysOk Tryz.prog tys := tysB_spec (by decide +kernel)
theorem mixed : Tryz.prog.follows .mixedOrders = true := by decide +kernel
end Go.PX

namespace Go.PX
def ft0 : FT := ⟨[], []⟩
def ft1 : FT := ⟨[], []⟩
def ft2 : FT := ⟨[], []⟩
def ft3 : FT := ⟨[0, 1, 2, 3, 4, 5, 6, 7, 8, 9, 10, 11, 12, 13, 14, 15, 16, 42, 78, 119], []⟩
def ft4 : FT := ⟨[0, 1, 2, 3, 4, 5, 6, 7, 8, 9, 10, 11, 12, 31, 49], []⟩
def ft5 : FT := ⟨[0, 1, 2, 3, 6, 7, 8, 9, 16], []⟩
def ft6 : FT := ⟨[0, 1, 2, 3, 6, 7, 8, 9, 16], [(1, ⟨[], [⟨[3], []⟩, ⟨[1], [0]⟩, ⟨[11], [0]⟩, ⟨[2], [0, 1, 2]⟩, ⟨[10, 12, 13], []⟩, ⟨[14], []⟩]⟩)]⟩
def ft7 : FT := ⟨[0, 1, 2, 4, 5, 6, 7, 8, 18], [(1, ⟨[], [⟨[2], []⟩, ⟨[2], [0]⟩, ⟨[1], [0, 1]⟩, ⟨[11, 12], [0]⟩, ⟨[10, 13], []⟩, ⟨[14], []⟩, ⟨[9], []⟩, ⟨[9], [6]⟩, ⟨[15], [7]⟩, ⟨[16], []⟩]⟩)]⟩
def ft8 : FT := ⟨[0, 1, 2, 4, 5, 6, 7, 8, 9, 10, 11, 18], [(1, ⟨[], [⟨[2], []⟩, ⟨[2], [0]⟩, ⟨[1], [0, 1]⟩, ⟨[13, 14], [0]⟩, ⟨[12, 15], []⟩, ⟨[16], []⟩]⟩)]⟩
def ft9 : FT := ⟨[0, 1, 2, 3, 6, 7, 8, 9, 10, 22], [(1, ⟨[16], [⟨[3], []⟩, ⟨[3], [0]⟩, ⟨[2], [0, 1]⟩, ⟨[1], [0, 1, 2]⟩, ⟨[15], [0, 1, 2]⟩, ⟨[13, 14, 16], [0]⟩, ⟨[12, 17], []⟩, ⟨[18], []⟩, ⟨[11], []⟩, ⟨[11], [8]⟩, ⟨[19], [9]⟩, ⟨[20], []⟩]⟩)]⟩
def ft10 : FT := ⟨[0, 1, 2, 3, 6, 7, 8, 9, 10, 11, 12, 13, 22], [(1, ⟨[], [⟨[3], []⟩, ⟨[3], [0]⟩, ⟨[1], [0, 1]⟩, ⟨[16], [0, 1]⟩, ⟨[2], [0, 1, 2, 3]⟩, ⟨[15, 17, 18], [0]⟩, ⟨[14, 19], []⟩, ⟨[20], []⟩]⟩), (4, ⟨[11], [⟨[3], []⟩, ⟨[3], [0]⟩, ⟨[26], [0]⟩, ⟨[1], [0, 1, 2]⟩, ⟨[27, 28], [0]⟩, ⟨[29], [0]⟩, ⟨[3], [0, 1, 2, 3, 4, 5]⟩, ⟨[31], [0, 1, 2, 3, 4, 5]⟩, ⟨[25, 30, 32], []⟩, ⟨[], [0, 1, 2, 3, 4, 5, 6, 7, 8]⟩, ⟨[11, 33], []⟩]⟩)]⟩
def ft11 : FT := ⟨[0, 1, 2, 3, 4], []⟩
def ft12 : FT := ⟨[0, 1, 2, 3, 4, 7, 8, 9, 10, 11, 12, 13, 14, 15, 26, 30, 74, 75, 76, 77, 93], [(1, ⟨[21], [⟨[4], []⟩, ⟨[4], [0]⟩, ⟨[2], [0, 1]⟩, ⟨[1], [0, 1, 2]⟩, ⟨[20], [0, 1, 2]⟩, ⟨[18, 19, 21], [0]⟩, ⟨[17, 22], []⟩, ⟨[23], []⟩, ⟨[16], []⟩, ⟨[16], [8]⟩, ⟨[24], [9]⟩, ⟨[25], []⟩]⟩), (7, ⟨[55, 60], [⟨[12], []⟩, ⟨[44], []⟩, ⟨[12], [0, 1]⟩, ⟨[46], [0, 1]⟩, ⟨[12], [0, 1, 2, 3]⟩, ⟨[48], [0, 1, 2, 3]⟩, ⟨[12], [0, 1, 2, 3, 4, 5]⟩, ⟨[50], [0, 1, 2, 3, 4, 5]⟩, ⟨[4], [0, 1, 2, 3, 4, 5, 6, 7]⟩, ⟨[52], [0, 1, 2, 3, 4, 5, 6, 7]⟩, ⟨[53], [0, 1, 2, 3, 4, 5, 6, 7]⟩, ⟨[45, 47, 49, 51, 54], []⟩, ⟨[11], [0, 1, 2, 3, 4, 5, 6, 7, 8, 9, 10, 11]⟩, ⟨[56], [0, 1, 2, 3, 4, 5, 6, 7, 8, 9, 10, 11]⟩, ⟨[57], [0, 1, 2, 3, 4, 5, 6, 7, 8, 9, 10, 11]⟩, ⟨[58], [0, 1, 2, 3, 4, 5, 6, 7, 8, 9, 10, 11]⟩, ⟨[55, 59], []⟩, ⟨[60], []⟩]⟩), (11, ⟨[92], [⟨[13], []⟩, ⟨[14], [0]⟩, ⟨[81, 82], []⟩, ⟨[83], []⟩, ⟨[84], []⟩, ⟨[13], [0, 1, 2, 3, 4]⟩, ⟨[14], [0, 1, 2, 3, 4, 5]⟩, ⟨[86, 87], [0, 1, 2, 3, 4]⟩, ⟨[88], [0, 1, 2, 3, 4]⟩, ⟨[89], [0, 1, 2, 3, 4]⟩, ⟨[15], [0, 1, 2, 3, 4, 5, 6, 7, 8, 9]⟩, ⟨[91], [0, 1, 2, 3, 4, 5, 6, 7, 8, 9]⟩, ⟨[85, 90, 92], []⟩]⟩)]⟩
def ft13 : FT := ⟨[0, 1, 2, 3, 4, 7, 8, 9, 10, 11, 12, 13, 22, 32], [(1, ⟨[], [⟨[4], []⟩, ⟨[4], [0]⟩, ⟨[1], [0, 1]⟩, ⟨[16], [0, 1]⟩, ⟨[2], [0, 1, 2, 3]⟩, ⟨[15, 17, 18], [0]⟩, ⟨[14, 19], []⟩, ⟨[20], []⟩]⟩), (3, ⟨[], [⟨[4], []⟩, ⟨[4], [0]⟩, ⟨[24], [0]⟩, ⟨[1], [0, 1, 2]⟩, ⟨[25, 26], [0]⟩, ⟨[27], [0]⟩, ⟨[7], [0, 1, 2, 3, 4, 5]⟩, ⟨[23, 28, 29], []⟩, ⟨[30], []⟩]⟩)]⟩
def ft14 : FT := ⟨[0, 1, 2, 3, 4, 5, 6, 7, 8, 9, 10, 11, 12, 13, 16, 17, 18, 20, 21, 23, 24, 25, 26, 27, 28, 29, 30, 32, 34], [(14, ⟨[166, 210], [⟨[2], []⟩, ⟨[109], []⟩, ⟨[110], []⟩, ⟨[4, 111], []⟩, ⟨[111, 112], []⟩, ⟨[111, 113], []⟩, ⟨[114], []⟩, ⟨[6, 115], []⟩, ⟨[115, 116], []⟩, ⟨[115, 117], []⟩, ⟨[118], []⟩, ⟨[8, 119], []⟩, ⟨[119, 120], []⟩, ⟨[119, 121], []⟩, ⟨[122], []⟩, ⟨[12, 123], []⟩, ⟨[123, 124], []⟩, ⟨[123, 125], []⟩, ⟨[126], []⟩, ⟨[16, 127], []⟩, ⟨[127, 128], []⟩, ⟨[127, 129], []⟩, ⟨[130], []⟩, ⟨[20, 131], []⟩, ⟨[131, 132], []⟩, ⟨[131, 133], []⟩, ⟨[134], []⟩, ⟨[23, 135], []⟩, ⟨[135, 136], []⟩, ⟨[135, 137], []⟩, ⟨[138], []⟩, ⟨[25, 139], []⟩, ⟨[139, 140], []⟩, ⟨[139, 141], []⟩, ⟨[142], []⟩, ⟨[27, 143], []⟩, ⟨[143, 144], []⟩, ⟨[143, 145], []⟩, ⟨[146], []⟩, ⟨[30, 147], []⟩, ⟨[147, 148], []⟩, ⟨[147, 149], []⟩, ⟨[150], []⟩, ⟨[32, 151], []⟩, ⟨[151, 152], []⟩, ⟨[151, 153], []⟩, ⟨[154], []⟩, ⟨[34, 155], []⟩, ⟨[155, 156], []⟩, ⟨[155, 157], []⟩, ⟨[158], []⟩, ⟨[1, 159], []⟩, ⟨[159], [51]⟩, ⟨[159, 160, 161], []⟩, ⟨[159, 162], []⟩, ⟨[163], []⟩, ⟨[3, 164], []⟩, ⟨[164], [56]⟩, ⟨[164, 165, 166], []⟩, ⟨[164, 167], []⟩, ⟨[168], []⟩, ⟨[5, 169], []⟩, ⟨[169], [61]⟩, ⟨[169, 170, 171], []⟩, ⟨[169, 172], []⟩, ⟨[173], []⟩, ⟨[7, 174], []⟩, ⟨[174, 175], []⟩, ⟨[174, 176], []⟩, ⟨[177], []⟩, ⟨[9, 178], []⟩, ⟨[178, 179], []⟩, ⟨[178, 180], []⟩, ⟨[181], []⟩, ⟨[10, 182], []⟩, ⟨[182, 183], []⟩, ⟨[182, 184], []⟩, ⟨[185], []⟩, ⟨[11, 186], []⟩, ⟨[186, 187], []⟩, ⟨[186, 188], []⟩, ⟨[189], []⟩, ⟨[13, 190], []⟩, ⟨[190, 191], []⟩, ⟨[190, 192], []⟩, ⟨[193], []⟩, ⟨[17, 194], []⟩, ⟨[194], [86]⟩, ⟨[194, 195, 196], []⟩, ⟨[194, 197], []⟩, ⟨[198], []⟩, ⟨[18, 199], []⟩, ⟨[199, 200], []⟩, ⟨[199, 201], []⟩, ⟨[202], []⟩, ⟨[21, 203], []⟩, ⟨[203, 204], []⟩, ⟨[203, 205], []⟩, ⟨[206], []⟩, ⟨[24, 207], []⟩, ⟨[207], [99]⟩, ⟨[207, 209], [99]⟩, ⟨[207, 208, 210], []⟩, ⟨[207, 211], []⟩, ⟨[212], []⟩, ⟨[26, 213], []⟩, ⟨[213, 214], []⟩, ⟨[213, 215], []⟩, ⟨[216], []⟩, ⟨[28, 217], []⟩, ⟨[217, 218], []⟩, ⟨[217, 219], []⟩, ⟨[217, 220], []⟩, ⟨[221], []⟩, ⟨[29, 222], []⟩, ⟨[222, 223], []⟩, ⟨[222, 224], []⟩, ⟨[225], []⟩]⟩)]⟩
def ft15 : FT := ⟨[0, 1, 2, 3, 6, 7, 8, 22, 31], []⟩
def ft16 : FT := ⟨[0, 1, 2, 3, 6, 7, 8, 9, 20, 27, 45, 57, 77], [(13, ⟨[73, 74], [⟨[8], []⟩, ⟨[8], [0]⟩, ⟨[59], [0]⟩, ⟨[60], [0]⟩, ⟨[58, 61], []⟩, ⟨[8], [0, 1, 2, 3, 4]⟩, ⟨[8], [0, 1, 2, 3, 4, 5]⟩, ⟨[64], [0, 1, 2, 3, 4, 5]⟩, ⟨[65], [0, 1, 2, 3, 4, 5]⟩, ⟨[63, 66], [0, 1, 2, 3, 4]⟩, ⟨[67], [0, 1, 2, 3, 4]⟩, ⟨[68], [0, 1, 2, 3, 4]⟩, ⟨[9], [0, 1, 2, 3, 4, 5, 6, 7, 8, 9, 10, 11]⟩, ⟨[70], [0, 1, 2, 3, 4, 5, 6, 7, 8, 9, 10, 11]⟩, ⟨[69, 71], [0, 1, 2, 3, 4]⟩, ⟨[72], [0, 1, 2, 3, 4]⟩, ⟨[62, 73], []⟩, ⟨[74], []⟩]⟩)]⟩
def ft17 : FT := ⟨[0, 1, 4, 5, 10, 14, 25], [(6, ⟨[], [⟨[0], []⟩, ⟨[5], [0]⟩, ⟨[17, 18], []⟩, ⟨[19], []⟩, ⟨[1], [0, 1, 2, 3]⟩, ⟨[5], [0, 1, 2, 3, 4]⟩, ⟨[21, 22], [0, 1, 2, 3]⟩, ⟨[23], [0, 1, 2, 3]⟩, ⟨[20, 24], []⟩]⟩)]⟩
def ft18 : FT := ⟨[0, 1, 2, 3, 6, 7, 8, 22, 28], []⟩
def ft19 : FT := ⟨[0, 1, 2, 3, 4, 5, 12], []⟩
def ft20 : FT := ⟨[0, 1, 2, 3, 4, 5, 6, 20, 33], []⟩
def ft21 : FT := ⟨[0, 1, 2, 3, 4, 7, 8, 9, 10, 11, 22, 30, 39, 48, 59], [(13, ⟨[], [⟨[1], []⟩, ⟨[10], [0]⟩, ⟨[11], [0, 1]⟩, ⟨[43, 44], [0]⟩, ⟨[45], [0]⟩, ⟨[42, 46], []⟩, ⟨[47], []⟩]⟩), (15, ⟨[], [⟨[1], []⟩, ⟨[10], [0]⟩, ⟨[11], [0, 1]⟩, ⟨[54, 55], [0]⟩, ⟨[56], [0]⟩, ⟨[53, 57], []⟩, ⟨[58], []⟩]⟩)]⟩
def ft22 : FT := ⟨[0, 1, 4, 5, 10, 14, 25], [(6, ⟨[], [⟨[0], []⟩, ⟨[5], [0]⟩, ⟨[17, 18], []⟩, ⟨[19], []⟩, ⟨[1], [0, 1, 2, 3]⟩, ⟨[5], [0, 1, 2, 3, 4]⟩, ⟨[21, 22], [0, 1, 2, 3]⟩, ⟨[23], [0, 1, 2, 3]⟩, ⟨[20, 24], []⟩]⟩)]⟩
def ft23 : FT := ⟨[0, 1, 2, 3, 6, 9, 16, 20, 27], []⟩
def ft24 : FT := ⟨[0, 1, 2, 4, 5, 7, 12, 13, 14], [(7, ⟨[], [⟨[5], []⟩, ⟨[21], []⟩, ⟨[2], [0, 1]⟩, ⟨[23], []⟩, ⟨[22, 24], []⟩, ⟨[25], []⟩]⟩)]⟩
def ft25 : FT := ⟨[0, 1, 2, 3, 6, 9, 30, 40], []⟩
def ft26 : FT := ⟨[0, 2], []⟩
def ft27 : FT := ⟨[0, 1, 2, 3, 4, 6], [(1, ⟨[], [⟨[4], []⟩, ⟨[7], []⟩, ⟨[4], [0, 1]⟩, ⟨[9], [0, 1]⟩, ⟨[8, 10], []⟩, ⟨[3], [0, 1, 2, 3, 4]⟩, ⟨[12], [0, 1, 2, 3, 4]⟩, ⟨[11, 13], []⟩, ⟨[4], [0, 1, 2, 3, 4, 5, 6, 7]⟩, ⟨[15], [0, 1, 2, 3, 4, 5, 6, 7]⟩, ⟨[4], [0, 1, 2, 3, 4, 5, 6, 7, 8, 9]⟩, ⟨[17], [0, 1, 2, 3, 4, 5, 6, 7, 8, 9]⟩, ⟨[16, 18], [0, 1, 2, 3, 4, 5, 6, 7]⟩, ⟨[3], [0, 1, 2, 3, 4, 5, 6, 7, 8, 9, 10, 11, 12]⟩, ⟨[20], [0, 1, 2, 3, 4, 5, 6, 7, 8, 9, 10, 11, 12]⟩, ⟨[19, 21], [0, 1, 2, 3, 4, 5, 6, 7]⟩, ⟨[14, 22], []⟩, ⟨[23], []⟩, ⟨[4], [0, 1, 2, 3, 4, 5, 6, 7, 8, 9, 10, 11, 12, 13, 14, 15, 16, 17]⟩, ⟨[25], [0, 1, 2, 3, 4, 5, 6, 7, 8, 9, 10, 11, 12, 13, 14, 15, 16, 17]⟩, ⟨[3], [0, 1, 2, 3, 4, 5, 6, 7, 8, 9, 10, 11, 12, 13, 14, 15, 16, 17, 18, 19]⟩, ⟨[27], [0, 1, 2, 3, 4, 5, 6, 7, 8, 9, 10, 11, 12, 13, 14, 15, 16, 17, 18, 19]⟩, ⟨[26, 28], [0, 1, 2, 3, 4, 5, 6, 7, 8, 9, 10, 11, 12, 13, 14, 15, 16, 17]⟩, ⟨[24, 29], []⟩, ⟨[3], [0, 1, 2, 3, 4, 5, 6, 7, 8, 9, 10, 11, 12, 13, 14, 15, 16, 17, 18, 19, 20, 21, 22, 23]⟩, ⟨[31], [0, 1, 2, 3, 4, 5, 6, 7, 8, 9, 10, 11, 12, 13, 14, 15, 16, 17, 18, 19, 20, 21, 22, 23]⟩, ⟨[2], [0, 1, 2, 3, 4, 5, 6, 7, 8, 9, 10, 11, 12, 13, 14, 15, 16, 17, 18, 19, 20, 21, 22, 23, 24, 25]⟩, ⟨[32, 33], [0, 1, 2, 3, 4, 5, 6, 7, 8, 9, 10, 11, 12, 13, 14, 15, 16, 17, 18, 19, 20, 21, 22, 23]⟩, ⟨[34], [0, 1, 2, 3, 4, 5, 6, 7, 8, 9, 10, 11, 12, 13, 14, 15, 16, 17, 18, 19, 20, 21, 22, 23]⟩, ⟨[30, 35], []⟩, ⟨[36], []⟩, ⟨[37], []⟩]⟩)]⟩
def ft28 : FT := ⟨[0, 1, 2, 4, 5, 6, 7, 8, 9, 10, 12, 20, 21, 22, 23, 39], [(10, ⟨[46, 47], [⟨[6], []⟩, ⟨[6], [0]⟩, ⟨[41], [0]⟩, ⟨[42], [0]⟩, ⟨[43], [0]⟩, ⟨[9], [0, 1, 2, 3, 4]⟩, ⟨[45], [0, 1, 2, 3, 4]⟩, ⟨[44, 46], [0]⟩, ⟨[40], []⟩, ⟨[48], []⟩, ⟨[47, 49], []⟩]⟩), (11, ⟨[], [⟨[6], []⟩, ⟨[50], []⟩, ⟨[51], []⟩, ⟨[52], []⟩, ⟨[7], [0, 1, 2, 3]⟩, ⟨[8], [0, 1, 2, 3, 4]⟩, ⟨[55], [0, 1, 2, 3, 4]⟩, ⟨[53, 54, 56], []⟩]⟩)]⟩
def ft29 : FT := ⟨[0, 1, 4, 5, 6, 7, 8, 13, 14, 15, 16, 30], []⟩
def ft30 : FT := ⟨[0, 1, 2, 4, 5, 6, 8, 18, 40], []⟩
def ft31 : FT := ⟨[0, 1, 2, 4, 5, 6, 7, 8, 9, 10, 17, 35], [(5, ⟨[], [⟨[2], []⟩, ⟨[1], [0]⟩, ⟨[2], [0, 1]⟩, ⟨[2], [0, 1, 2]⟩, ⟨[24], [0, 1, 2]⟩, ⟨[8], [0, 1, 2, 3, 4]⟩, ⟨[25, 26], [0, 1, 2]⟩, ⟨[27], [0, 1, 2]⟩, ⟨[7], [0, 1, 2, 3, 4, 5, 6, 7]⟩, ⟨[23, 28, 29], [0, 1]⟩, ⟨[21, 22, 30], []⟩, ⟨[31], []⟩, ⟨[20], []⟩, ⟨[20], [12]⟩, ⟨[32], [13]⟩, ⟨[33], []⟩]⟩)]⟩
def ft32 : FT := ⟨[0, 1, 3, 4, 6, 30, 31, 32, 33], [(1, ⟨[], [⟨[3], []⟩, ⟨[7], []⟩, ⟨[8], []⟩, ⟨[3], [0, 1, 2]⟩, ⟨[10], [0, 1, 2]⟩, ⟨[11], [0, 1, 2]⟩, ⟨[3], [0, 1, 2, 3, 4, 5]⟩, ⟨[13], [0, 1, 2, 3, 4, 5]⟩, ⟨[14], [0, 1, 2, 3, 4, 5]⟩, ⟨[3], [0, 1, 2, 3, 4, 5, 6, 7, 8]⟩, ⟨[16], [0, 1, 2, 3, 4, 5, 6, 7, 8]⟩, ⟨[17], [0, 1, 2, 3, 4, 5, 6, 7, 8]⟩, ⟨[0], [0, 1, 2, 3, 4, 5, 6, 7, 8, 9, 10, 11]⟩, ⟨[19], [0, 1, 2, 3, 4, 5, 6, 7, 8, 9, 10, 11]⟩, ⟨[20], [0, 1, 2, 3, 4, 5, 6, 7, 8, 9, 10, 11]⟩, ⟨[21], [0, 1, 2, 3, 4, 5, 6, 7, 8, 9, 10, 11]⟩, ⟨[22], [0, 1, 2, 3, 4, 5, 6, 7, 8, 9, 10, 11]⟩, ⟨[23], [0, 1, 2, 3, 4, 5, 6, 7, 8, 9, 10, 11]⟩, ⟨[24], [0, 1, 2, 3, 4, 5, 6, 7, 8, 9, 10, 11]⟩, ⟨[9, 12, 15, 18, 25], []⟩, ⟨[4, 26], []⟩]⟩)]⟩
def ft33 : FT := ⟨[0, 1, 2, 4, 6, 7, 8, 9, 10, 11, 31, 37, 38, 39, 40, 46, 69], [(1, ⟨[], [⟨[0], []⟩, ⟨[12], []⟩, ⟨[13], []⟩, ⟨[14], []⟩, ⟨[15], []⟩, ⟨[4], [0, 1, 2, 3, 4]⟩, ⟨[16, 17], []⟩, ⟨[2], [0, 1, 2, 3, 4, 5, 6]⟩, ⟨[18, 19], []⟩, ⟨[20], []⟩]⟩), (2, ⟨[], [⟨[8], []⟩, ⟨[21], []⟩, ⟨[4], [0, 1]⟩, ⟨[23], [0, 1]⟩, ⟨[0], [0, 1, 2, 3]⟩, ⟨[4], [0, 1, 2, 3, 4]⟩, ⟨[2], [0, 1, 2, 3, 4, 5]⟩, ⟨[25, 26, 27], [0, 1, 2, 3]⟩, ⟨[28], [0, 1, 2, 3]⟩, ⟨[24, 29], [0, 1]⟩, ⟨[22, 30], []⟩]⟩), (10, ⟨[], [⟨[4], []⟩, ⟨[51], []⟩, ⟨[10], [0, 1]⟩, ⟨[52, 53], []⟩, ⟨[54], []⟩, ⟨[55], []⟩, ⟨[8], [0, 1, 2, 3, 4, 5]⟩, ⟨[0], [0, 1, 2, 3, 4, 5, 6]⟩, ⟨[58], [0, 1, 2, 3, 4, 5, 6]⟩, ⟨[59], [0, 1, 2, 3, 4, 5, 6]⟩, ⟨[60], [0, 1, 2, 3, 4, 5, 6]⟩, ⟨[61], [0, 1, 2, 3, 4, 5, 6]⟩, ⟨[62], [0, 1, 2, 3, 4, 5, 6]⟩, ⟨[9], [0, 1, 2, 3, 4, 5, 6, 7, 8, 9, 10, 11, 12]⟩, ⟨[2], [0, 1, 2, 3, 4, 5, 6, 7, 8, 9, 10, 11, 12, 13]⟩, ⟨[64, 65], [0, 1, 2, 3, 4, 5, 6, 7, 8, 9, 10, 11, 12]⟩, ⟨[63, 66], [0, 1, 2, 3, 4, 5, 6]⟩, ⟨[57, 67], [0, 1, 2, 3, 4, 5]⟩, ⟨[56, 68], []⟩]⟩)]⟩
def ft34 : FT := ⟨[0, 1, 2, 3, 4, 6], []⟩
def ft35 : FT := ⟨[0, 1, 2, 3, 4, 5, 12], [(5, ⟨[5], [⟨[1], []⟩, ⟨[16], []⟩, ⟨[17], []⟩, ⟨[4], [0, 1, 2]⟩, ⟨[18, 19], []⟩, ⟨[20], []⟩, ⟨[1], [0, 1, 2, 3, 4, 5]⟩, ⟨[22], [0, 1, 2, 3, 4, 5]⟩, ⟨[23], [0, 1, 2, 3, 4, 5]⟩, ⟨[1], [0, 1, 2, 3, 4, 5, 6, 7, 8]⟩, ⟨[25], [0, 1, 2, 3, 4, 5, 6, 7, 8]⟩, ⟨[26], [0, 1, 2, 3, 4, 5, 6, 7, 8]⟩, ⟨[4], [0, 1, 2, 3, 4, 5, 6, 7, 8, 9, 10, 11]⟩, ⟨[27, 28], [0, 1, 2, 3, 4, 5, 6, 7, 8]⟩, ⟨[29], [0, 1, 2, 3, 4, 5, 6, 7, 8]⟩, ⟨[30], [0, 1, 2, 3, 4, 5, 6, 7, 8]⟩, ⟨[1], [0, 1, 2, 3, 4, 5, 6, 7, 8, 9, 10, 11, 12, 13, 14, 15]⟩, ⟨[32], [0, 1, 2, 3, 4, 5, 6, 7, 8, 9, 10, 11, 12, 13, 14, 15]⟩, ⟨[21, 24, 31, 33], []⟩, ⟨[34], []⟩, ⟨[15], []⟩, ⟨[15], [20]⟩, ⟨[], [0, 1, 2, 3, 4, 5, 6, 7, 8, 9, 10, 11, 12, 13, 14, 15, 16, 17, 18, 19, 20, 21]⟩, ⟨[5, 35], [21]⟩, ⟨[36], []⟩]⟩)]⟩
def ft36 : FT := ⟨[0, 1, 2, 3, 5, 6, 7, 8, 9, 10, 11, 12, 13, 24, 47, 61, 72, 99], [(6, ⟨[], [⟨[3], []⟩, ⟨[27], []⟩, ⟨[28], []⟩, ⟨[10], [0, 1, 2]⟩, ⟨[29, 30], []⟩, ⟨[31], []⟩, ⟨[32], []⟩, ⟨[5], [0, 1, 2, 3, 4, 5, 6]⟩, ⟨[34], [0, 1, 2, 3, 4, 5, 6]⟩, ⟨[5], [0, 1, 2, 3, 4, 5, 6, 7, 8]⟩, ⟨[36], [0, 1, 2, 3, 4, 5, 6, 7, 8]⟩, ⟨[37], [0, 1, 2, 3, 4, 5, 6, 7, 8]⟩, ⟨[35, 38], [0, 1, 2, 3, 4, 5, 6]⟩, ⟨[33, 39], []⟩, ⟨[3], [0, 1, 2, 3, 4, 5, 6, 7, 8, 9, 10, 11, 12, 13]⟩, ⟨[41], [0, 1, 2, 3, 4, 5, 6, 7, 8, 9, 10, 11, 12, 13]⟩, ⟨[42], [0, 1, 2, 3, 4, 5, 6, 7, 8, 9, 10, 11, 12, 13]⟩, ⟨[43], [0, 1, 2, 3, 4, 5, 6, 7, 8, 9, 10, 11, 12, 13]⟩, ⟨[1], [0, 1, 2, 3, 4, 5, 6, 7, 8, 9, 10, 11, 12, 13, 14, 15, 16, 17]⟩, ⟨[44, 45], [0, 1, 2, 3, 4, 5, 6, 7, 8, 9, 10, 11, 12, 13]⟩, ⟨[40, 46], []⟩]⟩), (15, ⟨[], [⟨[8], []⟩, ⟨[3], [0]⟩, ⟨[87], [0]⟩, ⟨[88], [0]⟩, ⟨[13], [0, 1, 2, 3]⟩, ⟨[89, 90], [0]⟩, ⟨[86, 91], []⟩, ⟨[5], [0, 1, 2, 3, 4, 5, 6]⟩, ⟨[93], [0, 1, 2, 3, 4, 5, 6]⟩, ⟨[12], [0, 1, 2, 3, 4, 5, 6, 7, 8]⟩, ⟨[94, 95], [0, 1, 2, 3, 4, 5, 6]⟩, ⟨[96], [0, 1, 2, 3, 4, 5, 6]⟩, ⟨[97], [0, 1, 2, 3, 4, 5, 6]⟩, ⟨[92, 98], []⟩]⟩)]⟩
def ft37 : FT := ⟨[0, 1, 2, 3, 4, 6], []⟩
def ft38 : FT := ⟨[0, 1, 2, 3, 4, 5, 6, 7, 8, 17, 77, 82, 117], [(8, ⟨[8], [⟨[3], []⟩, ⟨[86], []⟩, ⟨[87], []⟩, ⟨[7], [0, 1, 2]⟩, ⟨[88, 89], []⟩, ⟨[90], []⟩, ⟨[3], [0, 1, 2, 3, 4, 5]⟩, ⟨[92], [0, 1, 2, 3, 4, 5]⟩, ⟨[93], [0, 1, 2, 3, 4, 5]⟩, ⟨[3], [0, 1, 2, 3, 4, 5, 6, 7, 8]⟩, ⟨[95], [0, 1, 2, 3, 4, 5, 6, 7, 8]⟩, ⟨[96], [0, 1, 2, 3, 4, 5, 6, 7, 8]⟩, ⟨[7], [0, 1, 2, 3, 4, 5, 6, 7, 8, 9, 10, 11]⟩, ⟨[97, 98], [0, 1, 2, 3, 4, 5, 6, 7, 8]⟩, ⟨[99], [0, 1, 2, 3, 4, 5, 6, 7, 8]⟩, ⟨[100], [0, 1, 2, 3, 4, 5, 6, 7, 8]⟩, ⟨[3], [0, 1, 2, 3, 4, 5, 6, 7, 8, 9, 10, 11, 12, 13, 14, 15]⟩, ⟨[102], [0, 1, 2, 3, 4, 5, 6, 7, 8, 9, 10, 11, 12, 13, 14, 15]⟩, ⟨[91, 94, 101, 103], []⟩, ⟨[104], []⟩, ⟨[85], []⟩, ⟨[85], [20]⟩, ⟨[], [0, 1, 2, 3, 4, 5, 6, 7, 8, 9, 10, 11, 12, 13, 14, 15, 16, 17, 18, 19, 20, 21]⟩, ⟨[8, 105], [21]⟩, ⟨[106], []⟩]⟩), (9, ⟨[], [⟨[5], []⟩, ⟨[107], []⟩, ⟨[7], [0, 1]⟩, ⟨[108, 109], []⟩, ⟨[110], []⟩, ⟨[8], [0, 1, 2, 3, 4]⟩, ⟨[112], [0, 1, 2, 3, 4]⟩, ⟨[8], [0, 1, 2, 3, 4, 5, 6]⟩, ⟨[114], [0, 1, 2, 3, 4, 5, 6]⟩, ⟨[111, 113, 115], []⟩, ⟨[116], []⟩]⟩)]⟩
def ft39 : FT := ⟨[0, 1, 2, 3, 6, 7, 8, 9, 10, 11, 18, 23, 38], []⟩
def ft40 : FT := ⟨[0, 2, 3, 4, 10], [(5, ⟨[22, 26, 39], [⟨[3], []⟩, ⟨[4], [0]⟩, ⟨[20, 21], []⟩, ⟨[], [0, 1, 2]⟩, ⟨[], [0, 1, 2, 3]⟩, ⟨[], [0, 1, 2, 3, 4]⟩, ⟨[24, 25], [0, 1, 2, 3]⟩, ⟨[22, 23, 26], []⟩, ⟨[], [0, 1, 2, 3, 4, 5, 6, 7]⟩, ⟨[], [0, 1, 2, 4, 5, 6, 7, 8]⟩, ⟨[], [0, 1, 2, 4, 5, 6, 7, 8]⟩, ⟨[], [0, 1, 2, 4, 5, 6, 7, 8]⟩, ⟨[], [0, 1, 2, 4, 5, 6, 7, 8]⟩, ⟨[29, 30, 31, 32], [0, 1, 2, 4, 5, 6, 7, 8]⟩, ⟨[], [0, 1, 2, 4, 5, 6, 7, 8, 13]⟩, ⟨[], [0, 1, 2, 4, 5, 6, 7, 8, 13]⟩, ⟨[], [0, 1, 2, 4, 5, 6, 7, 8, 13]⟩, ⟨[], [0, 1, 2, 4, 5, 6, 7, 8, 13]⟩, ⟨[34, 35, 36, 37], [0, 1, 2, 4, 5, 6, 7, 8, 13]⟩, ⟨[33, 38], [0, 1, 2, 4, 5, 6, 7, 8]⟩, ⟨[27, 28, 39], []⟩, ⟨[2, 40], []⟩]⟩)]⟩
def ft41 : FT := ⟨[0, 1, 2, 4, 5, 6, 7, 8, 18], []⟩
def ft42 : FT := ⟨[0, 1, 2, 4, 5, 7, 8, 22], [(5, ⟨[], [⟨[8], []⟩, ⟨[25], []⟩, ⟨[26], []⟩, ⟨[27], []⟩, ⟨[1], [0, 1, 2, 3]⟩, ⟨[28, 29], []⟩, ⟨[30], []⟩, ⟨[31], []⟩, ⟨[32], []⟩, ⟨[8], [0, 1, 2, 3, 4, 5, 6, 7, 8]⟩, ⟨[34], [0, 1, 2, 3, 4, 5, 6, 7, 8]⟩, ⟨[35], [0, 1, 2, 3, 4, 5, 6, 7, 8]⟩, ⟨[36], [0, 1, 2, 3, 4, 5, 6, 7, 8]⟩, ⟨[1], [0, 1, 2, 3, 4, 5, 6, 7, 8, 9, 10, 11, 12]⟩, ⟨[37, 38], [0, 1, 2, 3, 4, 5, 6, 7, 8]⟩, ⟨[39], [0, 1, 2, 3, 4, 5, 6, 7, 8]⟩, ⟨[40], [0, 1, 2, 3, 4, 5, 6, 7, 8]⟩, ⟨[41], []⟩, ⟨[33, 42], []⟩, ⟨[4, 43], []⟩, ⟨[], []⟩]⟩)]⟩
def ft43 : FT := ⟨[0], []⟩
def ft44 : FT := ⟨[0, 1, 4], []⟩
def ft45 : FT := ⟨[0, 1, 2, 3, 4, 5, 6, 7, 8, 9, 10, 11, 16, 20, 21, 22, 23, 27, 33, 46, 53, 54, 55, 56, 60, 72, 88, 107, 112, 118, 125, 126, 127, 128, 132, 172], []⟩
def ft46 : FT := ⟨[0, 1, 4, 5, 6, 7, 8, 9, 19, 20, 21, 25, 36, 44, 60], []⟩
def ft47 : FT := ⟨[0, 1, 2, 4, 6, 7, 8, 9], []⟩
def ft48 : FT := ⟨[0, 1, 2, 3, 4, 5, 6, 7, 8, 9, 10, 11, 20, 47, 51, 57, 69, 74, 79, 89], [(12, ⟨[], [⟨[1], []⟩, ⟨[60], []⟩, ⟨[1], [0, 1]⟩, ⟨[62], [0, 1]⟩, ⟨[63], [0, 1]⟩, ⟨[9], [0, 1, 2, 3, 4]⟩, ⟨[64, 65], [0, 1]⟩, ⟨[66], [0, 1]⟩, ⟨[67], [0, 1]⟩, ⟨[61, 68], []⟩]⟩)]⟩
def ft49 : FT := ⟨[0, 1, 2, 3, 4, 5, 6, 7, 8, 9, 10, 18, 36, 45], [(6, ⟨[30, 31], [⟨[4], []⟩, ⟨[1], [0]⟩, ⟨[1], [0, 1]⟩, ⟨[23], [0, 1]⟩, ⟨[5], [0, 1, 2, 3]⟩, ⟨[24, 25], [0, 1]⟩, ⟨[26], [0, 1]⟩, ⟨[3], [0, 1, 2, 3, 4, 5, 6]⟩, ⟨[22, 27, 28], [0]⟩, ⟨[29], [0]⟩, ⟨[21, 30], []⟩, ⟨[31], []⟩]⟩), (15, ⟨[], [⟨[1], []⟩, ⟨[7], [0]⟩, ⟨[4], [0, 1]⟩, ⟨[9], [0, 1, 2]⟩, ⟨[51, 52], [0, 1]⟩, ⟨[53], [0, 1]⟩, ⟨[49, 50, 54], []⟩, ⟨[55], []⟩, ⟨[48], []⟩, ⟨[48], [8]⟩, ⟨[56], [9]⟩, ⟨[57], []⟩]⟩)]⟩
def ft50 : FT := ⟨[0, 1, 2, 3, 4, 5, 6, 7, 8, 11, 12, 13, 17], [(7, ⟨[], [⟨[4], []⟩, ⟨[18], []⟩, ⟨[5], [0, 1]⟩, ⟨[4, 19], [2]⟩, ⟨[5, 20], []⟩, ⟨[6], []⟩]⟩), (9, ⟨[], [⟨[5], []⟩, ⟨[4], [0]⟩, ⟨[5, 22], []⟩, ⟨[6], []⟩]⟩)]⟩
def ft51 : FT := ⟨[0, 1, 3, 4, 6, 7, 8, 9, 10, 19], []⟩
def ft52 : FT := ⟨[0, 1, 2, 6, 7, 9, 29, 30, 31, 32, 46], [(2, ⟨[], [⟨[0], []⟩, ⟨[13], []⟩, ⟨[14], []⟩, ⟨[15], []⟩, ⟨[16], []⟩, ⟨[0], [0, 1, 2, 3, 4]⟩, ⟨[18], [0, 1, 2, 3, 4]⟩, ⟨[19], [0, 1, 2, 3, 4]⟩, ⟨[20], [0, 1, 2, 3, 4]⟩, ⟨[21], [0, 1, 2, 3, 4]⟩, ⟨[22], [0, 1, 2, 3, 4]⟩, ⟨[23], []⟩, ⟨[7], []⟩, ⟨[17, 25], []⟩, ⟨[7], []⟩, ⟨[26], []⟩, ⟨[27], []⟩, ⟨[24, 28], []⟩]⟩), (6, ⟨[], [⟨[7], []⟩, ⟨[35], []⟩, ⟨[9], [0, 1]⟩, ⟨[0], [0, 1, 2]⟩, ⟨[38], [0, 1, 2]⟩, ⟨[39], [0, 1, 2]⟩, ⟨[40], [0, 1, 2]⟩, ⟨[9], [0, 1, 2, 3, 4, 5, 6]⟩, ⟨[41, 42], [0, 1, 2]⟩, ⟨[36, 37], []⟩, ⟨[43, 44], []⟩]⟩)]⟩
def ft53 : FT := ⟨[0, 1, 2, 6, 7, 8, 9, 11, 16, 27], []⟩
def ft54 : FT := ⟨[0, 1, 2, 3, 4, 10, 16], []⟩
def ft55 : FT := ⟨[0, 1, 2, 3, 6, 7, 8, 9, 15, 26, 31], []⟩
def ft56 : FT := ⟨[0, 1, 2], []⟩
def ft57 : FT := ⟨[0, 1, 2], []⟩
def ft58 : FT := ⟨[0, 1, 4], []⟩
def ft59 : FT := ⟨[0, 1, 2], []⟩
def ft60 : FT := ⟨[0, 1, 2, 6], []⟩
def ft61 : FT := ⟨[0, 1, 2, 3, 4, 9], []⟩
def ft62 : FT := ⟨[0, 1, 4], []⟩
def ft63 : FT := ⟨[0, 1, 2, 3, 4, 5, 6, 7, 12, 13, 24], [(7, ⟨[], [⟨[4], []⟩, ⟨[5], [0]⟩, ⟨[4, 37], [1]⟩, ⟨[5, 38], []⟩]⟩)]⟩
def ft64 : FT := ⟨[0, 1, 2, 3, 4, 8, 9, 10, 11, 12, 13, 14, 15, 23, 35, 49], [(8, ⟨[], [⟨[4], []⟩, ⟨[13], [0]⟩, ⟨[37], [0]⟩, ⟨[12], [0, 1, 2]⟩, ⟨[3], [0, 1, 2, 3]⟩, ⟨[36, 38, 39, 40], []⟩, ⟨[4], [0, 1, 2, 3, 4, 5]⟩, ⟨[13], [0, 1, 2, 3, 4, 5, 6]⟩, ⟨[43], [0, 1, 2, 3, 4, 5, 6]⟩, ⟨[12], [0, 1, 2, 3, 4, 5, 6, 7, 8]⟩, ⟨[3], [0, 1, 2, 3, 4, 5, 6, 7, 8, 9]⟩, ⟨[42, 44, 45, 46], []⟩, ⟨[41], []⟩, ⟨[47], []⟩]⟩)]⟩
def ft65 : FT := ⟨[0, 1, 2, 3, 4, 5, 6, 8, 15, 17, 36], [(3, ⟨[], [⟨[8], []⟩, ⟨[18], []⟩, ⟨[4], [0, 1]⟩, ⟨[20], [0, 1]⟩, ⟨[4], [0, 1, 2, 3]⟩, ⟨[22], [0, 1, 2, 3]⟩, ⟨[23], [0, 1, 2, 3]⟩, ⟨[21, 24], [0, 1]⟩, ⟨[19, 25], []⟩, ⟨[3], [0, 1, 2, 3, 4, 5, 6, 7, 8]⟩, ⟨[27], [0, 1, 2, 3, 4, 5, 6, 7, 8]⟩, ⟨[28], [0, 1, 2, 3, 4, 5, 6, 7, 8]⟩, ⟨[29], [0, 1, 2, 3, 4, 5, 6, 7, 8]⟩, ⟨[30], [0, 1, 2, 3, 4, 5, 6, 7, 8]⟩, ⟨[31], [0, 1, 2, 3, 4, 5, 6, 7, 8]⟩, ⟨[32], [0, 1, 2, 3, 4, 5, 6, 7, 8]⟩, ⟨[5], [0, 1, 2, 3, 4, 5, 6, 7, 8, 9, 10, 11, 12, 13, 14, 15]⟩, ⟨[33, 34], [0, 1, 2, 3, 4, 5, 6, 7, 8]⟩, ⟨[26, 35], []⟩]⟩)]⟩
def ft66 : FT := ⟨[0, 2], []⟩
def ft67 : FT := ⟨[0, 2], []⟩
def ft68 : FT := ⟨[0, 1, 4], []⟩
def ft69 : FT := ⟨[0, 1, 2, 4], []⟩
def ft70 : FT := ⟨[0, 1, 2, 4, 5, 12, 17], [(6, ⟨[], [⟨[2], []⟩, ⟨[27], []⟩, ⟨[28], []⟩, ⟨[1], [0, 1, 2]⟩, ⟨[29, 30], []⟩, ⟨[31], []⟩, ⟨[2], [0, 1, 2, 3, 4, 5]⟩, ⟨[33], [0, 1, 2, 3, 4, 5]⟩, ⟨[34], [0, 1, 2, 3, 4, 5]⟩, ⟨[32, 35], []⟩, ⟨[4, 36], []⟩, ⟨[], []⟩]⟩)]⟩
def ft71 : FT := ⟨[0, 1, 2, 3, 4, 5, 6, 7, 8, 11, 12, 13, 17], [(7, ⟨[], [⟨[4], []⟩, ⟨[18], []⟩, ⟨[5], [0, 1]⟩, ⟨[4, 19], [2]⟩, ⟨[5, 20], []⟩, ⟨[6], []⟩]⟩), (9, ⟨[], [⟨[5], []⟩, ⟨[4], [0]⟩, ⟨[5, 22], []⟩, ⟨[6], []⟩]⟩)]⟩
def ft72 : FT := ⟨[0, 1, 3, 4, 5, 6, 7, 10, 11, 12, 13, 20], []⟩
def ft73 : FT := ⟨[0, 1, 4], []⟩
def ft74 : FT := ⟨[0, 1, 2, 4, 7], []⟩
def ft75 : FT := ⟨[0, 1, 2, 3, 16, 43], []⟩
def ft76 : FT := ⟨[0, 2, 3, 5, 7, 8, 9, 11, 18], []⟩
def ft77 : FT := ⟨[0, 1, 4], []⟩
def ft78 : FT := ⟨[0, 1, 2, 3], []⟩
def ft79 : FT := ⟨[0, 1, 2, 3, 5, 6, 43, 52, 63, 64, 65, 66, 69, 83], []⟩
def ft80 : FT := ⟨[0, 1, 2, 3], []⟩
def ft81 : FT := ⟨[0, 2], []⟩
def ft82 : FT := ⟨[0, 1, 2, 3, 4, 5, 6, 7, 8, 9, 10, 22, 41, 43, 49, 70, 78, 85, 102, 129], [(24, ⟨[], [⟨[9], []⟩, ⟨[104], []⟩, ⟨[105], []⟩, ⟨[10, 106], []⟩, ⟨[106, 107], []⟩, ⟨[1, 106], [3, 4]⟩, ⟨[106, 109], [3, 4]⟩, ⟨[9, 106], [3, 4, 5, 6]⟩, ⟨[106, 111], [3, 4, 5, 6]⟩, ⟨[106, 110, 112], [3, 4]⟩, ⟨[106, 113], [3, 4]⟩, ⟨[106, 114], [3, 4]⟩, ⟨[106, 108, 115], []⟩, ⟨[106, 116], []⟩, ⟨[10, 117], []⟩, ⟨[117, 118], []⟩, ⟨[1, 117], [14, 15]⟩, ⟨[117, 120], [14, 15]⟩, ⟨[9, 117], [14, 15, 16, 17]⟩, ⟨[117, 122], [14, 15, 16, 17]⟩, ⟨[117, 121, 123], [14, 15]⟩, ⟨[117, 124], [14, 15]⟩, ⟨[117, 125], [14, 15]⟩, ⟨[117, 119, 126], []⟩, ⟨[106, 117, 127], []⟩, ⟨[106, 128], []⟩]⟩)]⟩
def ft83 : FT := ⟨[0, 1, 2, 3, 4, 5, 22, 29, 38], [(1, ⟨[18], [⟨[1], []⟩, ⟨[6], []⟩, ⟨[7], []⟩, ⟨[1], [0, 1, 2]⟩, ⟨[9], [0, 1, 2]⟩, ⟨[10], []⟩, ⟨[1], [0, 1, 2, 3, 4, 5]⟩, ⟨[12], [0, 1, 2, 3, 4, 5]⟩, ⟨[13], []⟩, ⟨[1], [0, 1, 2, 3, 4, 5, 6, 7, 8]⟩, ⟨[15], [0, 1, 2, 3, 4, 5, 6, 7, 8]⟩, ⟨[16], []⟩, ⟨[8, 11, 14, 17], []⟩, ⟨[18], []⟩]⟩)]⟩
def ft84 : FT := ⟨[0, 1, 2, 3, 4, 5, 6, 7, 10, 11, 13, 26, 38], []⟩
def ft85 : FT := ⟨[0, 2, 4], []⟩
def ft86 : FT := ⟨[0, 2, 4], []⟩
def ft87 : FT := ⟨[0, 2, 4], []⟩
def ft88 : FT := ⟨[0, 2, 3, 9], [(3, ⟨[], [⟨[0], []⟩, ⟨[2], [0]⟩, ⟨[0], [0, 1]⟩, ⟨[3], [0, 1, 2]⟩, ⟨[0], [0, 1, 2, 3]⟩, ⟨[3], [0, 1, 2, 3, 4]⟩, ⟨[18, 19], [0, 1, 2, 3]⟩, ⟨[20], [0, 1, 2, 3]⟩, ⟨[0], [0, 1, 2, 3, 4, 5, 6, 7]⟩, ⟨[2], [0, 1, 2, 3, 4, 5, 6, 7, 8]⟩, ⟨[22, 23], [0, 1, 2, 3, 4, 5, 6, 7]⟩, ⟨[24], [0, 1, 2, 3, 4, 5, 6, 7]⟩, ⟨[14, 15], [2, 3]⟩, ⟨[21, 26], [2, 3]⟩, ⟨[16, 17], []⟩, ⟨[25, 27], []⟩]⟩)]⟩
def ft89 : FT := ⟨[0, 2, 3, 9], [(3, ⟨[], [⟨[0], []⟩, ⟨[2], [0]⟩, ⟨[0], [0, 1]⟩, ⟨[3], [0, 1, 2]⟩, ⟨[0], [0, 1, 2, 3]⟩, ⟨[3], [0, 1, 2, 3, 4]⟩, ⟨[18, 19], [0, 1, 2, 3]⟩, ⟨[20], [0, 1, 2, 3]⟩, ⟨[0], [0, 1, 2, 3, 4, 5, 6, 7]⟩, ⟨[2], [0, 1, 2, 3, 4, 5, 6, 7, 8]⟩, ⟨[22, 23], [0, 1, 2, 3, 4, 5, 6, 7]⟩, ⟨[24], [0, 1, 2, 3, 4, 5, 6, 7]⟩, ⟨[14, 15], [2, 3]⟩, ⟨[21, 26], [2, 3]⟩, ⟨[16, 17], []⟩, ⟨[25, 27], []⟩]⟩)]⟩
def ft90 : FT := ⟨[0, 1, 4, 5, 9, 17], []⟩
def ft91 : FT := ⟨[0, 1, 2, 3, 4], []⟩
def ft92 : FT := ⟨[0, 1, 2, 3, 4, 6, 7], []⟩
def ft93 : FT := ⟨[0, 1, 2, 3, 4, 8, 9, 10, 11, 12, 13, 14, 15, 16, 22, 36, 51, 62, 78, 99], [(6, ⟨[], [⟨[9], []⟩, ⟨[29], []⟩, ⟨[9], [0, 1]⟩, ⟨[31], [0, 1]⟩, ⟨[32], [0, 1]⟩, ⟨[30], [2, 3, 4]⟩, ⟨[33], []⟩]⟩), (9, ⟨[], [⟨[4], []⟩, ⟨[14], [0]⟩, ⟨[3], [0, 1]⟩, ⟨[11], [0, 1, 2]⟩, ⟨[44], [0, 1, 2]⟩, ⟨[41, 42, 43, 45], []⟩, ⟨[11], [0, 1, 2, 3, 4, 5]⟩, ⟨[47], [0, 1, 2, 3, 4, 5]⟩, ⟨[1], [0, 1, 2, 3, 4, 5, 6, 7]⟩, ⟨[48, 49], [0, 1, 2, 3, 4, 5]⟩, ⟨[46, 50], []⟩]⟩), (13, ⟨[], [⟨[15], []⟩, ⟨[56], []⟩, ⟨[9], [0, 1]⟩, ⟨[58], [0, 1]⟩, ⟨[57], [2, 3]⟩, ⟨[59], []⟩]⟩), (16, ⟨[], [⟨[4], []⟩, ⟨[16], [0]⟩, ⟨[3], [0, 1]⟩, ⟨[11], [0, 1, 2]⟩, ⟨[71], [0, 1, 2]⟩, ⟨[68, 69, 70, 72], []⟩, ⟨[11], [0, 1, 2, 3, 4, 5]⟩, ⟨[74], [0, 1, 2, 3, 4, 5]⟩, ⟨[1], [0, 1, 2, 3, 4, 5, 6, 7]⟩, ⟨[75, 76], [0, 1, 2, 3, 4, 5]⟩, ⟨[73, 77], []⟩]⟩)]⟩
def ft94 : FT := ⟨[0, 1, 2, 3, 4, 8], []⟩
def ft95 : FT := ⟨[0, 1, 2], []⟩
def ft96 : FT := ⟨[0, 1, 4, 5, 7, 8, 9, 16], []⟩
def ft97 : FT := ⟨[0, 1, 2, 3, 4, 5, 6, 7, 10, 11, 13, 26, 38], []⟩
def ft98 : FT := ⟨[0, 1, 4, 5, 7, 8, 9, 16], []⟩
def ft99 : FT := ⟨[0, 1, 4, 5, 7, 8, 9, 16], []⟩
def ft100 : FT := ⟨[0, 1, 4], []⟩
def ft101 : FT := ⟨[0, 1, 2], []⟩
def ft102 : FT := ⟨[0, 1, 2, 3, 6], []⟩
def ft103 : FT := ⟨[0, 1, 4, 7, 11], []⟩
def ft104 : FT := ⟨[0, 1, 2, 3, 4, 28, 34], [(1, ⟨[], [⟨[1], []⟩, ⟨[5], []⟩, ⟨[6], []⟩, ⟨[1], [0, 1, 2]⟩, ⟨[8], [0, 1, 2]⟩, ⟨[9], []⟩, ⟨[7], []⟩, ⟨[10], []⟩]⟩)]⟩
def ft105 : FT := ⟨[0, 1, 2, 4, 5, 7, 8, 18, 26, 27, 28, 29, 44, 77, 82], []⟩
def ft106 : FT := ⟨[0, 1, 2, 3, 4, 5, 7, 10], [(1, ⟨[], [⟨[7], []⟩, ⟨[11], []⟩, ⟨[5], [0, 1]⟩, ⟨[3], [0, 1, 2]⟩, ⟨[4], [0, 1, 2, 3]⟩, ⟨[7], [0, 1, 2, 3, 4]⟩, ⟨[16], [0, 1, 2, 3, 4]⟩, ⟨[13, 14, 15, 17], [0, 1]⟩, ⟨[12, 18], []⟩, ⟨[1], [0, 1, 2, 3, 4, 5, 6, 7, 8]⟩, ⟨[20], [0, 1, 2, 3, 4, 5, 6, 7, 8]⟩, ⟨[1], [0, 1, 2, 3, 4, 5, 6, 7, 8, 9, 10]⟩, ⟨[19, 21, 22], []⟩, ⟨[23], []⟩]⟩)]⟩
def ft107 : FT := ⟨[0, 1, 3, 8, 18], []⟩
def ft108 : FT := ⟨[0, 1, 4, 5, 7, 8, 9, 16], []⟩
def ft109 : FT := ⟨[0, 1, 2, 6, 7, 8, 12, 34, 45], [(7, ⟨[], [⟨[0], []⟩, ⟨[8], [0]⟩, ⟨[35, 36], []⟩, ⟨[37], []⟩, ⟨[38], []⟩, ⟨[0], [0, 1, 2, 3, 4]⟩, ⟨[8], [0, 1, 2, 3, 4, 5]⟩, ⟨[40, 41], [0, 1, 2, 3, 4]⟩, ⟨[42], [0, 1, 2, 3, 4]⟩, ⟨[43], [0, 1, 2, 3, 4]⟩, ⟨[39, 44], []⟩]⟩)]⟩
def ft110 : FT := ⟨[0, 2, 3, 7, 11, 23, 45], []⟩
def ft111 : FT := ⟨[0, 1, 4, 5, 9, 17], []⟩
def ft112 : FT := ⟨[0, 1, 2, 3, 4, 8, 13, 32, 46], [(9, ⟨[], [⟨[3], []⟩, ⟨[33], []⟩, ⟨[34], []⟩, ⟨[4, 35], []⟩, ⟨[35, 36], []⟩, ⟨[1, 35], [3, 4]⟩, ⟨[35, 38], [3, 4]⟩, ⟨[3, 35], [3, 4, 5, 6]⟩, ⟨[35, 40], [3, 4, 5, 6]⟩, ⟨[35, 39, 41], [3, 4]⟩, ⟨[35, 42], [3, 4]⟩, ⟨[35, 43], [3, 4]⟩, ⟨[35, 37, 44], []⟩, ⟨[35, 45], []⟩]⟩)]⟩
def ft113 : FT := ⟨[0, 1, 2, 6], []⟩
def ft114 : FT := ⟨[], []⟩
def ft115 : FT := ⟨[], []⟩
def ft116 : FT := ⟨[], []⟩
def ft117 : FT := ⟨[], []⟩
def ft118 : FT := ⟨[], []⟩
def ft119 : FT := ⟨[], []⟩
def ft120 : FT := ⟨[], []⟩
def ft121 : FT := ⟨[], []⟩
def ft122 : FT := ⟨[], []⟩
def ft123 : FT := ⟨[], []⟩
def ft124 : FT := ⟨[], []⟩
def ft125 : FT := ⟨[], []⟩
def ft126 : FT := ⟨[], []⟩
def ft127 : FT := ⟨[], []⟩
def ft128 : FT := ⟨[], []⟩
def ft129 : FT := ⟨[], []⟩
end Go.PX

namespace Go.PX
open Go.Proofs

theorem fn83 (n b : Int) (hn : 0 ≤ n ∧ n ≤ 4000000000000000000) (hb : 0 < b ∧ b ≤ 1000000) : FnV Tryz.prog 62 [i64 n, i64 b] (i64 ((n + b - 1).tdiv b)) := by
  refine fnV_of mixed tysOk Tryz.func62 rfl (ft := ft62) 2 (by decide +kernel) rfl fun {σ} Y s => ?_
  conv => whnf
  refine arith_in (wrap_i64 (by omega)) ?_
  conv => whnf
  refine arith_in (wrap_i64 (by omega)) ?_
  conv => whnf
  refine chk_i (by simp; omega) ?_
  conv => whnf
  refine arith_in (wrap_i64 ?_) ?_
  · have h1 : 0 ≤ (n + b - 1).tdiv b := Int.tdiv_nonneg (by omega) (by omega)
    have h2 : (n + b - 1).tdiv b ≤ n + b - 1 := by
      rw [Int.tdiv_eq_ediv_of_nonneg (by omega)]; exact Int.ediv_le_self _ (by omega)
    omega
  conv => whnf
  exact RetA_view 0 rfl ⟨⟨rfl, rfl⟩, rfl⟩
end Go.PX

namespace Go.PX
open Go.Proofs
def intsD (l : List Int) : D := .vs (l.map fun n => [i64 n])

theorem fn79 (l : List Int) (n : Int) (hl : l.length < 4000000000000000000) : FnV Tryz.prog 90 [intsD l, i64 n] (.bool (decide (n ∈ l))) := by
  refine fnV_of mixed tysOk Tryz.func90 rfl (ft := ft90) 2 (by decide +kernel) rfl fun {σ} Y s => ?_
  conv => whnf
  refine LoopA_p (T := tys) tysOk (by exact drawsB_spec mixed tysOk (by decide +kernel)) (α := Nat)
    (fun i => ⟨[(0, .d (intsD l)), (1, .d (i64 n)), (4, .d (.bool false)), (5, .d (i64 i))], [], s⟩) (fun i => i ≤ l.length ∧ n ∉ l.take i) (fun i => l.length - i) 0 (Wk.sub ⟨rfl, rfl, rfl, rfl, trivial⟩ trivial) (by simp) ?_
  rintro i ⟨hi, hn⟩
  conv => whnf
  refine brk_i (fun hb => ?_) (fun hb => ?_)
  · have hb : i < l.length := by simpa using hb
    conv => whnf
    refine elemK_i [i64 l[i]] (by simp [hb]) ?_
    conv => whnf
    refine brk_i (fun hc => ?_) (fun hc => ?_)
    · have hc : l[i] = n := by simpa using hc
      conv => whnf
      have hm : n ∈ l := hc ▸ List.getElem_mem hb
      rw [decide_eq_true hm]
      exact RetA_view 0 rfl ⟨⟨rfl, rfl⟩, rfl⟩
    · have hc : l[i] ≠ n := by simpa using hc
      conv => whnf
      refine arith_in (wrap_i64 (by omega)) ?_
      conv => whnf
      refine ⟨i + 1, ?_, ⟨hb, ?_⟩, Wk.sub ⟨rfl, rfl, rfl, rfl, trivial⟩ trivial⟩
      · show l.length - (i + 1) < l.length - i; omega
      · rw [List.take_succ_eq_append_getElem hb, List.mem_append]
        rintro (h | h)
        · exact hn h
        · exact hc (by simpa using (List.mem_singleton.1 h).symm)
  · have hb : ¬ i < l.length := by simpa using hb
    conv => whnf
    have hm : n ∉ l := by
      rw [List.take_of_length_le (by omega)] at hn; exact hn
    rw [decide_eq_false hm]
    exact RetA_view 0 rfl ⟨⟨rfl, rfl⟩, rfl⟩
end Go.PX

namespace Go.PX
open Go.Proofs
/-- Is a number from lo to hi? -/
def inB (n lo hi : Int) : Bool := decide (lo ≤ n) && decide (n ≤ hi)

theorem fn118 (n lo hi : Int) : FnV Tryz.prog 113 [i64 n, i64 lo, i64 hi] (.bool (inB n lo hi)) := by
  refine fnV_of mixed tysOk Tryz.func113 rfl (ft := ft113) 3 (by decide +kernel) rfl fun {σ} Y s => ?_
  conv => whnf
  refine brk_i (fun hb => ?_) (fun hb => ?_)
  · conv => whnf
    refine RetA_view 0 rfl ⟨⟨?_, rfl⟩, rfl⟩
    simp [packD, inB] at hb ⊢; simp [hb]
  · conv => whnf
    refine RetA_view 0 rfl ⟨⟨?_, rfl⟩, rfl⟩
    simp [packD, inB] at hb ⊢; omega

theorem fn55 (n lo hi : Int) : FnV Tryz.prog 60 [i64 n, i64 lo, i64 hi] (.bool (inB n lo hi)) := by
  refine fnV_of mixed tysOk Tryz.func60 rfl (ft := ft60) 3 (by decide +kernel) rfl fun {σ} Y s => ?_
  conv => whnf
  refine brk_i (fun hb => ?_) (fun hb => ?_)
  · conv => whnf
    refine RetA_view 0 rfl ⟨⟨?_, rfl⟩, rfl⟩
    simp [packD, inB] at hb ⊢; simp [hb]
  · conv => whnf
    refine RetA_view 0 rfl ⟨⟨?_, rfl⟩, rfl⟩
    simp [packD, inB] at hb ⊢; omega

structure Span where
  lo : Int
  hi : Int
  deriving DecidableEq
def Span.cells (s : Span) : List D := [i64 s.lo, i64 s.hi]
def Span.d (s : Span) : D := .agg s.cells
def spansD (l : List Span) : D := .vs (l.map Span.cells)

/-- ErrRange, ErrArg, OK of spans. -/
def spread (lo hi : Int) : List Span → Int → Int
  | [], e => e
  | s :: r, e => if inB s.lo lo hi && inB s.hi lo hi then spread lo hi r (if s.lo > s.hi then 2 else e) else 7

theorem fn111 (l : List Span) (lo hi : Int) (hl : l.length < 4000000000000000000) : FnV Tryz.prog 109 [spansD l, i64 lo, i64 hi] (i64 (spread lo hi l 0)) := by
  refine fnV_of mixed tysOk Tryz.func109 rfl (ft := ft109) 3 (by decide +kernel) rfl fun {σ} Y s => ?_
  conv => whnf
  refine LoopA_p (T := tys) tysOk (by exact drawsB_spec mixed tysOk (by decide +kernel)) (α := Nat × Int)
    (fun x => ⟨[(0, .d (spansD l)), (1, .d (i64 lo)), (2, .d (i64 hi)), (7, .d (i64 x.2)), (8, .d (i64 x.1))], [], s⟩) (fun x => x.1 ≤ l.length ∧ spread lo hi l 0 = spread lo hi (l.drop x.1) x.2) (fun x => l.length - x.1) (0, 0)
    (Wk.sub ⟨rfl, rfl, rfl, rfl, rfl, trivial⟩ trivial) (by simp) ?_
  rintro ⟨i, e⟩ ⟨hi', he⟩
  simp only at hi' he
  conv => whnf
  refine brk_i (fun hb => ?_) (fun hb => ?_)
  · have hb : i < l.length := by simpa using hb
    have hd : l.drop i = l[i] :: l.drop (i + 1) := List.drop_eq_getElem_cons hb
    rw [hd, spread] at he
    have step : ∀ {st' : St σ} {e' : Int}, (inB l[i].lo lo hi && inB l[i].hi lo hi) = true → e' = (if l[i].lo > l[i].hi then 2 else e) → Wk st' ⟨[(0, .d (spansD l)), (1, .d (i64 lo)), (2, .d (i64 hi)), (7, .d (i64 e')), (8, .d (i64 ((i : Int) + 1)))], [], s⟩ →
        ∃ y : Nat × Int, l.length - y.1 < l.length - i ∧ (y.1 ≤ l.length ∧ spread lo hi l 0 = spread lo hi (l.drop y.1) y.2) ∧ Wk st' ⟨[(0, .d (spansD l)), (1, .d (i64 lo)), (2, .d (i64 hi)), (7, .d (i64 y.2)), (8, .d (i64 y.1))], [], s⟩ := by
      intro st' e' h1 h2 h3
      rw [if_pos h1] at he
      exact ⟨(i + 1, e'), by simp only; omega, ⟨hb, by rw [he, h2]⟩, by simpa using h3⟩
    conv => whnf
    refine elemK_i l[i].cells (by simp [hb]) ?_
    conv => whnf
    refine CallA_v (fn118 _ _ _) rfl rfl ?_
    conv => whnf
    refine brk_i (fun h1 => ?_) (fun h1 => ?_)
    · -- the lower end is wrong
      conv => whnf
      rw [if_neg (by simp at h1; simp [h1])] at he
      rw [he]
      exact RetA_view 0 rfl ⟨⟨rfl, rfl⟩, rfl⟩
    · conv => whnf
      refine elemK_i l[i].cells (by simp [hb]) ?_
      conv => whnf
      refine CallA_v (fn118 _ _ _) rfl rfl ?_
      conv => whnf
      refine brk_i (fun h2 => ?_) (fun h2 => ?_)
      · conv => whnf
        rw [if_neg (by simp at h2; simp [h2])] at he
        rw [he]
        exact RetA_view 0 rfl ⟨⟨rfl, rfl⟩, rfl⟩
      · conv => whnf
        refine elemK_i l[i].cells (by simp [hb]) ?_
        conv => whnf
        refine elemK_i l[i].cells (by simp [hb]) ?_
        conv => whnf
        have hin : (inB l[i].lo lo hi && inB l[i].hi lo hi) = true := by simp at h1 h2; simp [h1, h2]
        refine brk_i (fun h3 => ?_) (fun h3 => ?_)
        · conv => whnf
          refine arith_in (wrap_i64 (by omega)) ?_
          conv => whnf
          exact step hin (by simp at h3; rw [if_pos h3]) (Wk.sub ⟨rfl, rfl, rfl, rfl, rfl, trivial⟩ trivial)
        · conv => whnf
          refine arith_in (wrap_i64 (by omega)) ?_
          conv => whnf
          exact step hin (by simp at h3; rw [if_neg (by omega)]) (Wk.sub ⟨rfl, rfl, rfl, rfl, rfl, trivial⟩ trivial)
  · have hb : ¬ i < l.length := by simpa using hb
    conv => whnf
    rw [List.drop_of_length_le (by omega)] at he
    simp only [spread] at he
    rw [he]
    exact RetA_view 0 rfl ⟨⟨rfl, rfl⟩, rfl⟩
end Go.PX

namespace Go.PX
open Go.Proofs

theorem fn87 (n lo hi : Int) : FnV Tryz.prog 69 [i64 n, .ref [i64 lo], .ref [i64 hi]] (.bool (decide (n < lo) || decide (n > hi))) := by
  refine fnV_of mixed tysOk Tryz.func69 rfl (ft := ft69) 3 (by decide +kernel) rfl fun {σ} Y s => ?_
  conv => whnf
  refine brk_i (fun hb => ?_) (fun hb => ?_)
  · conv => whnf
    refine RetA_view 0 rfl ⟨⟨?_, rfl⟩, rfl⟩
    have hb : n < lo := by simpa using hb
    simp [packD, hb]
  · conv => whnf
    refine RetA_view 0 rfl ⟨⟨?_, rfl⟩, rfl⟩
    have hb : ¬ n < lo := by simpa using hb
    simp [packD, hb]

/-- The index of the first one that is wanted; -1: none is. -/
def indexOf {α : Type} (p : α → Bool) : List α → Int → Int
  | [], _ => -1
  | x :: r, i => if p x then i else indexOf p r (i + 1)

theorem indexOf_any {α : Type} (p : α → Bool) : ∀ (l : List α) (i : Int), 0 ≤ i → decide (indexOf p l i ≥ 0) = l.any p
  | [], i, _ => by simp [indexOf]
  | x :: r, i, h => by
    simp only [indexOf, List.any_cons]
    split
    · rename_i hp; simp [hp, h]
    · rename_i hp
      rw [indexOf_any p r (i + 1) (by omega)]
      simp [hp]

theorem fn109 (l : List Int) (g : FuncId) (caps : List D) (p : Int → Bool) (hl : l.length < 4000000000000000000) (hp : ∀ x ∈ l, FnV Tryz.prog g (i64 x :: caps) (.bool (p x))) :
    FnV Tryz.prog 96 [intsD l, .clo g caps] (i64 (indexOf p l 0)) := by
  refine fnV_of mixed tysOk Tryz.func96 rfl (ft := ft96) 2 (by decide +kernel) rfl fun {σ} Y s => ?_
  conv => whnf
  refine LoopA_p (T := tys) tysOk (by exact drawsB_spec mixed tysOk (by decide +kernel)) (α := Nat)
    (fun i => ⟨[(0, .d (intsD l)), (1, .d (.clo g caps)), (7, .d (i64 l.length)), (8, .d (i64 i))], [], s⟩) (fun i => i ≤ l.length ∧ indexOf p l 0 = indexOf p (l.drop i) i) (fun i => l.length - i) 0
    (Wk.sub ⟨rfl, rfl, by simp [PX.get], rfl, trivial⟩ trivial) (by simp) ?_
  rintro i ⟨hi, he⟩
  conv => whnf
  refine brk_i (fun hb => ?_) (fun hb => ?_)
  · have hb : i < l.length := by simpa using hb
    have hd : l.drop i = l[i] :: l.drop (i + 1) := List.drop_eq_getElem_cons hb
    rw [hd, indexOf] at he
    conv => whnf
    refine elemK_i [i64 l[i]] (by simp [hb]) ?_
    conv => whnf
    refine CallA_v (ds := i64 l[i] :: caps) (hp _ (List.getElem_mem hb)) rfl rfl ?_
    conv => whnf
    refine brk_i (fun h1 => ?_) (fun h1 => ?_)
    · conv => whnf
      rw [if_pos h1] at he
      rw [he]
      exact RetA_view 0 rfl ⟨⟨rfl, rfl⟩, rfl⟩
    · conv => whnf
      rw [if_neg (by simp [h1])] at he
      refine arith_in (wrap_i64 (by omega)) ?_
      conv => whnf
      exact ⟨i + 1, by omega, ⟨hb, by rw [he]; rfl⟩, Wk.sub ⟨rfl, rfl, rfl, rfl, trivial⟩ trivial⟩
  · have hb : ¬ i < l.length := by simpa using hb
    conv => whnf
    rw [List.drop_of_length_le (by omega)] at he
    rw [he]
    exact RetA_view 0 rfl ⟨⟨rfl, rfl⟩, rfl⟩

theorem fn86 (l : List Int) (g : FuncId) (caps : List D) (p : Int → Bool) (hl : l.length < 4000000000000000000) (hp : ∀ x ∈ l, FnV Tryz.prog g (i64 x :: caps) (.bool (p x))) :
    FnV Tryz.prog 68 [intsD l, .clo g caps] (.bool (l.any p)) := by
  refine fnV_of mixed tysOk Tryz.func68 rfl (ft := ft68) 2 (by decide +kernel) rfl fun {σ} Y s => ?_
  conv => whnf
  refine CallA_v (fn109 l g caps p hl hp) rfl rfl ?_
  conv => whnf
  refine RetA_view 0 rfl ⟨⟨?_, rfl⟩, rfl⟩
  rw [← indexOf_any p l 0 (by omega)]; rfl

theorem fn51 (lo hi : Int) (l : List Int) (hl : l.length < 4000000000000000000) : FnV Tryz.prog 37 [i64 lo, i64 hi, intsD l] (.bool (l.any fun n => decide (n < lo) || decide (n > hi))) := by
  refine fnV_of mixed tysOk Tryz.func37 rfl (ft := ft37) 3 (by decide +kernel) rfl fun {σ} Y s => ?_
  conv => whnf
  refine CallA_view (fn86 l 69 [.ref [i64 lo], .ref [i64 hi]] (fun n => decide (n < lo) || decide (n > hi)) hl fun x _ => fn87 x lo hi) rfl 1 rfl ?_
  conv => whnf
  exact RetA_view 0 rfl ⟨⟨rfl, rfl⟩, rfl⟩
end Go.PX

namespace Go.PX
open Go.Proofs

theorem take_map {α β : Type} (f : α → β) (l : List α) : (l.map f).take l.length = l.map f := by rw [List.take_of_length_le (by simp)]

structure Gauge where
  day : Int
  shown : Int
  deriving DecidableEq
def Gauge.cells (g : Gauge) : List D := [i64 g.day, i64 g.shown]
def gaugesD (l : List Gauge) : D := .vs (l.map Gauge.cells)

/-- What is left without the ones of these numbers. -/
def withoutF {α : Type} (out : List Int) : List α → Int → List α
  | [], _ => []
  | x :: r, i => if i ∈ out then withoutF out r (i + 1) else x :: withoutF out r (i + 1)

end Go.PX

namespace Go.PX
open Go.Proofs

theorem mul_bd {a b : Int} (A B : Nat) (ha : -(A : Int) ≤ a ∧ a ≤ A) (hb : -(B : Int) ≤ b ∧ b ≤ B) : -((A * B : Nat) : Int) ≤ a * b ∧ a * b ≤ ((A * B : Nat) : Int) := by
  have h1 : a.natAbs ≤ A := by omega
  have h2 : b.natAbs ≤ B := by omega
  have h3 : (a * b).natAbs ≤ A * B := by rw [Int.natAbs_mul]; exact Nat.mul_le_mul h1 h2
  omega

structure Shot where
  name : ByteArray
  links : Int
  set : Int
  new : Span
  wear : Span
  gauges : List Gauge
def Shot.cells (s : Shot) : List D := [.str s.name, i64 s.links, i64 s.set, i64 s.new.lo, i64 s.new.hi, i64 s.wear.lo, i64 s.wear.hi, gaugesD s.gauges]
def Shot.d (s : Shot) : D := .agg s.cells
def Gauge.d (g : Gauge) : D := .agg g.cells

/-- A number of everyday size. -/
def bd (n : Int) : Prop := -1000000000 ≤ n ∧ n ≤ 1000000000

def onF (set fresh wear day : Int) : Int := max 0 (fresh - wear * (day - set))

theorem fn30 (s : Shot) (fresh wear day : Int) (h1 : bd fresh) (h2 : bd wear) (h3 : bd day) (h4 : bd s.set) : FnV Tryz.prog 94 [s.d, i64 fresh, i64 wear, i64 day] (i64 (onF s.set fresh wear day)) := by
  refine fnV_of mixed tysOk Tryz.func94 rfl (ft := ft94) 4 (by decide +kernel) (by rfl) fun {σ} Y st => ?_
  unfold bd at *
  have hm := mul_bd (a := wear) (b := day - s.set) 1000000000 2000000000 (by omega) (by omega)
  conv => whnf
  refine arith_in (wrap_i64 (by omega)) ?_
  conv => whnf
  refine arith_in (wrap_i64 (by omega)) ?_
  conv => whnf
  refine arith_in (wrap_i64 (by omega)) ?_
  conv => whnf
  exact RetA_view 0 rfl ⟨⟨rfl, rfl⟩, rfl⟩

theorem onF_bd {set fresh wear day : Int} (h1 : bd fresh) (h2 : bd wear) (h3 : bd day) (h4 : bd set) : 0 ≤ onF set fresh wear day ∧ onF set fresh wear day ≤ 2000000001000000000 := by
  unfold bd at h1 h2 h3 h4
  have hm := mul_bd (a := wear) (b := day - set) 1000000000 2000000000 (by omega) (by omega)
  unfold onF; omega

theorem fn116 (s : Shot) (off : Int) (g : Gauge) (fresh wear : Int) (h1 : bd fresh) (h2 : bd wear) (h3 : bd g.day) (h4 : bd s.set) (h5 : bd g.shown) (h6 : bd off) :
    FnV Tryz.prog 106 [s.d, i64 off, g.d, i64 fresh, i64 wear] (.bool (inB (g.shown - onF s.set fresh wear g.day) (-off) off)) := by
  refine fnV_of mixed tysOk Tryz.func106 rfl (ft := ft106) 5 (by decide +kernel) (by rfl) fun {σ} Y st => ?_
  have hb := onF_bd h1 h2 h3 h4
  have h5' := h5
  have h6' := h6
  unfold bd at h5' h6'
  conv => whnf
  refine DrawCall_v (ds := [s.d, i64 fresh, i64 wear, i64 g.day]) (fn30 s fresh wear g.day h1 h2 h3 h4) rfl rfl ?_
  conv => whnf
  refine arith_in (wrap_i64 (by omega)) ?_
  conv => whnf
  refine arith_in (wrap_i64 (by omega)) ?_
  conv => whnf
  refine DrawCall_v (fn55 _ _ _) rfl rfl ?_
  conv => whnf
  refine RetA_view 0 rfl ⟨⟨?_, rfl⟩, rfl⟩
  simp [packD]

theorem fn101 (n b : Int) (hn : 0 ≤ n ∧ n ≤ 4000000000000000000) (hb : 0 < b ∧ b ≤ 1000000) : FnV Tryz.prog 58 [i64 n, i64 b] (i64 ((n + b - 1).tdiv b)) := by
  refine fnV_of mixed tysOk Tryz.func58 rfl (ft := ft58) 2 (by decide +kernel) (by rfl) fun {σ} Y s => ?_
  conv => whnf
  refine arith_in (wrap_i64 (by omega)) ?_
  conv => whnf
  refine arith_in (wrap_i64 (by omega)) ?_
  conv => whnf
  refine chk_i (by simp; omega) ?_
  conv => whnf
  refine arith_in (wrap_i64 ?_) ?_
  · have h1 : 0 ≤ (n + b - 1).tdiv b := Int.tdiv_nonneg (by omega) (by omega)
    have h2 : (n + b - 1).tdiv b ≤ n + b - 1 := by
      rw [Int.tdiv_eq_ediv_of_nonneg (by omega)]; exact Int.ediv_le_self _ (by omega)
    omega
  conv => whnf
  exact RetA_view 0 rfl ⟨⟨rfl, rfl⟩, rfl⟩

def strongF (thick : Int) : Int := (thick * thick).tdiv 20000

theorem fn67 (n : Int) (hn : bd n) : FnV Tryz.prog 66 [i64 n] (i64 (strongF n)) := by
  refine fnV_of mixed tysOk Tryz.func66 rfl (ft := ft66) 1 (by decide +kernel) (by rfl) fun {σ} Y s => ?_
  unfold bd at hn
  have hm := mul_bd (a := n) (b := n) 1000000000 1000000000 (by omega) (by omega)
  have h0 : 0 ≤ n * n := by
    rcases Int.le_total 0 n with h | h
    · exact Int.mul_nonneg h h
    · exact Int.mul_nonneg_of_nonpos_of_nonpos h h
  have hq : 0 ≤ (n * n).tdiv 20000 ∧ (n * n).tdiv 20000 ≤ n * n := ⟨Int.tdiv_nonneg h0 (by omega), by
    rw [Int.tdiv_eq_ediv_of_nonneg h0]; exact Int.ediv_le_self _ h0⟩
  conv => whnf
  refine arith_in (wrap_i64 (by omega)) ?_
  conv => whnf
  refine arith_in (wrap_i64 (by omega)) ?_
  conv => whnf
  exact RetA_view 0 rfl ⟨⟨rfl, rfl⟩, rfl⟩

theorem fn69 (n : Int) (hn : bd n) : FnV Tryz.prog 67 [i64 n] (i64 (strongF n)) := by
  refine fnV_of mixed tysOk Tryz.func67 rfl (ft := ft67) 1 (by decide +kernel) (by rfl) fun {σ} Y s => ?_
  unfold bd at hn
  have hm := mul_bd (a := n) (b := n) 1000000000 1000000000 (by omega) (by omega)
  have h0 : 0 ≤ n * n := by
    rcases Int.le_total 0 n with h | h
    · exact Int.mul_nonneg h h
    · exact Int.mul_nonneg_of_nonpos_of_nonpos h h
  have hq : 0 ≤ (n * n).tdiv 20000 ∧ (n * n).tdiv 20000 ≤ n * n := ⟨Int.tdiv_nonneg h0 (by omega), by
    rw [Int.tdiv_eq_ediv_of_nonneg h0]; exact Int.ediv_le_self _ h0⟩
  conv => whnf
  refine arith_in (wrap_i64 (by omega)) ?_
  conv => whnf
  refine arith_in (wrap_i64 (by omega)) ?_
  conv => whnf
  exact RetA_view 0 rfl ⟨⟨rfl, rfl⟩, rfl⟩
end Go.PX

namespace Go.PX
open Go.Proofs

/-- What a gauging leaves of the numbers of New. -/
def fitStep (set off wear : Int) (p : Int × Int) (g : Gauge) : Option (Int × Int) :=
  let lost := wear * (g.day - set)
  let lo := if g.shown > off then max p.1 (g.shown - off + lost) else p.1
  let hi := min p.2 (g.shown + off + lost)
  if lo > hi then none else some (lo, hi)

def fitsF (set off wear : Int) : Int × Int → List Gauge → Option (Int × Int)
  | p, [] => some p
  | p, g :: r => match fitStep set off wear p g with
    | none => none
    | some q => fitsF set off wear q r

def fitSpan : Option (Int × Int) → Span
  | some p => ⟨p.1, p.2⟩
  | none => ⟨1, 0⟩

def gaugeOk (g : Gauge) : Prop := 0 ≤ g.day ∧ g.day ≤ 1000000 ∧ 0 ≤ g.shown ∧ g.shown ≤ 1000000

theorem fn95 (s : Shot) (off : Int) (gs : List Gauge) (wear : Int) (ho : 0 ≤ off ∧ off ≤ 1000000) (hw : 0 ≤ wear ∧ wear ≤ 1000000) (hs : 0 ≤ s.set ∧ s.set ≤ 1000000) (hn : 0 ≤ s.new.lo ∧ s.new.lo ≤ 1000000 ∧ 0 ≤ s.new.hi ∧ s.new.hi ≤ 1000000 ∧ s.new.lo ≤ s.new.hi)
    (hg : ∀ g ∈ gs, gaugeOk g) (hl : gs.length < 1000000) : FnV Tryz.prog 93 [s.d, i64 off, gaugesD gs, i64 wear] (fitSpan (fitsF s.set off wear (s.new.lo, s.new.hi) gs)).d := by
  refine fnV_of mixed tysOk Tryz.func93 rfl (ft := ft93) 4 (by decide +kernel) (by rfl) fun {σ} Y st => ?_
  conv => whnf
  refine LoopA_p (T := tys) tysOk (by exact drawsB_spec mixed tysOk (by decide +kernel)) (α := Nat × (Int × Int))
    (fun x => ⟨[(1, .d (i64 off)), (2, .d (gaugesD gs)), (3, .d (i64 wear)), (4, .ptr 4 0), (8, .ptr 8 0), (9, .ptr 9 0), (10, .d (i64 x.1))], [(4, .box (.dd s.cells)), (8, .box (.dd [i64 0, i64 0])), (9, .box (.dd [i64 x.2.1, i64 x.2.2]))], st⟩)
    (fun x => x.1 ≤ gs.length ∧ (0 ≤ x.2.1 ∧ x.2.1 ≤ x.2.2 ∧ x.2.2 ≤ 1000000) ∧ fitsF s.set off wear (s.new.lo, s.new.hi) gs = fitsF s.set off wear x.2 (gs.drop x.1)) (fun x => gs.length - x.1) (0, (s.new.lo, s.new.hi))
    (Wk.sub ⟨rfl, rfl, rfl, rfl, rfl, rfl, rfl, trivial⟩ ⟨rfl, rfl, rfl, trivial⟩) (by simp; omega) ?_
  rintro ⟨i, L0, H0⟩ ⟨hi, hb0, he⟩
  simp only at hi hb0 he
  conv => whnf
  refine brk_i (fun hb => ?_) (fun hb => ?_)
  · have hb : i < gs.length := by simpa using hb
    obtain ⟨g, hgg⟩ : ∃ g, gs[i]? = some g := ⟨_, List.getElem?_eq_getElem hb⟩
    have hd : gs.drop i = g :: gs.drop (i + 1) := by
      rw [List.drop_eq_getElem_cons hb]
      rw [List.getElem?_eq_getElem hb] at hgg
      rw [Option.some.inj hgg]
    have hgi := hg g (List.mem_of_getElem? hgg)
    unfold gaugeOk at hgi
    rw [hd, fitsF] at he
    have hlost := mul_bd (a := wear) (b := g.day - s.set) 1000000 1000000 (by omega) (by omega)
    -- how far a day is, and the two ends
    obtain ⟨lost, hlo⟩ : ∃ lost, lost = wear * (g.day - s.set) := ⟨_, rfl⟩
    have hon : ∀ x, onF s.set x wear g.day = max 0 (x - lost) := fun x => by rw [hlo]; rfl
    rw [← hlo] at hlost
    obtain ⟨least, hle⟩ : ∃ l, l = min (if g.shown > off then max L0 (g.shown - off + lost) else L0) (H0 + 1) := ⟨_, rfl⟩
    obtain ⟨great, hgr⟩ : ∃ l, l = max (least - 1) (min H0 (g.shown + off + lost)) := ⟨_, rfl⟩
    conv => whnf
    refine elemK_i g.cells (by simp [hgg]) ?_
    conv => whnf
    refine arith_in (wrap_i64 (by (try dsimp only); omega)) ?_
    conv => whnf
    refine LoopA_p (T := tys) tysOk (by exact drawsB_spec mixed tysOk (by decide +kernel)) (α := Int × Int)
      (fun x => ⟨[(1, .d (i64 off)), (2, .d (gaugesD gs)), (3, .d (i64 wear)), (4, .ptr 4 0), (8, .ptr 8 0), (9, .ptr 9 0), (10, .d (i64 i)), (11, .ptr 11 0), (12, .d (i64 x.1)), (13, .d (i64 x.2))],
        [(4, .box (.dd s.cells)), (8, .box (.dd [i64 0, i64 0])), (9, .box (.dd [i64 L0, i64 H0])), (11, .box (.dd g.cells))], st⟩)
      (fun x => L0 ≤ x.1 ∧ x.1 ≤ least ∧ least ≤ x.2 ∧ x.2 ≤ H0 + 1) (fun x => (x.2 - x.1).toNat) (L0, H0 + 1)
      (Wk.sub ⟨rfl, rfl, rfl, rfl, rfl, rfl, rfl, rfl, rfl, rfl, trivial⟩ ⟨rfl, rfl, rfl, rfl, trivial⟩) (by simp only; split at hle <;> omega) ?_
    · rintro ⟨low, high⟩ hinv
      simp only at hinv
      conv => whnf
      refine brk_i (fun hc => ?_) (fun hc => ?_)
      · have hc : low < high := by simpa using hc
        conv => whnf
        refine arith_in (wrap_i64 (by (try dsimp only); omega)) ?_
        conv => whnf
        have hmid : (low + high).tdiv 2 = (low + high) / 2 := Int.tdiv_eq_ediv_of_nonneg (by omega)
        refine arith_in (wrap_i64 (by rw [hmid]; omega)) ?_
        conv => whnf
        rw [hmid]
        obtain ⟨mid, hm⟩ : ∃ m, m = (low + high) / 2 := ⟨_, rfl⟩
        rw [← hm]
        refine DrawCall_v (ds := [s.d, i64 mid, i64 wear, i64 g.day]) (fn30 s mid wear g.day (by unfold bd; omega) (by unfold bd; omega) (by unfold bd; omega) (by unfold bd; omega)) rfl rfl ?_
        conv => whnf
        refine arith_in (wrap_i64 (by (try dsimp only); omega)) ?_
        conv => whnf
        rw [hon]
        refine brk_i (fun h1 => ?_) (fun h1 => ?_)
        · have h1 : g.shown - off ≤ max 0 (mid - lost) := by simpa using h1
          conv => whnf
          exact ⟨(low, mid), by simp only; omega, by simp only; split at hle <;> omega, Wk.sub ⟨rfl, rfl, rfl, rfl, rfl, rfl, rfl, rfl, rfl, rfl, trivial⟩ ⟨rfl, rfl, rfl, rfl, trivial⟩⟩
        · have h1 : ¬ g.shown - off ≤ max 0 (mid - lost) := by simpa using h1
          conv => whnf
          refine arith_in (wrap_i64 (by (try dsimp only); omega)) ?_
          conv => whnf
          exact ⟨(mid + 1, high), by simp only; omega, by simp only; split at hle <;> omega, Wk.sub ⟨rfl, rfl, rfl, rfl, rfl, rfl, rfl, rfl, rfl, rfl, trivial⟩ ⟨rfl, rfl, rfl, rfl, trivial⟩⟩
      · have hc : ¬ low < high := by simpa using hc
        have hlow : low = least := by omega
        conv => whnf
        refine arith_in (wrap_i64 (by (try dsimp only); omega)) ?_
        conv => whnf
        refine LoopA_p (T := tys) tysOk (by exact drawsB_spec mixed tysOk (by decide +kernel)) (α := Int × Int)
          (fun x => ⟨[(1, .d (i64 off)), (2, .d (gaugesD gs)), (3, .d (i64 wear)), (4, .ptr 4 0), (8, .ptr 8 0), (9, .ptr 9 0), (10, .d (i64 i)), (11, .ptr 11 0), (12, .d (i64 x.1)), (13, .d (i64 x.2)), (15, .d (i64 least))],
            [(4, .box (.dd s.cells)), (8, .box (.dd [i64 0, i64 0])), (9, .box (.dd [i64 L0, i64 H0])), (11, .box (.dd g.cells))], st⟩)
          (fun x => least - 1 ≤ x.1 ∧ x.1 ≤ great ∧ great ≤ x.2 ∧ x.2 ≤ H0 ∨ x.1 = least - 1 ∧ x.2 = H0 ∧ great = least - 1 ∧ H0 = least - 1) (fun x => (x.2 - x.1).toNat) (least - 1, H0)
          (Wk.sub ⟨rfl, rfl, rfl, rfl, rfl, rfl, rfl, rfl, by simp [PX.get, hlow], rfl, by simp [PX.get, hlow], trivial⟩ ⟨rfl, rfl, rfl, rfl, trivial⟩) (by simp only; omega) ?_
        rintro ⟨low2, high2⟩ hinv2
        simp only at hinv2
        conv => whnf
        refine brk_i (fun hc2 => ?_) (fun hc2 => ?_)
        · have hc2 : low2 < high2 := by simpa using hc2
          conv => whnf
          refine arith_in (wrap_i64 (by (try dsimp only); omega)) ?_
          conv => whnf
          refine arith_in (wrap_i64 (by (try dsimp only); omega)) ?_
          conv => whnf
          have hmid : (low2 + high2 + 1).tdiv 2 = (low2 + high2 + 1) / 2 := Int.tdiv_eq_ediv_of_nonneg (by omega)
          refine arith_in (wrap_i64 (by (try dsimp only); rw [hmid]; omega)) ?_
          conv => whnf
          rw [hmid]
          obtain ⟨mid, hm⟩ : ∃ m, m = (low2 + high2 + 1) / 2 := ⟨_, rfl⟩
          rw [← hm]
          refine DrawCall_v (ds := [s.d, i64 mid, i64 wear, i64 g.day]) (fn30 s mid wear g.day (by unfold bd; omega) (by unfold bd; omega) (by unfold bd; omega) (by unfold bd; omega)) rfl rfl ?_
          conv => whnf
          refine arith_in (wrap_i64 (by (try dsimp only); omega)) ?_
          conv => whnf
          rw [hon]
          refine brk_i (fun h1 => ?_) (fun h1 => ?_)
          · have h1 : max 0 (mid - lost) ≤ g.shown + off := by simpa using h1
            conv => whnf
            exact ⟨(mid, high2), by simp only; omega, by simp only; omega, Wk.sub ⟨rfl, rfl, rfl, rfl, rfl, rfl, rfl, rfl, rfl, rfl, rfl, trivial⟩ ⟨rfl, rfl, rfl, rfl, trivial⟩⟩
          · have h1 : ¬ max 0 (mid - lost) ≤ g.shown + off := by simpa using h1
            conv => whnf
            refine arith_in (wrap_i64 (by (try dsimp only); omega)) ?_
            conv => whnf
            exact ⟨(low2, mid - 1), by simp only; omega, by simp only; omega, Wk.sub ⟨rfl, rfl, rfl, rfl, rfl, rfl, rfl, rfl, rfl, rfl, rfl, trivial⟩ ⟨rfl, rfl, rfl, rfl, trivial⟩⟩
        · have hc2 : ¬ low2 < high2 := by simpa using hc2
          have hlow2 : low2 = great := by omega
          conv => whnf
          refine brk_i (fun h1 => ?_) (fun h1 => ?_)
          · have h1 : great < least := by rw [← hlow2]; simpa using h1
            have hnone : fitStep s.set off wear (L0, H0) g = none := by
              unfold fitStep
              simp only [← hlo]
              rw [if_pos]
              split at hle <;> simp_all <;> omega
            rw [hnone] at he
            simp only at he
            conv => whnf
            rw [he]
            exact RetA_view 0 rfl ⟨⟨rfl, rfl⟩, rfl⟩
          · have h1 : ¬ great < least := by rw [← hlow2]; simpa using h1
            have hsome : fitStep s.set off wear (L0, H0) g = some (least, great) := by
              unfold fitStep
              simp only [← hlo]
              rw [if_neg]
              · congr 2 <;> (split at hle <;> simp_all <;> omega)
              · split at hle <;> simp_all <;> omega
            rw [hsome] at he
            simp only at he
            conv => whnf
            refine CallA_v (ds := [s.d, i64 off, g.d, i64 least, i64 wear]) (fn116 s off g least wear (by unfold bd; omega) (by unfold bd; omega) (by unfold bd; omega) (by unfold bd; omega) (by unfold bd; omega) (by unfold bd; omega)) rfl rfl ?_
            conv => whnf
            refine brk_i (fun h2 => ?_) (fun h2 => ?_)
            · exfalso
              rw [hon] at h2
              simp only [inB, Bool.not_eq_true', Bool.and_eq_false_iff, decide_eq_false_iff_not] at h2
              split at hle <;> omega
            · conv => whnf
              refine arith_in (wrap_i64 (by (try dsimp only); omega)) ?_
              conv => whnf
              exact ⟨(i + 1, (least, great)), by simp only; omega, ⟨hb, by simp only; split at hle <;> omega, he⟩, Wk.sub ⟨rfl, rfl, rfl, rfl, rfl, rfl, rfl, trivial⟩ ⟨rfl, rfl, by simp [PX.get, hlow2, Cells.splice, V.cells], trivial⟩⟩
  · have hb : ¬ i < gs.length := by simpa using hb
    conv => whnf
    rw [List.drop_of_length_le (by omega)] at he
    simp only [fitsF] at he
    rw [he]
    exact RetA_view 0 rfl ⟨⟨rfl, rfl⟩, rfl⟩
end Go.PX

namespace Go.PX
open Go.Proofs

theorem fitStep_le {set off wear : Int} {p q : Int × Int} {g : Gauge} (h : fitStep set off wear p g = some q) : p.1 ≤ q.1 ∧ q.1 ≤ q.2 ∧ q.2 ≤ p.2 := by
  unfold fitStep at h
  by_cases hs : g.shown > off
  · simp only [hs, if_true] at h
    split at h
    · cases h
    · cases h; simp only; omega
  · simp only [hs, if_false] at h
    split at h
    · cases h
    · cases h; simp only; omega

theorem fitsF_le {set off wear : Int} : ∀ {gs : List Gauge} {p q : Int × Int}, p.1 ≤ p.2 → fitsF set off wear p gs = some q → p.1 ≤ q.1 ∧ q.1 ≤ q.2 ∧ q.2 ≤ p.2
  | [], p, q, hp, h => by simp only [fitsF, Option.some.injEq] at h; subst h; omega
  | g :: r, p, q, hp, h => by
    simp only [fitsF] at h
    split at h
    · cases h
    · rename_i p' hp'
      have h1 := fitStep_le hp'
      have h2 := fitsF_le h1.2.1 h
      omega

/-- How thick a shot can be on a day: the span so far, and whether there is any. -/
def rangeF (set off day : Int) (new : Int × Int) (gs : List Gauge) : Nat → Int → Span × Bool → Span × Bool
  | 0, _, acc => acc
  | n + 1, wear, acc => rangeF set off day new gs n (wear + 1) (match fitsF set off wear new gs with
    | none => acc
    | some f =>
      let lo := onF set f.1 wear day
      let hi := onF set f.2 wear day
      let out := if acc.2 then acc.1 else ⟨lo, hi⟩
      (⟨min out.lo lo, max out.hi hi⟩, true))

structure ShotOk (s : Shot) : Prop where
  set : 0 ≤ s.set ∧ s.set ≤ 1000000
  new : 0 ≤ s.new.lo ∧ s.new.lo ≤ 1000000 ∧ 0 ≤ s.new.hi ∧ s.new.hi ≤ 1000000 ∧ s.new.lo ≤ s.new.hi
  wear : 0 ≤ s.wear.lo ∧ s.wear.lo ≤ 1000000 ∧ 0 ≤ s.wear.hi ∧ s.wear.hi ≤ 900000

def rangeS (s : Shot) (off : Int) (gs : List Gauge) (day : Int) : Span × Bool := rangeF s.set off day (s.new.lo, s.new.hi) gs (s.wear.hi + 1 - s.wear.lo).toNat s.wear.lo (⟨0, 0⟩, false)

theorem fn60 (s : Shot) (off : Int) (gs : List Gauge) (day : Int) (ho : 0 ≤ off ∧ off ≤ 1000000) (hs : ShotOk s) (hg : ∀ g ∈ gs, gaugeOk g) (hl : gs.length < 1000000) (hday : 0 ≤ day ∧ day ≤ 1000000) :
    FnV Tryz.prog 64 [s.d, i64 off, gaugesD gs, i64 day] (.tup [(rangeS s off gs day).1.d, .bool (rangeS s off gs day).2]) := by
  refine fnV_of mixed tysOk Tryz.func64 rfl (ft := ft64) 4 (by decide +kernel) (by rfl) fun {σ} Y st => ?_
  obtain ⟨hset, hnew, hwear⟩ := hs
  conv => whnf
  refine LoopA_p (T := tys) tysOk (by exact drawsB_spec mixed tysOk (by decide +kernel)) (α := Int × (Span × Bool))
    (fun x => ⟨[(1, .d (i64 off)), (2, .d (gaugesD gs)), (3, .d (i64 day)), (4, .ptr 4 0), (8, .ptr 8 0), (10, .ptr 10 0), (11, .d (.bool x.2.2)), (12, .d (i64 x.1))], [(4, .box (.dd s.cells)), (8, .box (.dd [i64 0, i64 0])), (10, .box (.dd x.2.1.cells))], st⟩)
    (fun x => s.wear.lo ≤ x.1 ∧ x.1 ≤ max s.wear.lo (s.wear.hi + 1) ∧ rangeS s off gs day = rangeF s.set off day (s.new.lo, s.new.hi) gs (s.wear.hi + 1 - x.1).toNat x.1 x.2) (fun x => (s.wear.hi + 1 - x.1).toNat) (s.wear.lo, (⟨0, 0⟩, false))
    (Wk.sub ⟨rfl, rfl, rfl, rfl, rfl, rfl, rfl, rfl, trivial⟩ ⟨rfl, rfl, rfl, trivial⟩) (by refine ⟨by simp only; omega, by simp only; omega, rfl⟩) ?_
  rintro ⟨wear, ⟨out, some_⟩⟩ ⟨h1, h2, he⟩
  simp only at h1 h2 he
  conv => whnf
  refine brk_i (fun hb => ?_) (fun hb => ?_)
  · have hb : wear ≤ s.wear.hi := by simpa using hb
    obtain ⟨n, hn⟩ : ∃ n, (s.wear.hi + 1 - wear).toNat = n + 1 := ⟨(s.wear.hi - wear).toNat, by omega⟩
    have hn' : (s.wear.hi + 1 - (wear + 1)).toNat = n := by omega
    rw [hn, rangeF] at he
    conv => whnf
    refine CallA_v (fn95 s off gs wear ho (by omega) hset hnew hg hl) rfl rfl ?_
    conv => whnf
    cases hf : fitsF s.set off wear (s.new.lo, s.new.hi) gs with
    | none =>
      rw [hf] at he
      simp only at he
      simp only [fitSpan]
      conv => whnf
      refine arith_in (wrap_i64 (by (try dsimp only); omega)) ?_
      conv => whnf
      exact ⟨(wear + 1, (out, some_)), by simp only; omega, ⟨by simp only; omega, by simp only; omega, by simp only; rw [hn', he]⟩, Wk.sub ⟨rfl, rfl, rfl, rfl, rfl, rfl, rfl, rfl, trivial⟩ ⟨rfl, rfl, rfl, trivial⟩⟩
    | some f =>
      rw [hf] at he
      simp only at he
      simp only [fitSpan]
      obtain ⟨f1, f2⟩ := f
      have hfl := fitsF_le (by simp only; omega) hf
      simp only at hfl he
      refine brk_i (fun h3 => ?_) (fun h3 => ?_)
      · exfalso
        have h3 : f2 < f1 := of_decide_eq_true h3
        omega
      · conv => whnf
        refine DrawCall_v (ds := [s.d, i64 f1, i64 wear, i64 day]) (fn30 s f1 wear day (by unfold bd; omega) (by unfold bd; omega) (by unfold bd; omega) (by unfold bd; omega)) rfl rfl ?_
        conv => whnf
        refine DrawCall_v (ds := [s.d, i64 f2, i64 wear, i64 day]) (fn30 s f2 wear day (by unfold bd; omega) (by unfold bd; omega) (by unfold bd; omega) (by unfold bd; omega)) rfl rfl ?_
        conv => whnf
        refine brk_i (fun h4 => ?_) (fun h4 => ?_)
        · have h4 : some_ = false := by simpa using h4
          subst h4
          conv => whnf
          refine arith_in (wrap_i64 (by (try dsimp only); omega)) ?_
          conv => whnf
          exact ⟨(wear + 1, (⟨min (onF s.set f1 wear day) (onF s.set f1 wear day), max (onF s.set f2 wear day) (onF s.set f2 wear day)⟩, true)), by simp only; omega, ⟨by simp only; omega, by simp only; omega, by simp only; rw [hn', he]; rfl⟩, Wk.sub ⟨rfl, rfl, rfl, rfl, rfl, rfl, rfl, rfl, trivial⟩ ⟨rfl, rfl, rfl, trivial⟩⟩
        · have h4 : some_ = true := by simpa using h4
          subst h4
          conv => whnf
          refine arith_in (wrap_i64 (by (try dsimp only); omega)) ?_
          conv => whnf
          exact ⟨(wear + 1, (⟨min out.lo (onF s.set f1 wear day), max out.hi (onF s.set f2 wear day)⟩, true)), by simp only; omega, ⟨by simp only; omega, by simp only; omega, by simp only; rw [hn', he]; rfl⟩, Wk.sub ⟨rfl, rfl, rfl, rfl, rfl, rfl, rfl, rfl, trivial⟩ ⟨rfl, rfl, rfl, trivial⟩⟩
  · have hb : ¬ wear ≤ s.wear.hi := by simpa using hb
    conv => whnf
    rw [show (s.wear.hi + 1 - wear).toNat = 0 by omega] at he
    simp only [rangeF] at he
    rw [he]
    exact RetA_view 0 rfl ⟨⟨rfl, rfl⟩, rfl⟩
end Go.PX

namespace Go.PX
open Go.Proofs

structure Row where
  scope : Int
  holds : Int
def Row.cells (r : Row) : List D := [i64 r.scope, i64 r.holds]
def shotsD (l : List Shot) : D := .vs (l.map Shot.cells)
def rowsD (l : List Row) : D := .vs (l.map Row.cells)
structure Chain where
  shots : List Shot
  long : Int
  heavy : Int
  err : Int
  hold : Span
  rows : List Row
def Chain.cells (c : Chain) : List D := [shotsD c.shots, i64 c.long, i64 c.heavy, i64 c.err, i64 c.hold.lo, i64 c.hold.hi, rowsD c.rows]
def Chain.d (c : Chain) : D := .agg c.cells

/-- All links. -/
def linksF : List Shot → Int
  | [] => 0
  | s :: r => s.links + linksF r

theorem linksF_take {l : List Shot} {i : Nat} {s : Shot} (h : l[i]? = some s) : linksF (l.take (i + 1)) = linksF (l.take i) + s.links := by
  induction l generalizing i with
  | nil => simp at h
  | cons x r ih =>
    cases i with
    | zero => simp at h; subst h; simp [linksF]
    | succ i => simp at h; simp only [List.take_succ_cons, linksF, ih h]; omega

theorem linksF_bd {l : List Shot} (h : ∀ s ∈ l, bd s.links) (i : Nat) : -1000000000 * (i : Int) ≤ linksF (l.take i) ∧ linksF (l.take i) ≤ 1000000000 * (i : Int) := by
  induction l generalizing i with
  | nil => simp [linksF]; omega
  | cons x r ih =>
    cases i with
    | zero => simp [linksF]
    | succ i =>
      have h1 := ih (fun s hs => h s (List.mem_cons_of_mem _ hs)) i
      have h2 := h x (List.mem_cons_self ..)
      unfold bd at h2
      simp only [List.take_succ_cons, linksF]; omega

theorem fn34 (c : Chain) (hl : c.shots.length < 1000000) (hb : ∀ s ∈ c.shots, bd s.links) : FnV Tryz.prog 61 [c.d] (i64 (linksF c.shots)) := by
  refine fnV_of mixed tysOk Tryz.func61 rfl (ft := ft61) 1 (by decide +kernel) (by rfl) fun {σ} Y st => ?_
  conv => whnf
  refine LoopA_p (T := tys) tysOk (by exact drawsB_spec mixed tysOk (by decide +kernel)) (α := Nat)
    (fun i => ⟨[(1, .ptr 1 0), (3, .d (i64 (linksF (c.shots.take i)))), (4, .d (i64 i))], [(1, .box (.dd c.cells))], st⟩) (fun i => i ≤ c.shots.length) (fun i => c.shots.length - i) 0
    (Wk.sub ⟨rfl, rfl, rfl, trivial⟩ ⟨rfl, trivial⟩) (by omega) ?_
  rintro i hi
  conv => whnf
  refine brk_i (fun hc => ?_) (fun hc => ?_)
  · have hc : i < c.shots.length := by simpa using hc
    obtain ⟨s, hs⟩ : ∃ s, c.shots[i]? = some s := ⟨_, List.getElem?_eq_getElem hc⟩
    have h1 := linksF_bd hb i
    have h2 := hb s (List.mem_of_getElem? hs)
    unfold bd at h2
    conv => whnf
    refine elemK_i s.cells (by simp [hs]) ?_
    conv => whnf
    refine arith_in (wrap_i64 (by (try dsimp only); omega)) ?_
    conv => whnf
    refine arith_in (wrap_i64 (by (try dsimp only); omega)) ?_
    conv => whnf
    exact ⟨i + 1, by omega, hc, Wk.sub ⟨rfl, by rw [linksF_take hs]; rfl, rfl, trivial⟩ ⟨rfl, trivial⟩⟩
  · have hc : ¬ i < c.shots.length := by simpa using hc
    conv => whnf
    rw [List.take_of_length_le (by omega)]
    exact RetA_view 0 rfl ⟨⟨rfl, rfl⟩, rfl⟩

theorem fn84 (c : Chain) (hl : c.shots.length < 1000000) (hb : ∀ s ∈ c.shots, bd s.links) : FnV Tryz.prog 47 [c.d] (i64 (linksF c.shots)) := by
  refine fnV_of mixed tysOk Tryz.func47 rfl (ft := ft47) 1 (by decide +kernel) (by rfl) fun {σ} Y st => ?_
  conv => whnf
  refine LoopA_p (T := tys) tysOk (by exact drawsB_spec mixed tysOk (by decide +kernel)) (α := Nat)
    (fun i => ⟨[(2, .d (i64 (linksF (c.shots.take i)))), (6, .d (shotsD c.shots)), (7, .d (i64 c.shots.length)), (8, .d (i64 i))], [], st⟩) (fun i => i ≤ c.shots.length) (fun i => c.shots.length - i) 0
    (Wk.sub ⟨rfl, rfl, by simp [PX.get], rfl, trivial⟩ trivial) (by omega) ?_
  rintro i hi
  conv => whnf
  refine brk_i (fun hc => ?_) (fun hc => ?_)
  · have hc : i < c.shots.length := by simpa using hc
    obtain ⟨s, hs⟩ : ∃ s, c.shots[i]? = some s := ⟨_, List.getElem?_eq_getElem hc⟩
    have h1 := linksF_bd hb i
    have h2 := hb s (List.mem_of_getElem? hs)
    unfold bd at h2
    conv => whnf
    refine elemK_i s.cells (by simp [hs]) ?_
    conv => whnf
    refine arith_in (wrap_i64 (by (try dsimp only); omega)) ?_
    conv => whnf
    refine arith_in (wrap_i64 (by (try dsimp only); omega)) ?_
    conv => whnf
    exact ⟨i + 1, by omega, hc, Wk.sub ⟨by rw [linksF_take hs]; rfl, rfl, rfl, rfl, trivial⟩ trivial⟩
  · have hc : ¬ i < c.shots.length := by simpa using hc
    conv => whnf
    rw [List.take_of_length_le (by omega)]
    exact RetA_view 0 rfl ⟨⟨rfl, rfl⟩, rfl⟩

theorem fn19 (a b : List Int) (ha : a.length < 1000000) : FnV Tryz.prog 22 [intsD a, intsD b] (.bool (decide (a = b))) := by
  refine fnV_of mixed tysOk Tryz.func22 rfl (ft := ft22) 2 (by decide +kernel) (by rfl) fun {σ} Y st => ?_
  conv => whnf
  refine brk_i (fun h0 => ?_) (fun h0 => ?_)
  · have h0 : a.length ≠ b.length := by
      intro e; simp [e] at h0
    conv => whnf
    rw [decide_eq_false (by rintro rfl; exact h0 rfl)]
    exact RetA_view 0 rfl ⟨⟨rfl, rfl⟩, rfl⟩
  · have h0 : a.length = b.length := by
      have := h0
      simp at this; omega
    conv => whnf
    refine LoopA_p (T := tys) tysOk (by exact drawsB_spec mixed tysOk (by decide +kernel)) (α := Nat)
      (fun i => ⟨[(0, .d (intsD a)), (1, .d (intsD b)), (5, .d (i64 i))], [], st⟩) (fun i => i ≤ a.length ∧ a.take i = b.take i) (fun i => a.length - i) 0
      (Wk.sub ⟨rfl, rfl, rfl, trivial⟩ trivial) (by simp) ?_
    rintro i ⟨hi, he⟩
    conv => whnf
    refine brk_i (fun hc => ?_) (fun hc => ?_)
    · have hc : i < a.length := by simpa using hc
      have hc' : i < b.length := by omega
      conv => whnf
      refine elemK_i [i64 a[i]] (by simp [hc]) ?_
      conv => whnf
      refine elemK_i [i64 b[i]] (by simp [hc']) ?_
      conv => whnf
      refine brk_i (fun h1 => ?_) (fun h1 => ?_)
      · conv => whnf
        have h1 : a[i] ≠ b[i] := by simpa using h1
        rw [decide_eq_false (by rintro rfl; exact h1 rfl)]
        exact RetA_view 0 rfl ⟨⟨rfl, rfl⟩, rfl⟩
      · have h1 : a[i] = b[i] := by simpa using h1
        conv => whnf
        refine arith_in (wrap_i64 (by (try dsimp only); omega)) ?_
        conv => whnf
        exact ⟨i + 1, by omega, ⟨hc, by rw [List.take_succ_eq_append_getElem hc, List.take_succ_eq_append_getElem hc', he, h1]⟩, Wk.sub ⟨rfl, rfl, rfl, trivial⟩ trivial⟩
    · have hc : ¬ i < a.length := by simpa using hc
      conv => whnf
      rw [List.take_of_length_le (by omega), List.take_of_length_le (by omega)] at he
      rw [decide_eq_true he]
      exact RetA_view 0 rfl ⟨⟨rfl, rfl⟩, rfl⟩
end Go.PX
