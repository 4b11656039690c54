import Derived.Test.YtiflhdanniajdaaPxI
import Derived.ProofKit
import Derived.ReadAgain
import Derived.Test.YtiflhdanniajdaaPxA
import Derived.Test.YtiflhdanniajdaaPxH
import Derived.Test.YtiflhdanniajdaaProg
set_option linter.all false
set_option maxRecDepth 10000
/- PX: from a contract to a row: what the arguments read, and what is left. -/
namespace Go.PX
open Go.RowKit Go.ChangeShapes

/-- All that lies there is frozen. -/
def topF (W : World) (b : Nat) : Nat := match W.heap[b]? with
  | some (.cells c _ _) => c.size + 1
  | some _ => 1
  | none => 0

def topCx (W : World) : Cx Unit where
  C := fun _ b => b < W.heap.size
  HG := fun _ w F => W.heap.size ≤ w.heap.size ∧ ∀ b, b < W.heap.size → w.heap[b]? = W.heap[b]?
  yv := none
  rcd := none
  pρ := id
  pκ := id
  stable := by
    rintro s w F w' F' ⟨h1, h2⟩ tr hf hk
    exact ⟨Nat.le_trans h1 tr.size, fun b hb => (hk b hb).1.trans (h2 b hb)⟩

/-- Of what was there, nothing turns. -/
structure Still (W W' : World) : Prop where
  os : W'.os = W.os
  output : W'.output = W.output
  size : W.heap.size ≤ W'.heap.size
  heap : ∀ b, b < W.heap.size → W'.heap[b]? = W.heap[b]?

theorem Still.frame {W W' : World} (h : Still W W') (may : MemPlace → Prop) : W.keptBut W' may := by
  refine ⟨h.os, h.output, fun i hi => ?_⟩
  rw [h.heap i hi]
  cases W.heap[i]? with
  | none => rfl
  | some o => cases o with
    | cells c t fr => exact ⟨rfl, rfl, rfl, fun _ _ => rfl⟩
    | map es clock => exact .inr ⟨rfl, rfl⟩
    | _ => rfl

theorem Still.sameAt {W W' : World} (h : Still W W') {p : MemPlace} (hp : p.block < W.heap.size) : W.sameAt W' p := by
  cases p with
  | cell b off =>
    have := h.heap b hp
    simp only [World.sameAt, World.cell?, this]
  | map b => exact h.heap b hp

theorem top {P : Program} {f : FuncId} {ds : List D} {d : D} (h : FnV P f ds d) (W : World) (args : Array Value) (hr : RepDL (topF W) W ds args.toList) :
    Calls P f args W fun e W' => ∃ x, e = .returned x ∧ (∃ F', RepD F' W' d x) ∧ Still W W' := by
  have h1 := (h (σ := Unit) ⟨fun _ _ _ _ => False⟩ ()).run (topCx W) (fun l hl => by cases hl) ⟨id, id⟩ (topF W) args W
    ⟨⟨Nat.le_refl _, fun _ _ => rfl⟩, fun b hb => hb, fun b hb => by simp [topF, Array.getElem?_eq_none hb], fun id o ho => by simp [get] at ho, fun id o ho => by simp [get] at ho, fun i j o p ho => by simp [get] at ho⟩ (RepVL.inj.2 hr)
  refine callsIn_wide.1 (h1.mono ?_)
  rintro e W' ⟨x, rfl, v, h', s', L', F', ⟨⟨rfl, rfl⟩, _⟩, hh, hx, tr, _⟩
  exact ⟨x, rfl, ⟨F', hx⟩, tr.os, tr.output, hh.hg.1, hh.hg.2⟩

/-- Arguments that are only read read as before. -/
theorem trodAll_carry {H : Type} {enc : TypeId × Value → H} {P : Program} {W W' : World} {base : Nat} {sp : Nat → Bool} {held : Bool} : ∀ {ts : List TypeId} {vs : List Value} {ds : List (DataW H)} {ps : List MemPlace},
    DataW.TrodAll enc P W base sp held ts vs ds ps → (∀ p ∈ ps, W.sameAt W' p) → DataW.TrodAll enc P W' base sp held ts vs ds ps
  | [], [], [], _, h, _ => h
  | _ :: _, _ :: _, _ :: _, _, ⟨p, q, ⟨n, h1⟩, h2, e⟩, hs => ⟨p, q, ⟨n, DataW.trod_carry n _ _ _ h1 fun x hx => hs x (by rw [e]; exact List.mem_append_left _ hx)⟩, trodAll_carry h2 (fun x hx => hs x (by rw [e]; exact List.mem_append_right _ hx)), e⟩

/-- What is read of a type is data of a make. -/
structure Rd (P : Program) (W : World) (t : TypeId) (S : List D → Prop) : Prop where
  read : ∀ {H : Type} {enc : TypeId × Value → H} {sp : Nat → Bool} {held : Bool} {fuel : Nat} {cs : List Value} {x : DataW H × List MemPlace}, DataW.trod enc P W 0 sp held fuel t cs = some x → ∃ ds, S ds ∧ RepDL (topF W) W ds cs

section
variable {P : Program} {W : World} {t : TypeId}

theorem Rd.int {k : IntKind} (ht : P.underlying t = some (.int k)) : Rd P W t fun ds => ∃ n, ds = [.int k n] := by
  refine ⟨?_⟩
  intro H enc sp held fuel cs x h
  obtain ⟨n, rfl, _, _⟩ := DataW.trod_int ht h
  exact ⟨[.int k n], ⟨n, rfl⟩, _, [], rfl, rfl, rfl⟩

theorem Rd.bool (ht : P.underlying t = some .bool) : Rd P W t fun ds => ∃ b, ds = [.bool b] := by
  refine ⟨?_⟩
  intro H enc sp held fuel cs x h
  obtain ⟨n, rfl, _⟩ := DataW.trod_bool ht h
  exact ⟨[.bool n], ⟨n, rfl⟩, _, [], rfl, rfl, rfl⟩

theorem Rd.str (ht : P.underlying t = some .string) : Rd P W t fun ds => ∃ s, ds = [.str s] := by
  refine ⟨?_⟩
  intro H enc sp held fuel cs x h
  obtain ⟨n, rfl, _, _⟩ := DataW.trod_string ht h
  exact ⟨[.str n], ⟨n, rfl⟩, _, [], rfl, rfl, rfl⟩

theorem Rd.mono {S S' : List D → Prop} (h : Rd P W t S) (hS : ∀ ds, S ds → S' ds) : Rd P W t S' := by
  refine ⟨?_⟩
  intro H enc sp held fuel cs x hx
  obtain ⟨ds, h1, h2⟩ := h.read hx
  exact ⟨ds, hS ds h1, h2⟩

theorem cell_topF {b off : Nat} {v : Value} (h : W.cell? ⟨b, off, none⟩ = some v) : off < topF W b := by
  unfold World.cell? at h
  unfold topF
  simp only at h
  split at h
  · rename_i c t' f hb
    rw [hb]
    simp only [Option.isSome_none, Bool.false_eq_true, if_false] at h
    obtain ⟨hlt, _⟩ := Array.getElem?_eq_some_iff.1 h
    simp only; omega
  · cases h

theorem repAt_of : ∀ {ds : List D} {cs : List Value} {b off : Nat}, RepDL (topF W) W ds cs → (∀ i v, cs[i]? = some v → W.cell? ⟨b, off + i, none⟩ = some v) → RepAt (topF W) W b off ds
  | [], _, _, _, _, _ => trivial
  | d :: r, _, b, off, h, hc => by
    obtain ⟨x, l', rfl, hd, hl⟩ := h
    have h0 := hc 0 x rfl
    refine ⟨cell_topF h0, ⟨x, h0, hd⟩, repAt_of hl fun i v hv => ?_⟩
    have := hc (i + 1) v hv
    rwa [show off + (i + 1) = off + 1 + i by omega] at this

theorem cells_get {a : Addr} {k : Nat} {cs : List Value} (h : W.cells? 0 a k = some cs) : cs.length = k ∧ ∀ i v, cs[i]? = some v → W.cell? (a.add i) = some v := by
  unfold World.cells? at h
  rw [if_pos (Nat.zero_le _)] at h
  have hl : cs.length = k := by simpa using mapM_some_length h
  refine ⟨hl, fun i v hv => ?_⟩
  have hi : i < k := by
    have := (List.getElem?_eq_some_iff.1 hv).1
    omega
  rw [mapM_some_get h i i (by simp [hi]), hv]

theorem repEs_of {e : TypeId} {S : List D → Prop} {b : Nat} {k : Nat} : ∀ {n : Nat} {off : Nat}, (∀ i, i < n → ∃ cs ds, cs.length = k ∧ (∀ j v, cs[j]? = some v → W.cell? ⟨b, off + i * k + j, none⟩ = some v) ∧ S ds ∧ RepDL (topF W) W ds cs) →
    ∃ es : List (List D), es.length = n ∧ (∀ e ∈ es, S e) ∧ RepEs (topF W) W b off k es
  | 0, off, _ => ⟨[], rfl, fun e h => by (cases h), trivial⟩
  | n + 1, off, h => by
    obtain ⟨cs, ds, h1, h2, h3, h4⟩ := h 0 (by omega)
    obtain ⟨es, g1, g2, g3⟩ := repEs_of (e := e) (S := S) (n := n) (off := off + k) fun i hi => by
      obtain ⟨cs, ds, h1, h2, h3, h4⟩ := h (i + 1) (by omega)
      refine ⟨cs, ds, h1, fun j v hv => ?_, h3, h4⟩
      have := h2 j v hv
      rwa [show off + (i + 1) * k + j = off + k + i * k + j by rw [Nat.add_mul]; omega] at this
    refine ⟨ds :: es, by simp [g1], fun e he => ?_, ?_, ?_, g3⟩
    · rcases List.mem_cons.1 he with rfl | he
      · exact h3
      · exact g2 e he
    · rw [← h4.length, h1]
    · exact repAt_of h4 fun i v hv => by simpa using h2 i v hv

theorem Rd.slice {e : TypeId} {S : List D → Prop} (ht : P.underlying t = some (.slice e)) {k : Nat} (hk : P.cellsOf e = k) (hpos : 0 < k) (he : Rd P W e S) : Rd P W t fun ds => ∃ es, ds = [.vs es] ∧ ∀ e ∈ es, S e := by
  subst hk
  refine ⟨?_⟩
  intro H enc sp held fuel cs x h
  rcases DataW.trod_slice ht h with ⟨rfl, _⟩ | ⟨a, len, cap, elems, rest, n, rfl, rfl, _, _, hl, _, hlen, hel, _, _⟩
  · exact ⟨[.vs []], ⟨[], rfl, fun e h => by (cases h)⟩, _, [], rfl, ⟨none, 0, 0, rfl, rfl, Nat.le_refl _, fun h => absurd rfl h⟩, rfl⟩
  · by_cases h0 : len = 0
    · subst h0
      exact ⟨[.vs []], ⟨[], rfl, fun e h => by (cases h)⟩, _, [], rfl, ⟨some a, 0, cap, rfl, rfl, hl, fun h => absurd rfl h⟩, rfl⟩
    have one : ∀ i, i < len → ∃ cs ds, W.cells? 0 (a.add (i * P.cellsOf e)) (P.cellsOf e) = some cs ∧ S ds ∧ RepDL (topF W) W ds cs := by
      intro i hi
      have h1 := hel i hi
      rw [List.getElem?_eq_getElem (by omega)] at h1
      obtain ⟨cs, h2, h3⟩ := Option.bind_eq_some_iff.1 h1
      obtain ⟨ds, h4, h5⟩ := he.read h3
      exact ⟨cs, ds, h2, h4, h5⟩
    have hs : a.spot = none := by
      obtain ⟨cs, ds, h1, _, h3⟩ := one 0 (by omega)
      obtain ⟨g1, g2⟩ := cells_get h1
      have hlt : 0 < cs.length := by omega
      have := g2 0 cs[0] (List.getElem?_eq_getElem hlt)
      have := World.cell?_spot this
      simpa [Addr.add] using this
    obtain ⟨b, off, spot⟩ := a
    simp only at hs
    subst hs
    obtain ⟨es, g1, g2, g3⟩ := repEs_of (e := e) (S := S) (W := W) (b := b) (k := P.cellsOf e) (n := len) (off := off) fun i hi => by
      obtain ⟨cs, ds, h1, h2, h3⟩ := one i hi
      obtain ⟨k1, k2⟩ := cells_get h1
      refine ⟨cs, ds, k1, fun j v hv => ?_, h2, h3⟩
      have := k2 j v hv
      have e1 : ∀ n m : Nat, (Addr.add ⟨b, n, none⟩ m) = ⟨b, n + m, none⟩ := by
        intro n m
        unfold Addr.add
        split
        · rename_i h; subst h; rfl
        · rfl
      rw [e1, e1] at this
      exact this
    exact ⟨[.vs es], ⟨es, rfl, g2⟩, _, [], rfl, ⟨some ⟨b, off, none⟩, len, cap, rfl, g1.symm, hl, fun _ => ⟨b, off, _, rfl, hpos, g3⟩⟩, rfl⟩

/-- Parts, one behind the other. -/
def AllS : List (List D → Prop) → List D → Prop
  | [], ds => ds = []
  | S :: r, ds => ∃ a b, ds = a ++ b ∧ S a ∧ AllS r b

theorem RepDL.app {F : Nat → Nat} {w : World} : ∀ {a b : List D} {l m : List Value}, RepDL F w a l → RepDL F w b m → RepDL F w (a ++ b) (l ++ m)
  | [], b, l, m, h1, h2 => by
    have : l = [] := h1
    subst this; exact h2
  | d :: a, b, l, m, h1, h2 => by
    obtain ⟨x, l', rfl, hd, hl⟩ := h1
    exact ⟨x, l' ++ m, rfl, hd, RepDL.app hl h2⟩

/-- The fields of a struct, read one by one. -/
inductive RdF (P : Program) (W : World) : List Field → Nat → Nat → List (List D → Prop) → Prop where
  | nil (n : Nat) : RdF P W [] n n []
  | cons {f : Field} {fs : List Field} {off n k : Nat} {S : List D → Prop} {Ss : List (List D → Prop)} (ho : f.offset = off) (hk : P.cellsOf f.type = k) (hf : Rd P W f.type S) (hr : RdF P W fs (off + k) n Ss) : RdF P W (f :: fs) off n (S :: Ss)

theorem rdF_read {fs : List Field} {off n : Nat} {Ss : List (List D → Prop)} (h : RdF P W fs off n Ss) : ∀ {H : Type} {enc : TypeId × Value → H} {sp : Nat → Bool} {held : Bool} {fuel : Nat} {cs : List Value} {xs : List (DataW H × List MemPlace)}, cs.length = n →
    fs.mapM (fun f => DataW.trod enc P W 0 sp held fuel f.type ((cs.drop f.offset).take (P.cellsOf f.type))) = some xs → ∃ ds, AllS Ss ds ∧ RepDL (topF W) W ds (cs.drop off) := by
  induction h with
  | nil m =>
    intro H enc sp held fuel cs xs hn _
    rw [List.drop_eq_nil_of_le (by omega)]
    exact ⟨[], rfl, rfl⟩
  | @cons f fs off m k S Ss ho hk hf hr ih =>
    intro H enc sp held fuel cs xs hn hm
    rw [List.mapM_cons] at hm
    simp only [Option.bind_eq_bind, Option.bind_eq_some_iff, Option.pure_def, Option.some.injEq] at hm
    obtain ⟨y, hy, ys, hys, _⟩ := hm
    obtain ⟨ds1, h1, h2⟩ := hf.read hy
    obtain ⟨ds2, h3, h4⟩ := ih hn hys
    rw [ho, hk] at h2
    refine ⟨ds1 ++ ds2, ⟨ds1, ds2, rfl, h1, h3⟩, ?_⟩
    have h5 := RepDL.app h2 h4
    rwa [show (cs.drop off).take k ++ cs.drop (off + k) = cs.drop off by rw [← List.drop_drop]; exact List.take_append_drop _ _] at h5

theorem Rd.struct {fs : Array Field} {n : Nat} {Ss : List (List D → Prop)} (ht : P.underlying t = some (.struct fs)) (hn : P.cellsOf t = n) (hf : RdF P W fs.toList 0 n Ss) : Rd P W t (AllS Ss) := by
  refine ⟨?_⟩
  intro H enc sp held fuel cs x h
  cases fuel with
  | zero => simp [DataW.trod] at h
  | succ fuel =>
    unfold DataW.trod at h
    rw [ht] at h
    simp only at h
    split at h
    · rename_i hl
      obtain ⟨xs, hxs, _⟩ := Option.map_eq_some_iff.1 h
      obtain ⟨ds, h1, h2⟩ := rdF_read hf (hl.trans hn) hxs
      exact ⟨ds, h1, by simpa using h2⟩
    · cases h
end

/-- A list of parts is a list of things. -/
theorem list_of {α : Type} {f : α → List D} {S : List D → Prop} (h : ∀ ds, S ds → ∃ a, ds = f a) : ∀ {es : List (List D)}, (∀ e ∈ es, S e) → ∃ l : List α, es = l.map f
  | [], _ => ⟨[], rfl⟩
  | e :: r, he => by
    obtain ⟨a, ha⟩ := h e (he e (by simp))
    obtain ⟨l, hl⟩ := list_of h (es := r) fun x hx => he x (by simp [hx])
    exact ⟨a :: l, by rw [ha, hl]; rfl⟩
end Go.PX

/- PX: what an argument reads is data of a make, and of a size that its weights allow. -/
namespace Go.PX
open Go.RowKit Go.ChangeShapes

def wOk (l : List Nat) : Prop := ∀ n ∈ l, n ≤ reachBytes

theorem wOk_app {a b : List Nat} : wOk (a ++ b) ↔ wOk a ∧ wOk b :=
  ⟨fun h => ⟨fun n hn => h n (List.mem_append_left _ hn), fun n hn => h n (List.mem_append_right _ hn)⟩, fun h n hn => by
    rcases List.mem_append.1 hn with hn | hn
    · exact h.1 n hn
    · exact h.2 n hn⟩

theorem wOk_all {l : List Nat} (h : l.all (· ≤ reachBytes) = true) : wOk l := fun n hn => by
  have := List.all_eq_true.1 h n hn
  simpa using this

structure RdZ (P : Program) (W : World) (t : TypeId) (S : List D → Prop) : Prop where
  read : ∀ {H : Type} {enc : TypeId × Value → H} {sp : Nat → Bool} {held : Bool} {fuel : Nat} {cs : List Value} {x : DataW H × List MemPlace}, DataW.trod enc P W 0 sp held fuel t cs = some x → wOk (x.1.weights P t) → ∃ ds, S ds ∧ RepDL (topF W) W ds cs

section
variable {P : Program} {W : World} {t : TypeId}

theorem Rd.z {S : List D → Prop} (h : Rd P W t S) : RdZ P W t S := ⟨fun hx _ => h.read hx⟩

theorem RdZ.mono {S S' : List D → Prop} (h : RdZ P W t S) (hS : ∀ ds, S ds → S' ds) : RdZ P W t S' := by
  refine ⟨?_⟩
  intro H enc sp held fuel cs x hx hw
  obtain ⟨ds, h1, h2⟩ := h.read hx hw
  exact ⟨ds, hS ds h1, h2⟩

theorem RdZ.intw {k : IntKind} (ht : P.underlying t = some (.int k)) : RdZ P W t fun ds => ∃ n, ds = [.int k n] ∧ (Lit.int k n).wf = true := by
  refine ⟨?_⟩
  intro H enc sp held fuel cs x h _
  obtain ⟨n, rfl, _, hw⟩ := DataW.trod_int ht h
  exact ⟨[.int k n], ⟨n, rfl, hw⟩, _, [], rfl, rfl, rfl⟩

theorem RdZ.str (ht : P.underlying t = some .string) : RdZ P W t fun ds => ∃ s : ByteArray, ds = [.str s] ∧ s.size ≤ reachBytes := by
  refine ⟨?_⟩
  intro H enc sp held fuel cs x h hw
  obtain ⟨n, rfl, hx, _⟩ := DataW.trod_string ht h
  refine ⟨[.str n], ⟨n, rfl, ?_⟩, _, [], rfl, rfl, rfl⟩
  subst hx
  have := hw n.data.toList.length (List.mem_cons_self ..)
  rw [Array.length_toList] at this
  exact this

theorem weightsAll_mem {H : Type} {e : TypeId} : ∀ {l : List (DataW H)} {d : DataW H}, d ∈ l → wOk (DataW.weightsAll P e l) → wOk (d.weights P e)
  | a :: r, d, hd, h => by
    rw [DataW.weightsAll] at h
    rcases List.mem_cons.1 hd with rfl | hd
    · exact (wOk_app.1 h).1
    · exact weightsAll_mem hd (wOk_app.1 h).2

theorem RdZ.slice {e : TypeId} {S : List D → Prop} (ht : P.underlying t = some (.slice e)) {k : Nat} (hk : P.cellsOf e = k) (hpos : 0 < k) (he : RdZ P W e S) :
    RdZ P W t fun ds => ∃ es, ds = [.vs es] ∧ (∀ e ∈ es, S e) ∧ es.length * P.bytesOf e ≤ reachBytes := by
  subst hk
  refine ⟨?_⟩
  intro H enc sp held fuel cs x h hw
  rcases DataW.trod_slice ht h with ⟨rfl, _⟩ | ⟨a, len, cap, elems, rest, n, rfl, rfl, hxe, _, hl, _, hlen, hel, _, _⟩
  · exact ⟨[.vs []], ⟨[], rfl, fun e h => by (cases h), by simp⟩, _, [], rfl, ⟨none, 0, 0, rfl, rfl, Nat.le_refl _, fun h => absurd rfl h⟩, rfl⟩
  · by_cases h0 : len = 0
    · subst h0
      exact ⟨[.vs []], ⟨[], rfl, fun e h => by (cases h), by simp⟩, _, [], rfl, ⟨some a, 0, cap, rfl, rfl, hl, fun h => absurd rfl h⟩, rfl⟩
    subst hxe
    rw [DataW.weights, ht] at hw
    have hsz : len * P.bytesOf e ≤ reachBytes := by
      have := hw ((elems.length + rest.length) * P.bytesOf e) (by simp)
      have h2 : len * P.bytesOf e ≤ (elems.length + rest.length) * P.bytesOf e := Nat.mul_le_mul_right _ (by omega)
      omega
    have hwe : wOk (DataW.weightsAll P e (elems.map (·.1))) := by
      intro n hn
      exact hw n (by simp; right; left; simpa using hn)
    have one : ∀ i, i < len → ∃ cs ds, W.cells? 0 (a.add (i * P.cellsOf e)) (P.cellsOf e) = some cs ∧ S ds ∧ RepDL (topF W) W ds cs := by
      intro i hi
      have h1 := hel i hi
      have hge : elems[i]? = some elems[i] := List.getElem?_eq_getElem (by omega)
      rw [hge] at h1
      obtain ⟨cs, h2, h3⟩ := Option.bind_eq_some_iff.1 h1
      obtain ⟨ds, h4, h5⟩ := he.read h3 (weightsAll_mem (List.mem_map.2 ⟨_, List.mem_of_getElem? hge, rfl⟩) hwe)
      exact ⟨cs, ds, h2, h4, h5⟩
    have hs : a.spot = none := by
      obtain ⟨cs, ds, h1, _, h3⟩ := one 0 (by omega)
      obtain ⟨g1, g2⟩ := cells_get h1
      have hlt : 0 < cs.length := by omega
      have := g2 0 cs[0] (List.getElem?_eq_getElem hlt)
      have := World.cell?_spot this
      simpa [Addr.add] using this
    obtain ⟨b, off, spot⟩ := a
    simp only at hs
    subst hs
    obtain ⟨es, g1, g2, g3⟩ := repEs_of (e := e) (S := S) (W := W) (b := b) (k := P.cellsOf e) (n := len) (off := off) fun i hi => by
      obtain ⟨cs, ds, h1, h2, h3⟩ := one i hi
      obtain ⟨k1, k2⟩ := cells_get h1
      refine ⟨cs, ds, k1, fun j v hv => ?_, h2, h3⟩
      have := k2 j v hv
      have e1 : ∀ n m : Nat, (Addr.add ⟨b, n, none⟩ m) = ⟨b, n + m, none⟩ := by
        intro n m
        unfold Addr.add
        split
        · rename_i h; subst h; rfl
        · rfl
      rw [e1, e1] at this
      exact this
    exact ⟨[.vs es], ⟨es, rfl, g2, by rw [g1]; exact hsz⟩, _, [], rfl, ⟨some ⟨b, off, none⟩, len, cap, rfl, g1.symm, hl, fun _ => ⟨b, off, _, rfl, hpos, g3⟩⟩, rfl⟩

/-- The fields of a struct, read one by one. -/
inductive RdFZ (P : Program) (W : World) : List Field → Nat → Nat → List (List D → Prop) → Prop where
  | nil (n : Nat) : RdFZ P W [] n n []
  | cons {f : Field} {fs : List Field} {off n k : Nat} {S : List D → Prop} {Ss : List (List D → Prop)} (ho : f.offset = off) (hk : P.cellsOf f.type = k) (hf : RdZ P W f.type S) (hr : RdFZ P W fs (off + k) n Ss) : RdFZ P W (f :: fs) off n (S :: Ss)

theorem rdFZ_read {fs : List Field} {off n : Nat} {Ss : List (List D → Prop)} (h : RdFZ P W fs off n Ss) : ∀ {H : Type} {enc : TypeId × Value → H} {sp : Nat → Bool} {held : Bool} {fuel : Nat} {cs : List Value} {xs : List (DataW H × List MemPlace)}, cs.length = n →
    fs.mapM (fun f => DataW.trod enc P W 0 sp held fuel f.type ((cs.drop f.offset).take (P.cellsOf f.type))) = some xs → wOk (DataW.weightsEach P (fs.map (·.type)) (xs.map (·.1))) → ∃ ds, AllS Ss ds ∧ RepDL (topF W) W ds (cs.drop off) := by
  induction h with
  | nil m =>
    intro H enc sp held fuel cs xs hn _ _
    rw [List.drop_eq_nil_of_le (by omega)]
    exact ⟨[], rfl, rfl⟩
  | @cons f fs off m k S Ss ho hk hf hr ih =>
    intro H enc sp held fuel cs xs hn hm hw
    rw [List.mapM_cons] at hm
    simp only [Option.bind_eq_bind, Option.bind_eq_some_iff, Option.pure_def, Option.some.injEq] at hm
    obtain ⟨y, hy, ys, hys, rfl⟩ := hm
    rw [List.map_cons, List.map_cons, DataW.weightsEach] at hw
    obtain ⟨hw1, hw2⟩ := wOk_app.1 hw
    obtain ⟨ds1, h1, h2⟩ := hf.read hy hw1
    obtain ⟨ds2, h3, h4⟩ := ih hn hys hw2
    rw [ho, hk] at h2
    refine ⟨ds1 ++ ds2, ⟨ds1, ds2, rfl, h1, h3⟩, ?_⟩
    have h5 := RepDL.app h2 h4
    rwa [show (cs.drop off).take k ++ cs.drop (off + k) = cs.drop off by rw [← List.drop_drop]; exact List.take_append_drop _ _] at h5

theorem RdZ.struct {fs : Array Field} {n : Nat} {Ss : List (List D → Prop)} (ht : P.underlying t = some (.struct fs)) (hn : P.cellsOf t = n) (hf : RdFZ P W fs.toList 0 n Ss) : RdZ P W t (AllS Ss) := by
  refine ⟨?_⟩
  intro H enc sp held fuel cs x h hw
  cases fuel with
  | zero => simp [DataW.trod] at h
  | succ fuel =>
    unfold DataW.trod at h
    rw [ht] at h
    simp only at h
    split at h
    · rename_i hl
      obtain ⟨xs, hxs, rfl⟩ := Option.map_eq_some_iff.1 h
      simp only at hw
      rw [DataW.weights, ht] at hw
      obtain ⟨ds, h1, h2⟩ := rdFZ_read hf (hl.trans hn) hxs hw
      exact ⟨ds, h1, by simpa using h2⟩
    · cases h

theorem RdZ.array {e : TypeId} {n k : Nat} {S : List D → Prop} (ht : P.underlying t = some (.array n e)) (hn : P.cellsOf t = n * k) (hk : P.cellsOf e = k) (he : RdZ P W e S) :
    RdZ P W t fun ds => ∃ dss : List (List D), ds = dss.flatten ∧ dss.length = n ∧ ∀ d ∈ dss, S d := by
  refine ⟨?_⟩
  intro H enc sp held fuel cs x h hw
  cases fuel with
  | zero => simp [DataW.trod] at h
  | succ fuel =>
    unfold DataW.trod at h
    rw [ht] at h
    simp only at h
    split at h
    · rename_i hl
      obtain ⟨xs, hxs, rfl⟩ := Option.map_eq_some_iff.1 h
      simp only at hw
      rw [DataW.weights, ht] at hw
      rw [hk] at hxs
      have hlen : xs.length = n := by simpa using mapM_some_length hxs
      have step : ∀ m, m ≤ n → ∃ dss : List (List D), dss.length = m ∧ (∀ d ∈ dss, S d) ∧ RepDL (topF W) W dss.flatten (cs.take (m * k)) := by
        intro m
        induction m with
        | zero => intro _; exact ⟨[], rfl, fun d h => by (cases h), by rw [Nat.zero_mul]; exact (List.take_zero : cs.take 0 = [])⟩
        | succ m ih =>
          intro hm
          obtain ⟨dss, h1, h2, h3⟩ := ih (by omega)
          have hg := mapM_some_get hxs m m (by rw [List.getElem?_range (by omega)])
          have hge : xs[m]? = some xs[m] := List.getElem?_eq_getElem (by omega)
          rw [hge] at hg
          obtain ⟨d, h4, h5⟩ := he.read hg (weightsAll_mem (List.mem_map.2 ⟨_, List.mem_of_getElem? hge, rfl⟩) hw)
          refine ⟨dss ++ [d], by simp [h1], fun u hu => ?_, ?_⟩
          · rcases List.mem_append.1 hu with hu | hu
            · exact h2 u hu
            · rw [List.mem_singleton] at hu; subst hu; exact h4
          · rw [Nat.add_mul, Nat.one_mul, List.take_add]
            simpa using RepDL.app h3 h5
      obtain ⟨dss, h1, h2, h3⟩ := step n (Nat.le_refl _)
      refine ⟨dss.flatten, ⟨dss, rfl, h1, h2⟩, ?_⟩
      rwa [List.take_of_length_le (by omega)] at h3
    · cases h
end
end Go.PX

namespace Go.PX
def tys : Tys := (.nd (.nd (.nd (.nd (.nd (.nd .lf 1
 { size := 1, bytes := 8, kd := .other, isAgg := false, held := false, zero := some [.nilf] }
 .lf) 3
 { size := 1, bytes := 8, kd := (.int .i64), isAgg := false, held := false, zero := some [.int .i64 0] }
 (.nd .lf 4
 { size := 1, bytes := 1, kd := .bool, isAgg := false, held := false, zero := some [.bool false] }
 .lf)) 5
 { size := 1, bytes := 1, kd := (.int .u8), isAgg := false, held := false, zero := some [.int .u8 0] }
 (.nd (.nd .lf 9
 { size := 1, bytes := 16, kd := .str, isAgg := false, held := false, zero := some [.str ⟨#[]⟩] }
 .lf) 21
 { size := 1, bytes := 4, kd := (.int .i32), isAgg := false, held := false, zero := some [.int .i32 0] }
 .lf)) 22
 { size := 1, bytes := 24, kd := (.slice 24), isAgg := false, held := false, zero := some [.nils] }
 (.nd (.nd (.nd .lf 24
 { size := 2, bytes := 16, kd := (.struct [(0, 3), (1, 3)]), isAgg := true, held := false, zero := some [.int .i64 0, .int .i64 0] }
 .lf) 26
 { size := 8, bytes := 80, kd := (.struct [(0, 3), (1, 22), (2, 24), (4, 24), (6, 3), (7, 3)]), isAgg := true, held := false, zero := some [.int .i64 0, .nils, .int .i64 0, .int .i64 0, .int .i64 0, .int .i64 0, .int .i64 0, .int .i64 0] }
 (.nd .lf 27
 { size := 1, bytes := 24, kd := (.slice 3), isAgg := false, held := false, zero := some [.nils] }
 .lf)) 28
 { size := 1, bytes := 24, kd := (.slice 76), isAgg := false, held := false, zero := some [.nils] }
 (.nd (.nd .lf 30
 { size := 10, bytes := 128, kd := (.struct [(0, 26), (8, 27), (9, 28)]), isAgg := true, held := false, zero := some [.int .i64 0, .nils, .int .i64 0, .int .i64 0, .int .i64 0, .int .i64 0, .int .i64 0, .int .i64 0, .nils, .nils] }
 .lf) 31
 { size := 1, bytes := 24, kd := (.slice 53), isAgg := false, held := false, zero := some [.nils] }
 .lf))) 33
 { size := 2, bytes := 32, kd := (.struct [(0, 3), (1, 27)]), isAgg := true, held := false, zero := some [.int .i64 0, .nils] }
 (.nd (.nd (.nd (.nd .lf 34
 { size := 1, bytes := 8, kd := (.int .i64), isAgg := false, held := false, zero := some [.int .i64 0] }
 .lf) 51
 { size := 1, bytes := 24, kd := (.slice 93), isAgg := false, held := false, zero := some [.nils] }
 (.nd .lf 53
 { size := 2, bytes := 40, kd := (.struct [(0, 9), (1, 51)]), isAgg := true, held := false, zero := some [.str ⟨#[]⟩, .nils] }
 .lf)) 68
 { size := 1, bytes := 24, kd := (.slice 5), isAgg := false, held := false, zero := some [.nils] }
 (.nd (.nd .lf 72
 { size := 1, bytes := 24, kd := (.slice 4), isAgg := false, held := false, zero := some [.nils] }
 .lf) 76
 { size := 2, bytes := 16, kd := (.struct [(0, 3), (1, 4)]), isAgg := true, held := false, zero := some [.int .i64 0, .bool false] }
 .lf)) 88
 { size := 2, bytes := 2, kd := (.array 2 5), isAgg := true, held := false, zero := some [.int .u8 0, .int .u8 0] }
 (.nd (.nd (.nd .lf 91
 { size := 2, bytes := 48, kd := (.array 2 68), isAgg := true, held := false, zero := some [.nils, .nils] }
 .lf) 93
 { size := 4, bytes := 32, kd := (.struct [(0, 24), (2, 24)]), isAgg := true, held := false, zero := some [.int .i64 0, .int .i64 0, .int .i64 0, .int .i64 0] }
 (.nd .lf 100
 { size := 1, bytes := 8, kd := .other, isAgg := false, held := false, zero := some [.nilf] }
 .lf)) 102
 { size := 1, bytes := 8, kd := .other, isAgg := false, held := false, zero := some [.nilf] }
 (.nd (.nd .lf 103
 { size := 1, bytes := 24, kd := (.slice 9), isAgg := false, held := false, zero := some [.nils] }
 .lf) 109
 { size := 1, bytes := 8, kd := .other, isAgg := false, held := false, zero := some [.nilf] }
 .lf)))) 110
 { size := 1, bytes := 8, kd := .other, isAgg := false, held := false, zero := some [.nilf] }
 (.nd (.nd (.nd (.nd (.nd .lf 113
 { size := 3, bytes := 56, kd := (.struct [(0, 33), (2, 72)]), isAgg := true, held := false, zero := some [.int .i64 0, .nils, .nils] }
 .lf) 115
 { size := 1, bytes := 24, kd := (.slice 33), isAgg := false, held := false, zero := some [.nils] }
 (.nd .lf 116
 { size := 1, bytes := 24, kd := (.slice 72), isAgg := false, held := false, zero := some [.nils] }
 .lf)) 119
 { size := 1, bytes := 8, kd := .other, isAgg := false, held := false, zero := some [.nilf] }
 (.nd (.nd .lf 120
 { size := 1, bytes := 8, kd := .other, isAgg := false, held := false, zero := some [.nilp] }
 .lf) 123
 { size := 1, bytes := 8, kd := .other, isAgg := false, held := false, zero := some [.nilf] }
 .lf)) 124
 { size := 1, bytes := 8, kd := .other, isAgg := false, held := false, zero := some [.nilf] }
 (.nd (.nd (.nd .lf 127
 { size := 1, bytes := 8, kd := .other, isAgg := false, held := false, zero := some [.nilf] }
 .lf) 133
 { size := 3, bytes := 40, kd := (.struct [(0, 33), (2, 3)]), isAgg := true, held := false, zero := some [.int .i64 0, .nils, .int .i64 0] }
 (.nd .lf 136
 { size := 1, bytes := 8, kd := .other, isAgg := false, held := false, zero := some [.nilf] }
 .lf)) 137
 { size := 1, bytes := 8, kd := .other, isAgg := false, held := false, zero := some [.nilf] }
 (.nd (.nd .lf 139
 { size := 1, bytes := 8, kd := .other, isAgg := false, held := false, zero := some [.nilf] }
 .lf) 144
 { size := 1, bytes := 8, kd := .other, isAgg := false, held := false, zero := some [.nilf] }
 .lf))) 151
 { size := 120, bytes := 120, kd := (.array 120 4), isAgg := true, held := false, zero := some [.bool false, .bool false, .bool false, .bool false, .bool false, .bool false, .bool false, .bool false, .bool false, .bool false, .bool false, .bool false, .bool false, .bool false, .bool false, .bool false, .bool false, .bool false, .bool false, .bool false, .bool false, .bool false, .bool false, .bool false, .bool false, .bool false, .bool false, .bool false, .bool false, .bool false, .bool false, .bool false, .bool false, .bool false, .bool false, .bool false, .bool false, .bool false, .bool false, .bool false, .bool false, .bool false, .bool false, .bool false, .bool false, .bool false, .bool false, .bool false, .bool false, .bool false, .bool false, .bool false, .bool false, .bool false, .bool false, .bool false, .bool false, .bool false, .bool false, .bool false, .bool false, .bool false, .bool false, .bool false, .bool false, .bool false, .bool false, .bool false, .bool false, .bool false, .bool false, .bool false, .bool false, .bool false, .bool false, .bool false, .bool false, .bool false, .bool false, .bool false, .bool false, .bool false, .bool false, .bool false, .bool false, .bool false, .bool false, .bool false, .bool false, .bool false, .bool false, .bool false, .bool false, .bool false, .bool false, .bool false, .bool false, .bool false, .bool false, .bool false, .bool false, .bool false, .bool false, .bool false, .bool false, .bool false, .bool false, .bool false, .bool false, .bool false, .bool false, .bool false, .bool false, .bool false, .bool false, .bool false, .bool false, .bool false, .bool false, .bool false] }
 (.nd (.nd (.nd (.nd .lf 153
 { size := 128, bytes := 200, kd := (.struct [(0, 26), (8, 151)]), isAgg := true, held := false, zero := some [.int .i64 0, .nils, .int .i64 0, .int .i64 0, .int .i64 0, .int .i64 0, .int .i64 0, .int .i64 0, .bool false, .bool false, .bool false, .bool false, .bool false, .bool false, .bool false, .bool false, .bool false, .bool false, .bool false, .bool false, .bool false, .bool false, .bool false, .bool false, .bool false, .bool false, .bool false, .bool false, .bool false, .bool false, .bool false, .bool false, .bool false, .bool false, .bool false, .bool false, .bool false, .bool false, .bool false, .bool false, .bool false, .bool false, .bool false, .bool false, .bool false, .bool false, .bool false, .bool false, .bool false, .bool false, .bool false, .bool false, .bool false, .bool false, .bool false, .bool false, .bool false, .bool false, .bool false, .bool false, .bool false, .bool false, .bool false, .bool false, .bool false, .bool false, .bool false, .bool false, .bool false, .bool false, .bool false, .bool false, .bool false, .bool false, .bool false, .bool false, .bool false, .bool false, .bool false, .bool false, .bool false, .bool false, .bool false, .bool false, .bool false, .bool false, .bool false, .bool false, .bool false, .bool false, .bool false, .bool false, .bool false, .bool false, .bool false, .bool false, .bool false, .bool false, .bool false, .bool false, .bool false, .bool false, .bool false, .bool false, .bool false, .bool false, .bool false, .bool false, .bool false, .bool false, .bool false, .bool false, .bool false, .bool false, .bool false, .bool false, .bool false, .bool false, .bool false, .bool false, .bool false, .bool false, .bool false, .bool false, .bool false, .bool false, .bool false, .bool false] }
 .lf) 155
 { size := 1, bytes := 8, kd := (.map 3 3), isAgg := false, held := false, zero := some [.nilm] }
 (.nd .lf 156
 { size := 1, bytes := 8, kd := .other, isAgg := false, held := false, zero := some [.nilf] }
 .lf)) 157
 { size := 1, bytes := 8, kd := .other, isAgg := false, held := false, zero := some [.nilf] }
 (.nd (.nd .lf 160
 { size := 1, bytes := 8, kd := .other, isAgg := false, held := false, zero := some [.nilf] }
 .lf) 162
 { size := 1, bytes := 24, kd := (.slice 27), isAgg := false, held := false, zero := some [.nils] }
 .lf)) 164
 { size := 1, bytes := 8, kd := (.map 169 3), isAgg := false, held := false, zero := some [.nilm] }
 (.nd (.nd (.nd .lf 165
 { size := 1, bytes := 8, kd := (.int .i64), isAgg := false, held := false, zero := some [.int .i64 0] }
 .lf) 167
 { size := 1, bytes := 16, kd := .iface, isAgg := false, held := false, zero := some [.nili] }
 .lf) 169
 { size := 3, bytes := 32, kd := (.struct [(0, 167), (1, 3), (2, 4)]), isAgg := true, held := false, zero := some [.nili, .int .i64 0, .bool false] }
 (.nd (.nd .lf 170
 { size := 1, bytes := 8, kd := (.int .i64), isAgg := false, held := false, zero := some [.int .i64 0] }
 .lf) 173
 { size := 1, bytes := 8, kd := .other, isAgg := false, held := false, zero := some [.nilf] }
 .lf)))))
end Go.PX

namespace Go.PX
open Go.Proofs
theorem tysOk : TysOk Try.prog tys := tysB_spec (by decide +kernel)
theorem mixed : Try.prog.follows .mixedOrders = true := by decide +kernel
end Go.PX

namespace Go.PX
def ft0 : FT := ⟨[], []⟩
def ft1 : FT := ⟨[], []⟩
def ft2 : FT := ⟨[], []⟩
def ft3 : FT := ⟨[0, 1, 2, 3, 5, 6, 7, 8, 9, 10, 11, 12, 13, 14, 39, 57], []⟩
def ft4 : FT := ⟨[0, 1, 2, 4, 5, 6, 7, 8, 9, 10, 11, 12, 13, 14, 40, 60], []⟩
def ft5 : FT := ⟨[0, 1, 2, 3, 4, 6, 7, 8, 9, 10, 11, 12, 13, 14, 15, 18, 43, 71], []⟩
def ft6 : FT := ⟨[0, 1, 2, 3, 4, 5, 6, 7, 8, 9, 10, 30], []⟩
def ft7 : FT := ⟨[0, 1, 2, 3, 4, 5, 6, 7, 8, 9, 10, 11, 12, 13, 14, 17, 18, 19, 20, 21], [(11, ⟨[], [⟨[1], []⟩, ⟨[], [0]⟩, ⟨[72, 73], []⟩, ⟨[74], []⟩, ⟨[71], []⟩, ⟨[71], [4]⟩, ⟨[75], [5]⟩, ⟨[76], []⟩]⟩), (12, ⟨[115, 126, 152], [⟨[3], []⟩, ⟨[77], []⟩, ⟨[78], []⟩, ⟨[6, 79], []⟩, ⟨[79, 80], []⟩, ⟨[79, 81], []⟩, ⟨[82], []⟩, ⟨[8, 83], []⟩, ⟨[83, 84], []⟩, ⟨[83, 85], []⟩, ⟨[86], []⟩, ⟨[10, 87], []⟩, ⟨[87, 88], []⟩, ⟨[87, 89], []⟩, ⟨[90], []⟩, ⟨[12, 91], []⟩, ⟨[91, 92], []⟩, ⟨[91, 93], []⟩, ⟨[94], []⟩, ⟨[14, 95], []⟩, ⟨[95, 96], []⟩, ⟨[95, 97], []⟩, ⟨[98], []⟩, ⟨[19, 99], []⟩, ⟨[99, 100], []⟩, ⟨[99, 101], []⟩, ⟨[102], []⟩, ⟨[21, 103], []⟩, ⟨[103, 104], []⟩, ⟨[103, 105], []⟩, ⟨[106], []⟩, ⟨[17, 107], []⟩, ⟨[107, 108], []⟩, ⟨[107, 109], []⟩, ⟨[110], []⟩, ⟨[2, 111], []⟩, ⟨[111], [35]⟩, ⟨[111], [35]⟩, ⟨[111, 113, 114], [35]⟩, ⟨[111, 112, 115], []⟩, ⟨[111, 116], []⟩, ⟨[117], []⟩, ⟨[4, 118], []⟩, ⟨[118], [42]⟩, ⟨[118, 119, 120], []⟩, ⟨[118, 121], []⟩, ⟨[122], []⟩, ⟨[5, 123], []⟩, ⟨[123], [47]⟩, ⟨[123, 125], [47]⟩, ⟨[123, 124, 126], []⟩, ⟨[123, 127], []⟩, ⟨[128], []⟩, ⟨[7, 129], []⟩, ⟨[129, 130], []⟩, ⟨[129, 131], []⟩, ⟨[132], []⟩, ⟨[9, 133], []⟩, ⟨[133, 134], []⟩, ⟨[133, 135], []⟩, ⟨[136], []⟩, ⟨[11, 137], []⟩, ⟨[137, 138], []⟩, ⟨[137, 139], []⟩, ⟨[137, 140], []⟩, ⟨[141], []⟩, ⟨[13, 142], []⟩, ⟨[142, 143], []⟩, ⟨[142, 144], []⟩, ⟨[145], []⟩, ⟨[18, 146], []⟩, ⟨[146, 147], []⟩, ⟨[146, 148], []⟩, ⟨[149], []⟩, ⟨[20, 150], []⟩, ⟨[150], [74]⟩, ⟨[150, 151, 152], []⟩, ⟨[150, 153], []⟩, ⟨[154], []⟩, ⟨[155], []⟩, ⟨[155, 156], []⟩, ⟨[157], []⟩]⟩)]⟩
def ft8 : FT := ⟨[0, 1, 2, 3, 6, 8, 9, 10, 11, 12, 13, 14, 15, 16, 17, 18, 19, 20, 21, 22, 23, 24, 25, 26, 27, 28, 31, 97, 101, 127, 135, 179, 184, 214, 217, 226, 230, 265], [(14, ⟨[], [⟨[9], []⟩, ⟨[104], []⟩, ⟨[17], [0, 1]⟩, ⟨[105, 106], []⟩, ⟨[107], []⟩, ⟨[13], [0, 1, 2, 3, 4]⟩, ⟨[17], [0, 1, 2, 3, 4, 5]⟩, ⟨[109, 110], [0, 1, 2, 3, 4]⟩, ⟨[111], [0, 1, 2, 3, 4]⟩, ⟨[112], [0, 1, 2, 3, 4]⟩, ⟨[108, 113], []⟩, ⟨[114], []⟩, ⟨[9, 115], []⟩, ⟨[115, 116], []⟩, ⟨[17, 115], [12, 13]⟩, ⟨[115, 117, 118], []⟩, ⟨[115, 119], []⟩, ⟨[13, 115], [12, 13, 14, 15, 16]⟩, ⟨[17, 115], [12, 13, 14, 15, 16, 17]⟩, ⟨[115, 121, 122], [12, 13, 14, 15, 16]⟩, ⟨[115, 123], [12, 13, 14, 15, 16]⟩, ⟨[115, 124], [12, 13, 14, 15, 16]⟩, ⟨[115, 120, 125], []⟩, ⟨[115, 126], []⟩]⟩), (25, ⟨[], [⟨[10], []⟩, ⟨[10], [0]⟩, ⟨[189], [0]⟩, ⟨[21], [0, 1, 2]⟩, ⟨[190, 191], [0]⟩, ⟨[192], [0]⟩, ⟨[193], [0]⟩, ⟨[188, 194], []⟩, ⟨[195], []⟩, ⟨[187], []⟩, ⟨[187], [9]⟩, ⟨[196], [10]⟩, ⟨[197], []⟩]⟩), (36, ⟨[], [⟨[10], []⟩, ⟨[1], [0]⟩, ⟨[26], [0, 1]⟩, ⟨[235, 236], [0]⟩, ⟨[237], [0]⟩, ⟨[9], [0, 1, 2, 3, 4]⟩, ⟨[234, 238, 239], []⟩, ⟨[240], []⟩, ⟨[233], []⟩, ⟨[233], [8]⟩, ⟨[241], [9]⟩, ⟨[242], []⟩]⟩)]⟩
def ft9 : FT := ⟨[0, 1, 2, 3, 4, 6, 7, 8, 9, 10, 11, 12, 13, 14, 15, 31, 73, 75, 115], []⟩
def ft10 : FT := ⟨[0, 1, 2, 4, 5, 6, 7, 8, 9, 10, 13, 16, 17, 25, 44, 50, 65, 93, 126], [(4, ⟨[7, 8], [⟨[2], []⟩, ⟨[2], [0]⟩, ⟨[], [0, 1]⟩, ⟨[], [0, 1, 2]⟩, ⟨[7, 36], [1]⟩, ⟨[8, 37], []⟩]⟩), (11, ⟨[58, 59], [⟨[7], []⟩, ⟨[51], []⟩, ⟨[2], [0, 1]⟩, ⟨[53], [0, 1]⟩, ⟨[10], [0, 1, 2, 3]⟩, ⟨[54, 55], [0, 1]⟩, ⟨[56], [0, 1]⟩, ⟨[57], [0, 1]⟩, ⟨[52, 58], []⟩, ⟨[7], []⟩, ⟨[59, 60], []⟩]⟩), (14, ⟨[75, 76], [⟨[8], []⟩, ⟨[68], []⟩, ⟨[2], [0, 1]⟩, ⟨[70], [0, 1]⟩, ⟨[10], [0, 1, 2, 3]⟩, ⟨[71, 72], [0, 1]⟩, ⟨[73], [0, 1]⟩, ⟨[74], [0, 1]⟩, ⟨[69, 75], []⟩, ⟨[8], []⟩, ⟨[76, 77], []⟩]⟩), (20, ⟨[], [⟨[5], []⟩, ⟨[17], [0]⟩, ⟨[96, 97], []⟩, ⟨[98], []⟩, ⟨[99], []⟩, ⟨[100], []⟩, ⟨[5, 101], []⟩, ⟨[17, 101], [6]⟩, ⟨[101, 102, 103], []⟩, ⟨[101, 104], []⟩, ⟨[2, 101], [6, 7, 8, 9]⟩, ⟨[101, 106], [6, 7, 8, 9]⟩, ⟨[101, 107], [6, 7, 8, 9]⟩, ⟨[101, 105, 108], []⟩, ⟨[101, 109], []⟩, ⟨[110], []⟩, ⟨[17, 111], []⟩, ⟨[111, 112], []⟩, ⟨[111, 113], []⟩, ⟨[5, 114], []⟩, ⟨[17, 114], [19]⟩, ⟨[114, 115, 116], []⟩, ⟨[114, 117], []⟩, ⟨[5, 114], [19, 20, 21, 22]⟩, ⟨[17, 114], [19, 20, 21, 22, 23]⟩, ⟨[114, 120], [19, 20, 21, 22, 23]⟩, ⟨[114, 119, 121], [19, 20, 21, 22]⟩, ⟨[114, 122], [19, 20, 21, 22]⟩, ⟨[114, 118, 123], []⟩, ⟨[111, 114, 124], []⟩, ⟨[111, 125], []⟩]⟩)]⟩
def ft11 : FT := ⟨[0, 1, 2, 3, 4, 6, 7, 8, 9, 10, 11, 12, 13, 14, 15, 16, 38, 83, 87, 95, 115, 137, 142, 151, 161], [(16, ⟨[], [⟨[3], []⟩, ⟨[4], [0]⟩, ⟨[2], [0, 1]⟩, ⟨[12], [0, 1, 2]⟩, ⟨[119], [0, 1, 2]⟩, ⟨[118, 120], [0, 1]⟩, ⟨[3], [0, 1, 2, 3, 4, 5]⟩, ⟨[122], [0, 1, 2, 3, 4, 5]⟩, ⟨[121, 123], [0, 1]⟩, ⟨[3], [0, 1, 2, 3, 4, 5, 6, 7, 8]⟩, ⟨[125], [0, 1, 2, 3, 4, 5, 6, 7, 8]⟩, ⟨[2], [0, 1, 2, 3, 4, 5, 6, 7, 8, 9, 10]⟩, ⟨[12], [0, 1, 2, 3, 4, 5, 6, 7, 8, 9, 10, 11]⟩, ⟨[128], [0, 1, 2, 3, 4, 5, 6, 7, 8, 9, 10, 11]⟩, ⟨[129], [0, 1, 2, 3, 4, 5, 6, 7, 8, 9, 10, 11]⟩, ⟨[127, 130], [0, 1, 6, 7, 8, 9, 10]⟩, ⟨[126, 131], [0, 1, 6, 7, 8]⟩, ⟨[116, 117, 124, 132], []⟩, ⟨[13], [0, 1, 2, 3, 4, 5, 6, 7, 8, 9, 10, 11, 12, 13, 14, 15, 16, 17]⟩, ⟨[11], [0, 1, 2, 3, 4, 5, 6, 7, 8, 9, 10, 11, 12, 13, 14, 15, 16, 17, 18]⟩, ⟨[134, 135], [0, 1, 2, 3, 4, 5, 6, 7, 8, 9, 10, 11, 12, 13, 14, 15, 16, 17]⟩, ⟨[133, 136], []⟩]⟩)]⟩
def ft12 : FT := ⟨[0, 1, 2, 3, 5, 6, 7, 8, 9, 10, 11, 12, 13, 14, 15, 16, 17, 18, 19, 20, 21, 22, 23, 24, 33, 68, 104, 108, 134, 169, 172, 189, 198], [(4, ⟨[36, 39, 52, 53], [⟨[], []⟩, ⟨[3], [0]⟩, ⟨[37], [0]⟩, ⟨[36, 38], []⟩, ⟨[5], [0, 1, 2, 3]⟩, ⟨[40], [0, 1, 2, 3]⟩, ⟨[41], [0, 1, 2, 3]⟩, ⟨[3], [0, 1, 2, 3, 4, 5, 6]⟩, ⟨[43], [0, 1, 2, 3, 4, 5, 6]⟩, ⟨[44], [0, 1, 2, 3, 4, 5, 6]⟩, ⟨[42, 45], [0, 1, 2, 3]⟩, ⟨[5], [0, 1, 2, 3, 4, 5, 6, 7, 8, 9, 10]⟩, ⟨[47], [0, 1, 2, 3, 4, 5, 6, 7, 8, 9, 10]⟩, ⟨[48], [0, 1, 2, 3, 4, 5, 6, 7, 8, 9, 10]⟩, ⟨[49], [0, 1, 2, 3, 4, 5, 6, 7, 8, 9, 10]⟩, ⟨[46, 50], []⟩, ⟨[51], []⟩, ⟨[39, 52], []⟩, ⟨[7], []⟩, ⟨[53, 54], []⟩]⟩), (14, ⟨[], [⟨[12], []⟩, ⟨[14], [0]⟩, ⟨[111, 112], []⟩, ⟨[113], []⟩, ⟨[114], []⟩, ⟨[9], [0, 1, 2, 3, 4]⟩, ⟨[14], [0, 1, 2, 3, 4, 5]⟩, ⟨[116, 117], [0, 1, 2, 3, 4]⟩, ⟨[118], [0, 1, 2, 3, 4]⟩, ⟨[119], [0, 1, 2, 3, 4]⟩, ⟨[115, 120], []⟩, ⟨[121], []⟩, ⟨[12, 122], []⟩, ⟨[14, 122], [12]⟩, ⟨[122, 123, 124], []⟩, ⟨[122, 125], []⟩, ⟨[122, 126], []⟩, ⟨[9, 122], [12, 13, 14, 15, 16]⟩, ⟨[14, 122], [12, 13, 14, 15, 16, 17]⟩, ⟨[122, 128, 129], [12, 13, 14, 15, 16]⟩, ⟨[122, 130], [12, 13, 14, 15, 16]⟩, ⟨[122, 131], [12, 13, 14, 15, 16]⟩, ⟨[122, 127, 132], []⟩, ⟨[122, 133], []⟩]⟩)]⟩
def ft13 : FT := ⟨[0, 1, 2, 3, 4, 5, 6, 7, 8, 9, 10, 11, 12, 13, 14, 15, 16, 17, 18, 27, 36], [(8, ⟨[], [⟨[9], []⟩, ⟨[44], []⟩, ⟨[45], []⟩, ⟨[5], [0, 1, 2]⟩, ⟨[47], [0, 1, 2]⟩, ⟨[8], [0, 1, 2, 3, 4]⟩, ⟨[49], [0, 1, 2, 3, 4]⟩, ⟨[48, 50], [0, 1, 2]⟩, ⟨[51], [0, 1, 2]⟩, ⟨[46, 52], []⟩, ⟨[53], []⟩, ⟨[9], [0, 1, 2, 3, 4, 5, 6, 7, 8, 9, 10]⟩, ⟨[55], [0, 1, 2, 3, 4, 5, 6, 7, 8, 9, 10]⟩, ⟨[56], [0, 1, 2, 3, 4, 5, 6, 7, 8, 9, 10]⟩, ⟨[5], [0, 1, 2, 3, 4, 5, 6, 7, 8, 9, 10, 11, 12, 13]⟩, ⟨[58], [0, 1, 2, 3, 4, 5, 6, 7, 8, 9, 10, 11, 12, 13]⟩, ⟨[8], [0, 1, 2, 3, 4, 5, 6, 7, 8, 9, 10, 11, 12, 13, 14, 15]⟩, ⟨[60], [0, 1, 2, 3, 4, 5, 6, 7, 8, 9, 10, 11, 12, 13, 14, 15]⟩, ⟨[61], [0, 1, 2, 3, 4, 5, 6, 7, 8, 9, 10, 11, 12, 13, 14, 15]⟩, ⟨[59, 62], [0, 1, 2, 8, 9, 10, 11, 12, 13]⟩, ⟨[63], [0, 1, 2, 8, 9, 10, 11, 12, 13]⟩, ⟨[57, 64], [0, 1, 2, 8, 9, 10]⟩, ⟨[65], [0, 1, 2, 8, 9, 10]⟩, ⟨[54, 66], []⟩, ⟨[9], []⟩, ⟨[67, 68], []⟩]⟩), (9, ⟨[], [⟨[9], []⟩, ⟨[69], []⟩, ⟨[70], []⟩, ⟨[5], [0, 1, 2]⟩, ⟨[72], [0, 1, 2]⟩, ⟨[8], [0, 1, 2, 3, 4]⟩, ⟨[74], [0, 1, 2, 3, 4]⟩, ⟨[75], [0, 1, 2, 3, 4]⟩, ⟨[73, 76], [0, 1, 2]⟩, ⟨[77], [0, 1, 2]⟩, ⟨[71, 78], []⟩, ⟨[79], []⟩, ⟨[9], [0, 1, 2, 3, 4, 5, 6, 7, 8, 9, 10, 11]⟩, ⟨[81], [0, 1, 2, 3, 4, 5, 6, 7, 8, 9, 10, 11]⟩, ⟨[82], [0, 1, 2, 3, 4, 5, 6, 7, 8, 9, 10, 11]⟩, ⟨[5], [0, 1, 2, 3, 4, 5, 6, 7, 8, 9, 10, 11, 12, 13, 14]⟩, ⟨[84], [0, 1, 2, 3, 4, 5, 6, 7, 8, 9, 10, 11, 12, 13, 14]⟩, ⟨[8], [0, 1, 2, 3, 4, 5, 6, 7, 8, 9, 10, 11, 12, 13, 14, 15, 16]⟩, ⟨[86], [0, 1, 2, 3, 4, 5, 6, 7, 8, 9, 10, 11, 12, 13, 14, 15, 16]⟩, ⟨[87], [0, 1, 2, 3, 4, 5, 6, 7, 8, 9, 10, 11, 12, 13, 14, 15, 16]⟩, ⟨[85, 88], [0, 1, 2, 9, 10, 11, 12, 13, 14]⟩, ⟨[89], [0, 1, 2, 9, 10, 11, 12, 13, 14]⟩, ⟨[83, 90], [0, 1, 2, 9, 10, 11]⟩, ⟨[91], [0, 1, 2, 9, 10, 11]⟩, ⟨[80, 92], []⟩, ⟨[9], []⟩, ⟨[93, 94], []⟩]⟩)]⟩
def ft14 : FT := ⟨[0, 1, 2, 3, 4, 6, 7, 8, 9, 10, 11, 12, 13, 14, 15, 16, 17, 18, 19, 20, 21, 22, 23, 24, 25, 34, 70, 101, 154], [(3, ⟨[], [⟨[2], []⟩, ⟨[36], []⟩, ⟨[3], [0, 1]⟩, ⟨[38], [0, 1]⟩, ⟨[39], [0, 1]⟩, ⟨[37, 40], []⟩, ⟨[3], [0, 1, 2, 3, 4, 5]⟩, ⟨[42], [0, 1, 2, 3, 4, 5]⟩, ⟨[43], [0, 1, 2, 3, 4, 5]⟩, ⟨[44], [0, 1, 2, 3, 4, 5]⟩, ⟨[41, 45], []⟩, ⟨[46], []⟩]⟩), (10, ⟨[95, 96], [⟨[8], []⟩, ⟨[73], []⟩, ⟨[74], []⟩, ⟨[3], [0, 1, 2]⟩, ⟨[76], [0, 1, 2]⟩, ⟨[77], [0, 1, 2]⟩, ⟨[9], [0, 1, 2, 3, 4, 5]⟩, ⟨[78, 79], [0, 1, 2]⟩, ⟨[80], [0, 1, 2]⟩, ⟨[81], [0, 1, 2]⟩, ⟨[7], [0, 1, 2, 3, 4, 5, 6, 7, 8, 9]⟩, ⟨[82, 83], [0, 1, 2]⟩, ⟨[3], [0, 1, 2, 3, 4, 5, 6, 7, 8, 9, 10, 11]⟩, ⟨[85], [0, 1, 2, 3, 4, 5, 6, 7, 8, 9, 10, 11]⟩, ⟨[86], [0, 1, 2, 3, 4, 5, 6, 7, 8, 9, 10, 11]⟩, ⟨[9], [0, 1, 2, 3, 4, 5, 6, 7, 8, 9, 10, 11, 12, 13, 14]⟩, ⟨[87, 88], [0, 1, 2, 3, 4, 5, 6, 7, 8, 9, 10, 11]⟩, ⟨[89], [0, 1, 2, 3, 4, 5, 6, 7, 8, 9, 10, 11]⟩, ⟨[90], [0, 1, 2, 3, 4, 5, 6, 7, 8, 9, 10, 11]⟩, ⟨[7], [0, 1, 2, 3, 4, 5, 6, 7, 8, 9, 10, 11, 12, 13, 14, 15, 16, 17, 18]⟩, ⟨[91, 92], [0, 1, 2, 3, 4, 5, 6, 7, 8, 9, 10, 11]⟩, ⟨[84, 93], [0, 1, 2]⟩, ⟨[94], [0, 1, 2]⟩, ⟨[75, 95], []⟩, ⟨[8], []⟩, ⟨[97], []⟩, ⟨[96, 98], []⟩]⟩)]⟩
def ft15 : FT := ⟨[0, 1, 2, 3, 4, 5, 6, 7, 8, 9, 18, 25, 27, 28, 29, 30, 34, 43, 53, 55, 56, 57, 58, 69], []⟩
def ft16 : FT := ⟨[0, 1, 2, 3, 4, 5, 6, 7, 8, 9, 10, 19, 30, 35, 45, 62, 67, 72, 83], [(12, ⟨[], [⟨[9], []⟩, ⟨[47], []⟩, ⟨[48], []⟩, ⟨[1, 49], []⟩, ⟨[49, 50], []⟩, ⟨[9, 49], [3, 4]⟩, ⟨[49, 51, 52], []⟩, ⟨[49, 53], []⟩, ⟨[1, 49], [3, 4, 5, 6, 7]⟩, ⟨[49, 55], [3, 4, 5, 6, 7]⟩, ⟨[9, 49], [3, 4, 5, 6, 7, 8, 9]⟩, ⟨[49, 57], [3, 4, 5, 6, 7, 8, 9]⟩, ⟨[49, 56, 58], [3, 4, 5, 6, 7]⟩, ⟨[49, 59], [3, 4, 5, 6, 7]⟩, ⟨[49, 54, 60], []⟩, ⟨[49, 61], []⟩]⟩)]⟩
def ft17 : FT := ⟨[0, 2, 3, 4, 5, 9, 10, 11, 12, 13, 17, 23, 30, 37, 42], []⟩
def ft18 : FT := ⟨[0, 2, 3, 4, 5, 6, 10, 14, 33, 41], []⟩
def ft19 : FT := ⟨[0, 1, 2, 3, 4, 5, 6, 7, 8, 16, 21, 25, 26, 27, 28, 32, 44], []⟩
def ft20 : FT := ⟨[0, 1, 2, 3, 4, 5, 8, 20], []⟩
def ft21 : FT := ⟨[0, 1, 4, 5, 10, 14, 25], [(6, ⟨[], [⟨[0], []⟩, ⟨[5], [0]⟩, ⟨[17, 18], []⟩, ⟨[19], []⟩, ⟨[1], [0, 1, 2, 3]⟩, ⟨[5], [0, 1, 2, 3, 4]⟩, ⟨[21, 22], [0, 1, 2, 3]⟩, ⟨[23], [0, 1, 2, 3]⟩, ⟨[20, 24], []⟩]⟩)]⟩
def ft22 : FT := ⟨[0, 1, 2, 3, 4, 5, 6, 7, 8, 9, 10, 11, 12, 13, 14, 15, 16, 17, 18, 19, 22, 23, 24, 25, 26, 27, 28, 30], [(10, ⟨[20], [⟨[1], []⟩, ⟨[], [0]⟩, ⟨[86, 87], []⟩, ⟨[88], []⟩, ⟨[85], []⟩, ⟨[85], [4]⟩, ⟨[85], [4, 5]⟩, ⟨[], [0, 1, 2, 3, 4, 5, 6]⟩, ⟨[20, 89], [5, 6]⟩, ⟨[90], [6]⟩, ⟨[91], []⟩]⟩), (15, ⟨[175, 186, 199, 221], [⟨[3], []⟩, ⟨[119], []⟩, ⟨[120], []⟩, ⟨[6, 121], []⟩, ⟨[121, 122], []⟩, ⟨[121, 123], []⟩, ⟨[124], []⟩, ⟨[8, 125], []⟩, ⟨[125, 126], []⟩, ⟨[125, 127], []⟩, ⟨[128], []⟩, ⟨[10, 129], []⟩, ⟨[129, 130], []⟩, ⟨[129, 131], []⟩, ⟨[132], []⟩, ⟨[12, 133], []⟩, ⟨[133, 134], []⟩, ⟨[133, 135], []⟩, ⟨[136], []⟩, ⟨[14, 137], []⟩, ⟨[137, 138], []⟩, ⟨[137, 139], []⟩, ⟨[140], []⟩, ⟨[16, 141], []⟩, ⟨[141, 142], []⟩, ⟨[141, 143], []⟩, ⟨[144], []⟩, ⟨[19, 145], []⟩, ⟨[145, 146], []⟩, ⟨[145, 147], []⟩, ⟨[148], []⟩, ⟨[24, 149], []⟩, ⟨[149, 150], []⟩, ⟨[149, 151], []⟩, ⟨[152], []⟩, ⟨[26, 153], []⟩, ⟨[153, 154], []⟩, ⟨[153, 155], []⟩, ⟨[156], []⟩, ⟨[28, 157], []⟩, ⟨[157, 158], []⟩, ⟨[157, 159], []⟩, ⟨[160], []⟩, ⟨[22, 161], []⟩, ⟨[161, 162], []⟩, ⟨[161, 163], []⟩, ⟨[164], []⟩, ⟨[30, 165], []⟩, ⟨[165, 166], []⟩, ⟨[165, 167], []⟩, ⟨[168], []⟩, ⟨[2, 169], []⟩, ⟨[169], [51]⟩, ⟨[169], [51]⟩, ⟨[169], [51]⟩, ⟨[169], [51]⟩, ⟨[169, 171, 172, 173, 174], [51]⟩, ⟨[169, 170, 175], []⟩, ⟨[169, 176], []⟩, ⟨[177], []⟩, ⟨[4, 178], []⟩, ⟨[178], [60]⟩, ⟨[178, 179, 180], []⟩, ⟨[178, 181], []⟩, ⟨[182], []⟩, ⟨[5, 183], []⟩, ⟨[183], [65]⟩, ⟨[183, 185], [65]⟩, ⟨[183, 184, 186], []⟩, ⟨[183, 187], []⟩, ⟨[188], []⟩, ⟨[7, 189], []⟩, ⟨[189, 190], []⟩, ⟨[189, 191], []⟩, ⟨[192], []⟩, ⟨[9, 193], []⟩, ⟨[193, 194], []⟩, ⟨[193, 195], []⟩, ⟨[196], []⟩, ⟨[11, 197], []⟩, ⟨[197], [79]⟩, ⟨[197, 198, 199], []⟩, ⟨[197, 200], []⟩, ⟨[201], []⟩, ⟨[13, 202], []⟩, ⟨[202, 203], []⟩, ⟨[202, 204], []⟩, ⟨[205], []⟩, ⟨[15, 206], []⟩, ⟨[206, 207], []⟩, ⟨[206, 208], []⟩, ⟨[209], []⟩, ⟨[17, 210], []⟩, ⟨[210], [92]⟩, ⟨[210, 211, 212], []⟩, ⟨[210, 213], []⟩, ⟨[214], []⟩, ⟨[18, 215], []⟩, ⟨[215, 216], []⟩, ⟨[215, 217], []⟩, ⟨[218], []⟩, ⟨[23, 219], []⟩, ⟨[219], [101]⟩, ⟨[219, 220, 221], []⟩, ⟨[219, 222], []⟩, ⟨[223], []⟩, ⟨[25, 224], []⟩, ⟨[224, 225], []⟩, ⟨[224, 226], []⟩, ⟨[227], []⟩, ⟨[27, 228], []⟩, ⟨[228, 229], []⟩, ⟨[228, 230], []⟩, ⟨[228, 231], []⟩, ⟨[232], []⟩, ⟨[27, 233], []⟩, ⟨[233, 234], []⟩, ⟨[233, 235], []⟩, ⟨[233, 236], []⟩, ⟨[233, 237], []⟩, ⟨[238], []⟩]⟩)]⟩
def ft23 : FT := ⟨[0, 1, 2, 3, 4, 5, 7, 8, 9, 17, 21, 22, 24, 34, 35, 36, 37, 54, 55, 56, 57, 72], [(17, ⟨[], [⟨[3], []⟩, ⟨[8], [0]⟩, ⟨[3], [0, 1]⟩, ⟨[8], [0, 1, 2]⟩, ⟨[63, 64], [0, 1]⟩, ⟨[65], [0, 1]⟩, ⟨[9], [0, 1, 2, 3, 4, 5]⟩, ⟨[66, 67], [0, 1]⟩, ⟨[61, 62], []⟩, ⟨[68, 69], []⟩]⟩), (21, ⟨[], [⟨[2], []⟩, ⟨[3], [0]⟩, ⟨[2, 74], [1]⟩, ⟨[3, 75], []⟩, ⟨[], []⟩]⟩)]⟩
def ft24 : FT := ⟨[0, 1, 2, 3, 4, 7, 8, 10, 11, 12, 13, 14, 22, 32, 47, 68], [(7, ⟨[10], [⟨[8], []⟩, ⟨[34], []⟩, ⟨[35], []⟩, ⟨[36], []⟩, ⟨[8], [0, 1, 2, 3]⟩, ⟨[38], [0, 1, 2, 3]⟩, ⟨[39], [0, 1, 2, 3]⟩, ⟨[40], [0, 1, 2, 3]⟩, ⟨[37, 41], []⟩, ⟨[], [0, 1, 2, 3, 4, 5, 6, 7, 8]⟩, ⟨[10, 42], []⟩]⟩), (12, ⟨[13], [⟨[8], []⟩, ⟨[50], []⟩, ⟨[51], []⟩, ⟨[52], []⟩, ⟨[12], [0, 1, 2, 3]⟩, ⟨[53, 54], []⟩, ⟨[55], []⟩, ⟨[8], [0, 1, 2, 3, 4, 5, 6]⟩, ⟨[57], [0, 1, 2, 3, 4, 5, 6]⟩, ⟨[58], [0, 1, 2, 3, 4, 5, 6]⟩, ⟨[59], [0, 1, 2, 3, 4, 5, 6]⟩, ⟨[12], [0, 1, 2, 3, 4, 5, 6, 7, 8, 9, 10]⟩, ⟨[60, 61], [0, 1, 2, 3, 4, 5, 6]⟩, ⟨[62], [0, 1, 2, 3, 4, 5, 6]⟩, ⟨[56, 63], []⟩, ⟨[], [0, 1, 2, 3, 4, 5, 6, 7, 8, 9, 10, 11, 12, 13, 14]⟩, ⟨[13, 64], []⟩]⟩), (16, ⟨[], [⟨[13], []⟩, ⟨[71], []⟩, ⟨[8], [0, 1]⟩, ⟨[14], [0, 1, 2]⟩, ⟨[73, 74], [0, 1]⟩, ⟨[75], [0, 1]⟩, ⟨[76], [0, 1]⟩, ⟨[12], [0, 1, 2, 3, 4, 5, 6]⟩, ⟨[77, 78], [0, 1]⟩, ⟨[79], [0, 1]⟩, ⟨[72, 80], []⟩, ⟨[13], [0, 1, 2, 3, 4, 5, 6, 7, 8, 9, 10]⟩, ⟨[82], [0, 1, 2, 3, 4, 5, 6, 7, 8, 9, 10]⟩, ⟨[8], [0, 1, 2, 3, 4, 5, 6, 7, 8, 9, 10, 11, 12]⟩, ⟨[14], [0, 1, 2, 3, 4, 5, 6, 7, 8, 9, 10, 11, 12, 13]⟩, ⟨[84, 85], [0, 1, 2, 3, 4, 5, 6, 7, 8, 9, 10, 11, 12]⟩, ⟨[86], [0, 1, 2, 3, 4, 5, 6, 7, 8, 9, 10, 11, 12]⟩, ⟨[87], [0, 1, 2, 3, 4, 5, 6, 7, 8, 9, 10, 11, 12]⟩, ⟨[12], [0, 1, 2, 3, 4, 5, 6, 7, 8, 9, 10, 11, 12, 13, 14, 15, 16, 17]⟩, ⟨[88, 89], [0, 1, 2, 3, 4, 5, 6, 7, 8, 9, 10, 11, 12]⟩, ⟨[90], [0, 1, 2, 3, 4, 5, 6, 7, 8, 9, 10, 11, 12]⟩, ⟨[83, 91], [0, 1, 2, 3, 4, 5, 6, 7, 8, 9, 10]⟩, ⟨[81, 92], []⟩, ⟨[13, 93], []⟩]⟩), (17, ⟨[], [⟨[10], []⟩, ⟨[94], []⟩, ⟨[8], [0, 1]⟩, ⟨[14], [0, 1, 2]⟩, ⟨[96, 97], [0, 1]⟩, ⟨[98], [0, 1]⟩, ⟨[99], [0, 1]⟩, ⟨[95, 100], []⟩, ⟨[10], [0, 1, 2, 3, 4, 5, 6, 7]⟩, ⟨[102], [0, 1, 2, 3, 4, 5, 6, 7]⟩, ⟨[8], [0, 1, 2, 3, 4, 5, 6, 7, 8, 9]⟩, ⟨[14], [0, 1, 2, 3, 4, 5, 6, 7, 8, 9, 10]⟩, ⟨[104, 105], [0, 1, 2, 3, 4, 5, 6, 7, 8, 9]⟩, ⟨[106], [0, 1, 2, 3, 4, 5, 6, 7, 8, 9]⟩, ⟨[107], [0, 1, 2, 3, 4, 5, 6, 7, 8, 9]⟩, ⟨[103, 108], [0, 1, 2, 3, 4, 5, 6, 7]⟩, ⟨[101, 109], []⟩, ⟨[10, 110], []⟩]⟩)]⟩
def ft25 : FT := ⟨[0, 1, 2, 3, 4, 5, 8, 9, 10, 17, 21, 30, 31, 36, 41, 42, 44, 46], []⟩
def ft26 : FT := ⟨[0, 1, 2, 4, 5, 8, 10, 11, 12, 29, 31, 40, 44, 53, 57, 61], []⟩
def ft27 : FT := ⟨[0, 1, 2, 3, 6, 7, 8, 17], []⟩
def ft28 : FT := ⟨[0, 1, 2, 3, 6, 7, 8, 9, 10, 18, 36, 53], [(5, ⟨[], [⟨[1], []⟩, ⟨[22], []⟩, ⟨[1], [0, 1]⟩, ⟨[24], [0, 1]⟩, ⟨[1], [0, 1, 2, 3]⟩, ⟨[26], [0, 1, 2, 3]⟩, ⟨[7], [0, 1, 2, 3, 4, 5]⟩, ⟨[28], [0, 1, 2, 3, 4, 5]⟩, ⟨[29], [0, 1, 2, 3, 4, 5]⟩, ⟨[25, 27, 30], [0, 1]⟩, ⟨[23, 31], []⟩, ⟨[32], []⟩]⟩), (9, ⟨[], [⟨[1], []⟩, ⟨[39], []⟩, ⟨[1], [0, 1]⟩, ⟨[41], [0, 1]⟩, ⟨[1], [0, 1, 2, 3]⟩, ⟨[43], [0, 1, 2, 3]⟩, ⟨[7], [0, 1, 2, 3, 4, 5]⟩, ⟨[9], [0, 1, 2, 3, 4, 5, 6]⟩, ⟨[45, 46], [0, 1, 2, 3, 4, 5]⟩, ⟨[47], [0, 1, 2, 3, 4, 5]⟩, ⟨[42, 44, 48], [0, 1]⟩, ⟨[40, 49], []⟩, ⟨[50], []⟩]⟩)]⟩
def ft29 : FT := ⟨[0, 1, 4, 5, 10, 14, 25], [(6, ⟨[], [⟨[0], []⟩, ⟨[5], [0]⟩, ⟨[17, 18], []⟩, ⟨[19], []⟩, ⟨[1], [0, 1, 2, 3]⟩, ⟨[5], [0, 1, 2, 3, 4]⟩, ⟨[21, 22], [0, 1, 2, 3]⟩, ⟨[23], [0, 1, 2, 3]⟩, ⟨[20, 24], []⟩]⟩)]⟩
def ft30 : FT := ⟨[0, 1, 2, 3, 4, 5, 6, 7, 8, 14, 19], [(6, ⟨[], [⟨[3], []⟩, ⟨[5], [0]⟩, ⟨[21, 22], []⟩, ⟨[4], [0, 1, 2]⟩, ⟨[24], [0, 1, 2]⟩, ⟨[23, 25], []⟩, ⟨[26], []⟩, ⟨[], []⟩]⟩)]⟩
def ft31 : FT := ⟨[0, 1, 2, 3, 4, 5, 6, 7, 10, 24], [(2, ⟨[], [⟨[3], []⟩, ⟨[5], [0]⟩, ⟨[4], [0, 1]⟩, ⟨[10], [0, 1, 2]⟩, ⟨[19, 20], [0, 1]⟩, ⟨[17, 18, 21], []⟩, ⟨[22], []⟩]⟩), (5, ⟨[], [⟨[3], []⟩, ⟨[26], []⟩, ⟨[3], [0, 1]⟩, ⟨[28], [0, 1]⟩, ⟨[5], [0, 1, 2, 3]⟩, ⟨[27, 29, 30], []⟩, ⟨[4], [0, 1, 2, 3, 4, 5]⟩, ⟨[32], [0, 1, 2, 3, 4, 5]⟩, ⟨[31, 33], []⟩, ⟨[34], []⟩, ⟨[], []⟩]⟩)]⟩
def ft32 : FT := ⟨[0, 1, 2, 3, 4, 5, 6, 7, 8, 9, 15, 26, 30], [(10, ⟨[], [⟨[8], []⟩, ⟨[34], []⟩, ⟨[8], [0, 1]⟩, ⟨[36], [0, 1]⟩, ⟨[4, 35], [2, 3]⟩, ⟨[37], []⟩, ⟨[], []⟩]⟩)]⟩
def ft33 : FT := ⟨[0, 1, 2, 3, 4, 5, 6, 9, 10, 11, 12, 13, 14, 15, 26, 36, 44, 60, 64], [(8, ⟨[], [⟨[2], []⟩, ⟨[38], []⟩, ⟨[39], []⟩, ⟨[], [0, 1, 2]⟩, ⟨[40], []⟩]⟩), (12, ⟨[], [⟨[11], []⟩, ⟨[14], [0]⟩, ⟨[47, 48], []⟩, ⟨[49], []⟩, ⟨[3], [0, 1, 2, 3]⟩, ⟨[51], [0, 1, 2, 3]⟩, ⟨[50, 52], []⟩, ⟨[53], []⟩]⟩)]⟩
def ft34 : FT := ⟨[0, 1, 2, 3, 4], []⟩
def ft35 : FT := ⟨[0, 1, 2, 4, 5, 6, 7, 8, 13, 15, 16, 17, 18, 23, 24, 30], []⟩
def ft36 : FT := ⟨[0, 1, 2, 4, 5, 8, 10, 11, 12, 13, 14, 22, 29, 39, 49, 63], [(15, ⟨[], [⟨[10], []⟩, ⟨[14], [0]⟩, ⟨[52, 53], []⟩, ⟨[54], []⟩, ⟨[1], [0, 1, 2, 3]⟩, ⟨[12], [0, 1, 2, 3, 4]⟩, ⟨[56, 57], [0, 1, 2, 3]⟩, ⟨[58], [0, 1, 2, 3]⟩, ⟨[59], [0, 1, 2, 3]⟩, ⟨[55, 60], []⟩, ⟨[61], []⟩, ⟨[62], []⟩]⟩)]⟩
def ft37 : FT := ⟨[0, 1, 2, 3, 4, 5, 6, 7, 8, 9, 16, 27, 28, 35], []⟩
def ft38 : FT := ⟨[0, 1, 2, 3, 4, 5, 8, 9, 10, 11, 22, 29, 39], []⟩
def ft39 : FT := ⟨[0, 1, 2, 3, 4, 5, 6, 7, 15, 21, 22, 23], []⟩
def ft40 : FT := ⟨[0, 1, 2, 3, 4, 5, 6, 7, 8, 9, 17, 23], []⟩
def ft41 : FT := ⟨[0], []⟩
def ft42 : FT := ⟨[0, 2], []⟩
def ft43 : FT := ⟨[0, 1, 4], []⟩
def ft44 : FT := ⟨[0], []⟩
def ft45 : FT := ⟨[0], []⟩
def ft46 : FT := ⟨[0, 1, 4], []⟩
def ft47 : FT := ⟨[0, 1, 2, 5], []⟩
def ft48 : FT := ⟨[0, 1, 2, 4, 5, 6, 18], [(1, ⟨[5], [⟨[2], []⟩, ⟨[7], []⟩, ⟨[8], []⟩, ⟨[1], [0, 1, 2]⟩, ⟨[10], [0, 1, 2]⟩, ⟨[9, 11], []⟩, ⟨[12], []⟩, ⟨[], [0, 1, 2, 3, 4, 5, 6]⟩, ⟨[5, 13], []⟩]⟩), (5, ⟨[31, 32], [⟨[5], []⟩, ⟨[21], []⟩, ⟨[2], [0, 1]⟩, ⟨[23], [0, 1]⟩, ⟨[24], [0, 1]⟩, ⟨[1], [0, 1, 2, 3, 4]⟩, ⟨[6], [0, 1, 2, 3, 4, 5]⟩, ⟨[27], [0, 1, 2, 3, 4, 5]⟩, ⟨[26, 28], [0, 1, 2, 3, 4]⟩, ⟨[25, 29], [0, 1]⟩, ⟨[30], [0, 1]⟩, ⟨[22, 31], []⟩, ⟨[5], []⟩, ⟨[32, 33], []⟩]⟩)]⟩
def ft49 : FT := ⟨[0, 1, 2, 3, 4, 6, 7, 8, 9, 10, 21], [(7, ⟨[43, 44], [⟨[8], []⟩, ⟨[10], [0]⟩, ⟨[7], [0, 1]⟩, ⟨[10], [0, 1, 2]⟩, ⟨[32, 33], [0, 1]⟩, ⟨[34], [0, 1]⟩, ⟨[2], [0, 1, 2, 3, 4, 5]⟩, ⟨[9], [0, 1, 2, 3, 4, 5, 6]⟩, ⟨[36, 37], [0, 1, 2, 3, 4, 5]⟩, ⟨[38], [0, 1, 2, 3, 4, 5]⟩, ⟨[39], [0, 1, 2, 3, 4, 5]⟩, ⟨[35, 40], [0, 1]⟩, ⟨[31, 41], [0]⟩, ⟨[42], [0]⟩, ⟨[30, 43], []⟩, ⟨[44], []⟩]⟩)]⟩
def ft50 : FT := ⟨[0, 1, 2, 3, 5, 6, 7, 8, 9, 10, 11, 17, 31], [(9, ⟨[], [⟨[8], []⟩, ⟨[5], [0]⟩, ⟨[42], [0]⟩, ⟨[9], [0, 1, 2]⟩, ⟨[43, 44], [0]⟩, ⟨[45], [0]⟩, ⟨[11], [0, 1, 2, 3, 4, 5]⟩, ⟨[10], [0, 1, 2, 3, 4, 5, 6]⟩, ⟨[47, 48], [0, 1, 2, 3, 4, 5]⟩, ⟨[3], [0, 1, 2, 3, 4, 5, 6, 7, 8]⟩, ⟨[50], [0, 1, 2, 3, 4, 5, 6, 7, 8]⟩, ⟨[49, 51], [0, 1, 2, 3, 4, 5]⟩, ⟨[46, 52], [0]⟩, ⟨[53], [0]⟩, ⟨[41, 54], []⟩, ⟨[3], [0, 1, 2, 3, 4, 5, 6, 7, 8, 9, 10, 11, 12, 13, 14]⟩, ⟨[56], [0, 1, 2, 3, 4, 5, 6, 7, 8, 9, 10, 11, 12, 13, 14]⟩, ⟨[55, 57], []⟩, ⟨[58], []⟩]⟩)]⟩
def ft51 : FT := ⟨[0, 1, 4, 7], []⟩
def ft52 : FT := ⟨[0, 2, 4], []⟩
def ft53 : FT := ⟨[0, 1, 4, 5, 9, 17], []⟩
def ft54 : FT := ⟨[0, 1, 4, 5, 6, 7, 8, 9, 15, 23, 32], []⟩
def ft55 : FT := ⟨[0, 1, 2, 3, 4, 5, 6, 7, 8, 9, 17, 22, 28, 67], [(11, ⟨[], [⟨[8], []⟩, ⟨[31], []⟩, ⟨[5, 32], []⟩, ⟨[9, 32], [2]⟩, ⟨[32, 33, 34], []⟩, ⟨[32, 35], []⟩, ⟨[32, 36], []⟩, ⟨[2, 32], [2, 3, 4, 5, 6]⟩, ⟨[32, 38], [2, 3, 4, 5, 6]⟩, ⟨[7, 32], [2, 3, 4, 5, 6, 7, 8]⟩, ⟨[32, 39, 40], [2, 3, 4, 5, 6]⟩, ⟨[32, 41], [2, 3, 4, 5, 6]⟩, ⟨[32, 42], [2, 3, 4, 5, 6]⟩, ⟨[32, 37, 43], []⟩, ⟨[32, 44], []⟩, ⟨[2, 45], []⟩, ⟨[45, 46], []⟩, ⟨[7, 45], [15, 16]⟩, ⟨[45, 47, 48], []⟩, ⟨[45, 49], []⟩, ⟨[45, 50], []⟩, ⟨[5, 45], [15, 16, 17, 18, 19, 20]⟩, ⟨[9, 45], [15, 16, 17, 18, 19, 20, 21]⟩, ⟨[45, 52, 53], [15, 16, 17, 18, 19, 20]⟩, ⟨[45, 54], [15, 16, 17, 18, 19, 20]⟩, ⟨[45, 55], [15, 16, 17, 18, 19, 20]⟩, ⟨[45, 51, 56], []⟩, ⟨[32, 45, 57], []⟩, ⟨[32, 58], []⟩, ⟨[59], []⟩]⟩)]⟩
def ft56 : FT := ⟨[0, 1, 2, 3, 4, 5, 13, 25, 30, 47], [(8, ⟨[], [⟨[3], []⟩, ⟨[33], []⟩, ⟨[5], [0, 1]⟩, ⟨[34, 35], []⟩, ⟨[36], []⟩, ⟨[2], [0, 1, 2, 3, 4]⟩, ⟨[38], [0, 1, 2, 3, 4]⟩, ⟨[39], [0, 1, 2, 3, 4]⟩, ⟨[40], [0, 1, 2, 3, 4]⟩, ⟨[2], [0, 1, 2, 3, 4, 5, 6, 7, 8]⟩, ⟨[42], [0, 1, 2, 3, 4, 5, 6, 7, 8]⟩, ⟨[43], [0, 1, 2, 3, 4, 5, 6, 7, 8]⟩, ⟨[44], [0, 1, 2, 3, 4, 5, 6, 7, 8]⟩, ⟨[37, 41, 45], []⟩, ⟨[46], []⟩]⟩)]⟩
def ft57 : FT := ⟨[0, 1, 2, 3, 4, 5, 8, 9, 20], [(1, ⟨[13], [⟨[4], []⟩, ⟨[2], [0]⟩, ⟨[3], [0, 1]⟩, ⟨[12], [0, 1]⟩, ⟨[11, 13], [0]⟩, ⟨[10, 14], []⟩, ⟨[5], [0, 1, 2, 3, 4, 5]⟩, ⟨[16], [0, 1, 2, 3, 4, 5]⟩, ⟨[15, 17], []⟩, ⟨[18], []⟩]⟩)]⟩
def ft58 : FT := ⟨[0, 1, 2, 4], [(1, ⟨[], [⟨[2], []⟩, ⟨[5], []⟩, ⟨[1], [0, 1]⟩, ⟨[2], [0, 1, 2]⟩, ⟨[8], [0, 1, 2]⟩, ⟨[2], [0, 1, 2, 3, 4]⟩, ⟨[10], [0, 1, 2, 3, 4]⟩, ⟨[9, 11], [0, 1, 2]⟩, ⟨[12], [0, 1, 2]⟩, ⟨[7, 13], [0, 1]⟩, ⟨[6, 14], []⟩, ⟨[15], []⟩]⟩)]⟩
def ft59 : FT := ⟨[0, 1, 4], []⟩
def ft60 : FT := ⟨[0, 1, 2, 3, 4, 5, 6, 7, 8, 21, 27, 28, 29, 30, 34, 45, 61, 83], []⟩
def ft61 : FT := ⟨[0, 1, 2, 3, 4, 6], []⟩
def ft62 : FT := ⟨[0, 1, 2, 3, 4, 5, 6, 7, 8, 24, 28, 33, 66, 68, 85, 91], [(8, ⟨[], [⟨[1], []⟩, ⟨[36], []⟩, ⟨[5], [0, 1]⟩, ⟨[37, 38], []⟩, ⟨[39], []⟩, ⟨[1], [0, 1, 2, 3, 4]⟩, ⟨[41], [0, 1, 2, 3, 4]⟩, ⟨[42], [0, 1, 2, 3, 4]⟩, ⟨[40, 43], []⟩, ⟨[44], []⟩]⟩), (9, ⟨[], [⟨[6], []⟩, ⟨[45], []⟩, ⟨[46], []⟩, ⟨[5, 47], []⟩, ⟨[47, 48], []⟩, ⟨[47, 49], []⟩, ⟨[50], []⟩, ⟨[1, 51], []⟩, ⟨[51, 52], []⟩, ⟨[5, 51], [7, 8]⟩, ⟨[51, 53, 54], []⟩, ⟨[51, 55], []⟩, ⟨[51, 56], []⟩, ⟨[1, 51], [7, 8, 9, 10, 11, 12]⟩, ⟨[51, 58], [7, 8, 9, 10, 11, 12]⟩, ⟨[5, 51], [7, 8, 9, 10, 11, 12, 13, 14]⟩, ⟨[51, 60], [7, 8, 9, 10, 11, 12, 13, 14]⟩, ⟨[51, 59, 61], [7, 8, 9, 10, 11, 12]⟩, ⟨[51, 62], [7, 8, 9, 10, 11, 12]⟩, ⟨[51, 63], [7, 8, 9, 10, 11, 12]⟩, ⟨[51, 57, 64], []⟩, ⟨[51, 65], []⟩]⟩), (13, ⟨[], [⟨[1], []⟩, ⟨[71], []⟩, ⟨[1], [0, 1]⟩, ⟨[73], [0, 1]⟩, ⟨[74], [0, 1]⟩, ⟨[72, 75], []⟩, ⟨[1], [0, 1, 2, 3, 4, 5]⟩, ⟨[77], [0, 1, 2, 3, 4, 5]⟩, ⟨[78], []⟩, ⟨[76], []⟩, ⟨[79], []⟩]⟩)]⟩
def ft63 : FT := ⟨[0, 1, 2, 6], []⟩
def ft64 : FT := ⟨[0, 2, 3, 5, 7, 8, 9, 11, 18], []⟩
def ft65 : FT := ⟨[0, 1, 4], []⟩
def ft66 : FT := ⟨[0, 1, 2, 3], []⟩
def ft67 : FT := ⟨[0, 1, 4], []⟩
def ft68 : FT := ⟨[0, 1, 2], []⟩
def ft69 : FT := ⟨[0, 1, 2], []⟩
def ft70 : FT := ⟨[0, 1, 4, 7, 11], []⟩
def ft71 : FT := ⟨[0, 2, 3, 4, 8, 12], [(7, ⟨[26, 27], [⟨[3], []⟩, ⟨[0], [0]⟩, ⟨[4], [0, 1]⟩, ⟨[16, 17], [0]⟩, ⟨[18], [0]⟩, ⟨[19], [0]⟩, ⟨[0], [0, 1, 2, 3, 4, 5]⟩, ⟨[4], [0, 1, 2, 3, 4, 5, 6]⟩, ⟨[21, 22], [0, 1, 2, 3, 4, 5]⟩, ⟨[23], [0, 1, 2, 3, 4, 5]⟩, ⟨[24], [0, 1, 2, 3, 4, 5]⟩, ⟨[20, 25], [0]⟩, ⟨[15, 26], []⟩, ⟨[27], []⟩]⟩)]⟩
def ft72 : FT := ⟨[0, 1, 2, 3, 4, 5, 14], []⟩
def ft73 : FT := ⟨[0, 1, 2, 3, 4, 5, 6, 7, 8, 9, 19, 20, 21, 36], []⟩
def ft74 : FT := ⟨[0, 1, 2, 3, 4, 6, 8], []⟩
def ft75 : FT := ⟨[0, 2, 3, 4, 5, 11, 21], []⟩
def ft76 : FT := ⟨[0, 1, 2, 3, 5, 8, 9, 10, 11, 15], [(9, ⟨[], [⟨[1], []⟩, ⟨[27], []⟩, ⟨[28], []⟩, ⟨[1], [0, 1, 2]⟩, ⟨[30], [0, 1, 2]⟩, ⟨[3], [0, 1, 2, 3, 4]⟩, ⟨[29, 31, 32], []⟩, ⟨[33], []⟩]⟩)]⟩
def ft77 : FT := ⟨[0, 1, 2, 4], []⟩
def ft78 : FT := ⟨[0, 1, 2, 3, 4, 5, 6, 7, 8, 14, 31], [(7, ⟨[], [⟨[1], []⟩, ⟨[17], []⟩, ⟨[1], [0, 1]⟩, ⟨[19], [0, 1]⟩, ⟨[4], [0, 1, 2, 3]⟩, ⟨[7], [0, 1, 2, 3, 4]⟩, ⟨[21, 22], [0, 1, 2, 3]⟩, ⟨[23], [0, 1, 2, 3]⟩, ⟨[18, 20, 24], []⟩, ⟨[25], []⟩]⟩)]⟩
def ft79 : FT := ⟨[0, 1, 2, 3, 4, 5, 6, 12, 13, 15, 16, 17, 18, 30, 39], [(1, ⟨[], [⟨[1], []⟩, ⟨[7], []⟩, ⟨[8], []⟩, ⟨[1], [0, 1, 2]⟩, ⟨[10], [0, 1, 2]⟩, ⟨[9, 11], []⟩]⟩), (7, ⟨[], [⟨[3], []⟩, ⟨[22], []⟩, ⟨[6], [0, 1]⟩, ⟨[24], [0, 1]⟩, ⟨[23, 25], []⟩, ⟨[26], []⟩, ⟨[6], [0, 1, 2, 3, 4, 5]⟩, ⟨[28], [0, 1, 2, 3, 4, 5]⟩, ⟨[27, 29], []⟩]⟩)]⟩
def ft80 : FT := ⟨[0, 1, 2, 3, 5, 6, 11, 12, 13, 14, 22], []⟩
def ft81 : FT := ⟨[0, 1, 2, 3, 4, 5, 6], []⟩
def ft82 : FT := ⟨[4], []⟩
def ft83 : FT := ⟨[0, 1, 3, 4, 5, 6, 7, 8, 17], [(5, ⟨[], [⟨[4], []⟩, ⟨[5], [0]⟩, ⟨[4, 19], [1]⟩, ⟨[5, 20], []⟩]⟩)]⟩
def ft84 : FT := ⟨[0, 1, 4, 9], []⟩
def ft85 : FT := ⟨[0, 1, 4, 5, 6, 7, 8, 9, 10, 11, 12, 19, 28, 35], []⟩
def ft86 : FT := ⟨[0, 1, 2, 3, 4, 5, 6, 24, 30], []⟩
def ft87 : FT := ⟨[0, 1, 4, 5, 6, 10, 26], [(5, ⟨[], [⟨[1], []⟩, ⟨[0], [0]⟩, ⟨[6], [0, 1]⟩, ⟨[14, 15], [0]⟩, ⟨[16], [0]⟩, ⟨[17], [0]⟩, ⟨[13, 18], []⟩, ⟨[19], []⟩, ⟨[0], [0, 1, 2, 3, 4, 5, 6, 7]⟩, ⟨[6], [0, 1, 2, 3, 4, 5, 6, 7, 8]⟩, ⟨[21, 22], [0, 1, 2, 3, 4, 5, 6, 7]⟩, ⟨[23], [0, 1, 2, 3, 4, 5, 6, 7]⟩, ⟨[24], [0, 1, 2, 3, 4, 5, 6, 7]⟩, ⟨[20, 25], []⟩]⟩)]⟩
def ft88 : FT := ⟨[0, 1, 4, 5, 10, 19, 30], [(6, ⟨[], [⟨[0], []⟩, ⟨[5], [0]⟩, ⟨[22, 23], []⟩, ⟨[24], []⟩, ⟨[1], [0, 1, 2, 3]⟩, ⟨[5], [0, 1, 2, 3, 4]⟩, ⟨[26, 27], [0, 1, 2, 3]⟩, ⟨[28], [0, 1, 2, 3]⟩, ⟨[25, 29], []⟩]⟩), (7, ⟨[], [⟨[0], []⟩, ⟨[5], [0]⟩, ⟨[31, 32], []⟩, ⟨[33], []⟩, ⟨[1], [0, 1, 2, 3]⟩, ⟨[5], [0, 1, 2, 3, 4]⟩, ⟨[35, 36], [0, 1, 2, 3]⟩, ⟨[37], [0, 1, 2, 3]⟩, ⟨[34, 38], []⟩, ⟨[39], []⟩]⟩)]⟩
def ft89 : FT := ⟨[0, 1, 2, 4, 12], []⟩
def ft90 : FT := ⟨[0, 1, 4, 5, 6, 7, 8, 9, 10, 13, 14, 15, 19, 40, 45, 47, 67, 80, 94, 103], [(6, ⟨[], [⟨[5], []⟩, ⟨[6], [0]⟩, ⟨[21], [0]⟩, ⟨[22], [0]⟩, ⟨[20, 23], []⟩, ⟨[24], []⟩, ⟨[20, 23], [4, 5]⟩, ⟨[26], [4, 5]⟩, ⟨[20, 25, 27], []⟩]⟩), (7, ⟨[], [⟨[5], []⟩, ⟨[6], [0]⟩, ⟨[29], [0]⟩, ⟨[30], [0]⟩, ⟨[28, 31], []⟩, ⟨[32], []⟩, ⟨[28, 31], [4, 5]⟩, ⟨[34], [4, 5]⟩, ⟨[28, 33, 35], []⟩]⟩), (17, ⟨[], [⟨[0], []⟩, ⟨[7], [0]⟩, ⟨[58, 59], []⟩, ⟨[60], []⟩, ⟨[0], [0, 1, 2, 3]⟩, ⟨[7], [0, 1, 2, 3, 4]⟩, ⟨[63], [0, 1, 2, 3, 4]⟩, ⟨[62, 64], [0, 1, 2, 3]⟩, ⟨[65], [0, 1, 2, 3]⟩, ⟨[61, 66], []⟩]⟩), (18, ⟨[], [⟨[9], []⟩, ⟨[68], []⟩, ⟨[69], []⟩, ⟨[70], []⟩, ⟨[9, 71], []⟩, ⟨[71, 72], []⟩, ⟨[9, 71], [4, 5]⟩, ⟨[71, 74], [4, 5]⟩, ⟨[1, 71], [4, 5, 6, 7]⟩, ⟨[71, 75, 76], [4, 5]⟩, ⟨[71, 77], [4, 5]⟩, ⟨[71, 73, 78], []⟩, ⟨[71, 79], []⟩]⟩), (20, ⟨[], [⟨[10], []⟩, ⟨[87], []⟩, ⟨[10], [0, 1]⟩, ⟨[89], [0, 1]⟩, ⟨[1], [0, 1, 2, 3]⟩, ⟨[90, 91], [0, 1]⟩, ⟨[92], [0, 1]⟩, ⟨[88, 93], []⟩]⟩), (21, ⟨[], [⟨[8], []⟩, ⟨[10], [0]⟩, ⟨[95, 96], []⟩, ⟨[97], []⟩, ⟨[95, 96], [2, 3]⟩, ⟨[99], [2, 3]⟩, ⟨[95, 98, 100], []⟩]⟩)]⟩
def ft91 : FT := ⟨[0, 1, 2, 4, 6], []⟩
def ft92 : FT := ⟨[0, 1, 3, 4, 5, 6, 7, 8, 17], [(5, ⟨[], [⟨[4], []⟩, ⟨[5], [0]⟩, ⟨[4, 19], [1]⟩, ⟨[5, 20], []⟩]⟩)]⟩
def ft93 : FT := ⟨[0, 1, 2, 3, 4, 5, 6], []⟩
def ft94 : FT := ⟨[0], []⟩
def ft95 : FT := ⟨[0, 1, 2, 3, 4], []⟩
def ft96 : FT := ⟨[4], []⟩
def ft97 : FT := ⟨[0, 1, 2, 3, 4, 10], []⟩
def ft98 : FT := ⟨[0, 1, 2, 4, 5, 10, 26], [(4, ⟨[], [⟨[1], []⟩, ⟨[2], [0]⟩, ⟨[14], [0]⟩, ⟨[5], [0, 1, 2]⟩, ⟨[15, 16], [0]⟩, ⟨[17], [0]⟩, ⟨[18], [0]⟩, ⟨[2], [0, 1, 2, 3, 4, 5, 6]⟩, ⟨[20], [0, 1, 2, 3, 4, 5, 6]⟩, ⟨[5], [0, 1, 2, 3, 4, 5, 6, 7, 8]⟩, ⟨[21, 22], [0, 1, 2, 3, 4, 5, 6]⟩, ⟨[23], [0, 1, 2, 3, 4, 5, 6]⟩, ⟨[24], [0, 1, 2, 3, 4, 5, 6]⟩, ⟨[13, 19, 25], []⟩]⟩)]⟩
def ft99 : FT := ⟨[0, 2, 3, 4, 8, 24], [(5, ⟨[], [⟨[4], []⟩, ⟨[11], []⟩, ⟨[12], []⟩, ⟨[0, 13], []⟩, ⟨[4, 13], [3]⟩, ⟨[13, 14, 15], []⟩, ⟨[13, 16], []⟩, ⟨[0, 13], [3, 4, 5, 6]⟩, ⟨[4, 13], [3, 4, 5, 6, 7]⟩, ⟨[13, 19], [3, 4, 5, 6, 7]⟩, ⟨[13, 18, 20], [3, 4, 5, 6]⟩, ⟨[13, 21], [3, 4, 5, 6]⟩, ⟨[13, 17, 22], []⟩, ⟨[13, 23], []⟩]⟩), (6, ⟨[39, 40], [⟨[3], []⟩, ⟨[3], [0]⟩, ⟨[26], [0]⟩, ⟨[27], [0]⟩, ⟨[25, 28], []⟩, ⟨[3], [0, 1, 2, 3, 4]⟩, ⟨[3], [0, 1, 2, 3, 4, 5]⟩, ⟨[31], [0, 1, 2, 3, 4, 5]⟩, ⟨[32], [0, 1, 2, 3, 4, 5]⟩, ⟨[30, 33], [0, 1, 2, 3, 4]⟩, ⟨[34], [0, 1, 2, 3, 4]⟩, ⟨[35], [0, 1, 2, 3, 4]⟩, ⟨[4], [0, 1, 2, 3, 4, 5, 6, 7, 8, 9, 10, 11]⟩, ⟨[36, 37], [0, 1, 2, 3, 4]⟩, ⟨[38], [0, 1, 2, 3, 4]⟩, ⟨[29, 39], []⟩, ⟨[40], []⟩]⟩)]⟩
def ft100 : FT := ⟨[0, 1, 2, 6, 7, 8, 9, 13, 33, 58], []⟩
def ft101 : FT := ⟨[0, 1, 4], []⟩
def ft102 : FT := ⟨[0, 1, 2, 4], []⟩
def ft103 : FT := ⟨[0, 1, 2, 3, 6], []⟩
def ft104 : FT := ⟨[0, 1, 2, 3, 4, 8, 9, 24], []⟩
def ft105 : FT := ⟨[0, 1, 4, 5, 7, 8, 9, 16], []⟩
def ft106 : FT := ⟨[0, 1, 4, 5, 7, 8, 9, 16], []⟩
def ft107 : FT := ⟨[0, 2, 3, 7, 11, 23, 45], []⟩
def ft108 : FT := ⟨[0, 1, 4, 5, 9, 17], []⟩
def ft109 : FT := ⟨[0, 1, 2, 6, 7, 8, 12, 34, 45], [(7, ⟨[], [⟨[0], []⟩, ⟨[8], [0]⟩, ⟨[35, 36], []⟩, ⟨[37], []⟩, ⟨[38], []⟩, ⟨[0], [0, 1, 2, 3, 4]⟩, ⟨[8], [0, 1, 2, 3, 4, 5]⟩, ⟨[40, 41], [0, 1, 2, 3, 4]⟩, ⟨[42], [0, 1, 2, 3, 4]⟩, ⟨[43], [0, 1, 2, 3, 4]⟩, ⟨[39, 44], []⟩]⟩)]⟩
def ft110 : FT := ⟨[0, 1, 2, 3, 8], [(1, ⟨[], [⟨[1], []⟩, ⟨[2], [0]⟩, ⟨[3], [0, 1]⟩, ⟨[0], [0, 1, 2]⟩, ⟨[12], [0, 1, 2]⟩, ⟨[13], [0, 1, 2]⟩, ⟨[14], [0, 1, 2]⟩, ⟨[15], [0, 1, 2]⟩, ⟨[11, 16], [0, 1]⟩, ⟨[10, 17], [0]⟩, ⟨[18], [0]⟩, ⟨[9, 19], []⟩, ⟨[0], [0, 1, 2, 3, 4, 5, 6, 7, 8, 9, 10, 11]⟩, ⟨[21], [0, 1, 2, 3, 4, 5, 6, 7, 8, 9, 10, 11]⟩, ⟨[22], [0, 1, 2, 3, 4, 5, 6, 7, 8, 9, 10, 11]⟩, ⟨[23], [0, 1, 2, 3, 4, 5, 6, 7, 8, 9, 10, 11]⟩, ⟨[24], [0, 1, 2, 3, 4, 5, 6, 7, 8, 9, 10, 11]⟩, ⟨[20, 25], []⟩, ⟨[26], []⟩]⟩)]⟩
def ft111 : FT := ⟨[0, 1, 2, 5, 6], []⟩
def ft112 : FT := ⟨[0, 1, 2, 3, 4, 5, 6, 21, 30], []⟩
def ft113 : FT := ⟨[0, 1, 2, 3, 4, 5, 6, 7, 8, 9, 13, 14, 15, 16, 17, 18, 27, 45, 67, 79, 123], [(7, ⟨[16], [⟨[9], []⟩, ⟨[48], []⟩, ⟨[9], [0, 1]⟩, ⟨[50], [0, 1]⟩, ⟨[51], [0, 1]⟩, ⟨[49, 52], []⟩, ⟨[], [0, 1, 2, 3, 4, 5]⟩, ⟨[16, 53], []⟩]⟩), (13, ⟨[], [⟨[6], []⟩, ⟨[18], [0]⟩, ⟨[4], [0, 1]⟩, ⟨[17], [0, 1, 2]⟩, ⟨[72], [0, 1, 3]⟩, ⟨[74], [0, 1, 3]⟩, ⟨[73, 75], [0, 1]⟩, ⟨[76], [0, 1]⟩, ⟨[70, 71, 77], []⟩, ⟨[78], []⟩]⟩), (14, ⟨[88, 89], [⟨[16], []⟩, ⟨[80], []⟩, ⟨[4], [0, 1]⟩, ⟨[17], [0, 1, 2]⟩, ⟨[82], [0, 1, 3]⟩, ⟨[84], [0, 1, 3]⟩, ⟨[83, 85], [0, 1]⟩, ⟨[86], [0, 1]⟩, ⟨[87], [0, 1]⟩, ⟨[81, 88], []⟩, ⟨[16], []⟩, ⟨[89, 90], []⟩]⟩)]⟩
def ft114 : FT := ⟨[0, 2, 4], []⟩
def ft115 : FT := ⟨[0, 2, 4], []⟩
def ft116 : FT := ⟨[0, 1, 4, 5, 6, 11, 12, 13, 16, 19], []⟩
def ft117 : FT := ⟨[0, 1, 2, 4, 5, 6, 7, 8, 10, 21, 27], []⟩
def ft118 : FT := ⟨[0, 1, 4, 5, 6, 7, 9, 10, 14, 15], []⟩
def ft119 : FT := ⟨[0, 1, 2, 3, 4, 5, 6, 8, 9, 18, 25], []⟩
def ft120 : FT := ⟨[0, 1, 4, 5, 16], []⟩
def ft121 : FT := ⟨[0, 1, 4, 5, 7, 8, 9, 16], []⟩
def ft122 : FT := ⟨[0, 1, 2, 6], []⟩
def ft123 : FT := ⟨[0, 2], []⟩
def ft124 : FT := ⟨[], []⟩
def ft125 : FT := ⟨[], []⟩
def ft126 : FT := ⟨[], []⟩
def ft127 : FT := ⟨[], []⟩
def ft128 : FT := ⟨[], []⟩
def ft129 : FT := ⟨[], []⟩
def ft130 : FT := ⟨[], []⟩
def ft131 : FT := ⟨[], []⟩
def ft132 : FT := ⟨[], []⟩
def ft133 : FT := ⟨[], []⟩
def ft134 : FT := ⟨[], []⟩
def ft135 : FT := ⟨[], []⟩
def ft136 : FT := ⟨[], []⟩
def ft137 : FT := ⟨[], []⟩
def ft138 : FT := ⟨[], []⟩
def ft139 : FT := ⟨[0, 1, 4], []⟩
def ft140 : FT := ⟨[0, 1, 4], []⟩
def ft141 : FT := ⟨[], []⟩
end Go.PX

namespace Go.PX
open Go.Proofs

end Go.PX

namespace Go.PX
open Go.Proofs
def intsD (l : List Int) : D := .vs (l.map fun n => [i64 n])

theorem fn79 (l : List Int) (n : Int) (hl : l.length < 4000000000000000000) : FnV Try.prog 53 [intsD l, i64 n] (.bool (decide (n ∈ l))) := by
  refine fnV_of mixed tysOk Try.func53 rfl (ft := ft53) 2 (by decide +kernel) rfl fun {σ} Y s => ?_
  conv => whnf
  refine LoopA_p (T := tys) tysOk (by exact drawsB_spec mixed tysOk (by decide +kernel)) (α := Nat)
    (fun i => ⟨[(0, .d (intsD l)), (1, .d (i64 n)), (4, .d (.bool false)), (5, .d (i64 i))], [], s⟩) (fun i => i ≤ l.length ∧ n ∉ l.take i) (fun i => l.length - i) 0 (Wk.sub ⟨rfl, rfl, rfl, rfl, trivial⟩ trivial) (by simp) ?_
  rintro i ⟨hi, hn⟩
  conv => whnf
  refine brk_i (fun hb => ?_) (fun hb => ?_)
  · have hb : i < l.length := by simpa using hb
    conv => whnf
    refine elemK_i [i64 l[i]] (by simp [hb]) ?_
    conv => whnf
    refine brk_i (fun hc => ?_) (fun hc => ?_)
    · have hc : l[i] = n := by simpa using hc
      conv => whnf
      have hm : n ∈ l := hc ▸ List.getElem_mem hb
      rw [decide_eq_true hm]
      exact RetA_view 0 rfl ⟨⟨rfl, rfl⟩, rfl⟩
    · have hc : l[i] ≠ n := by simpa using hc
      conv => whnf
      refine arith_in (wrap_i64 (by omega)) ?_
      conv => whnf
      refine ⟨i + 1, ?_, ⟨hb, ?_⟩, Wk.sub ⟨rfl, rfl, rfl, rfl, trivial⟩ trivial⟩
      · show l.length - (i + 1) < l.length - i; omega
      · rw [List.take_succ_eq_append_getElem hb, List.mem_append]
        rintro (h | h)
        · exact hn h
        · exact hc (by simpa using (List.mem_singleton.1 h).symm)
  · have hb : ¬ i < l.length := by simpa using hb
    conv => whnf
    have hm : n ∉ l := by
      rw [List.take_of_length_le (by omega)] at hn; exact hn
    rw [decide_eq_false hm]
    exact RetA_view 0 rfl ⟨⟨rfl, rfl⟩, rfl⟩
end Go.PX

namespace Go.PX
open Go.Proofs
/-- Is a number from lo to hi? -/
def inB (n lo hi : Int) : Bool := decide (lo ≤ n) && decide (n ≤ hi)

theorem fn118 (n lo hi : Int) : FnV Try.prog 122 [i64 n, i64 lo, i64 hi] (.bool (inB n lo hi)) := by
  refine fnV_of mixed tysOk Try.func122 rfl (ft := ft122) 3 (by decide +kernel) rfl fun {σ} Y s => ?_
  conv => whnf
  refine brk_i (fun hb => ?_) (fun hb => ?_)
  · conv => whnf
    refine RetA_view 0 rfl ⟨⟨?_, rfl⟩, rfl⟩
    simp [packD, inB] at hb ⊢; simp [hb]
  · conv => whnf
    refine RetA_view 0 rfl ⟨⟨?_, rfl⟩, rfl⟩
    simp [packD, inB] at hb ⊢; omega

theorem fn55 (n lo hi : Int) : FnV Try.prog 63 [i64 n, i64 lo, i64 hi] (.bool (inB n lo hi)) := by
  refine fnV_of mixed tysOk Try.func63 rfl (ft := ft63) 3 (by decide +kernel) rfl fun {σ} Y s => ?_
  conv => whnf
  refine brk_i (fun hb => ?_) (fun hb => ?_)
  · conv => whnf
    refine RetA_view 0 rfl ⟨⟨?_, rfl⟩, rfl⟩
    simp [packD, inB] at hb ⊢; simp [hb]
  · conv => whnf
    refine RetA_view 0 rfl ⟨⟨?_, rfl⟩, rfl⟩
    simp [packD, inB] at hb ⊢; omega

structure Span where
  lo : Int
  hi : Int
  deriving DecidableEq
def Span.cells (s : Span) : List D := [i64 s.lo, i64 s.hi]
def Span.d (s : Span) : D := .agg s.cells
def spansD (l : List Span) : D := .vs (l.map Span.cells)

/-- ErrRange, ErrArg, OK of spans. -/
def spread (lo hi : Int) : List Span → Int → Int
  | [], e => e
  | s :: r, e => if inB s.lo lo hi && inB s.hi lo hi then spread lo hi r (if s.lo > s.hi then 2 else e) else 7

theorem fn111 (l : List Span) (lo hi : Int) (hl : l.length < 4000000000000000000) : FnV Try.prog 109 [spansD l, i64 lo, i64 hi] (i64 (spread lo hi l 0)) := by
  refine fnV_of mixed tysOk Try.func109 rfl (ft := ft109) 3 (by decide +kernel) rfl fun {σ} Y s => ?_
  conv => whnf
  refine LoopA_p (T := tys) tysOk (by exact drawsB_spec mixed tysOk (by decide +kernel)) (α := Nat × Int)
    (fun x => ⟨[(0, .d (spansD l)), (1, .d (i64 lo)), (2, .d (i64 hi)), (7, .d (i64 x.2)), (8, .d (i64 x.1))], [], s⟩) (fun x => x.1 ≤ l.length ∧ spread lo hi l 0 = spread lo hi (l.drop x.1) x.2) (fun x => l.length - x.1) (0, 0)
    (Wk.sub ⟨rfl, rfl, rfl, rfl, rfl, trivial⟩ trivial) (by simp) ?_
  rintro ⟨i, e⟩ ⟨hi', he⟩
  simp only at hi' he
  conv => whnf
  refine brk_i (fun hb => ?_) (fun hb => ?_)
  · have hb : i < l.length := by simpa using hb
    have hd : l.drop i = l[i] :: l.drop (i + 1) := List.drop_eq_getElem_cons hb
    rw [hd, spread] at he
    have step : ∀ {st' : St σ} {e' : Int}, (inB l[i].lo lo hi && inB l[i].hi lo hi) = true → e' = (if l[i].lo > l[i].hi then 2 else e) → Wk st' ⟨[(0, .d (spansD l)), (1, .d (i64 lo)), (2, .d (i64 hi)), (7, .d (i64 e')), (8, .d (i64 ((i : Int) + 1)))], [], s⟩ →
        ∃ y : Nat × Int, l.length - y.1 < l.length - i ∧ (y.1 ≤ l.length ∧ spread lo hi l 0 = spread lo hi (l.drop y.1) y.2) ∧ Wk st' ⟨[(0, .d (spansD l)), (1, .d (i64 lo)), (2, .d (i64 hi)), (7, .d (i64 y.2)), (8, .d (i64 y.1))], [], s⟩ := by
      intro st' e' h1 h2 h3
      rw [if_pos h1] at he
      exact ⟨(i + 1, e'), by simp only; omega, ⟨hb, by rw [he, h2]⟩, by simpa using h3⟩
    conv => whnf
    refine elemK_i l[i].cells (by simp [hb]) ?_
    conv => whnf
    refine CallA_v (fn118 _ _ _) rfl rfl ?_
    conv => whnf
    refine brk_i (fun h1 => ?_) (fun h1 => ?_)
    · -- the lower end is wrong
      conv => whnf
      rw [if_neg (by simp at h1; simp [h1])] at he
      rw [he]
      exact RetA_view 0 rfl ⟨⟨rfl, rfl⟩, rfl⟩
    · conv => whnf
      refine elemK_i l[i].cells (by simp [hb]) ?_
      conv => whnf
      refine CallA_v (fn118 _ _ _) rfl rfl ?_
      conv => whnf
      refine brk_i (fun h2 => ?_) (fun h2 => ?_)
      · conv => whnf
        rw [if_neg (by simp at h2; simp [h2])] at he
        rw [he]
        exact RetA_view 0 rfl ⟨⟨rfl, rfl⟩, rfl⟩
      · conv => whnf
        refine elemK_i l[i].cells (by simp [hb]) ?_
        conv => whnf
        refine elemK_i l[i].cells (by simp [hb]) ?_
        conv => whnf
        have hin : (inB l[i].lo lo hi && inB l[i].hi lo hi) = true := by simp at h1 h2; simp [h1, h2]
        refine brk_i (fun h3 => ?_) (fun h3 => ?_)
        · conv => whnf
          refine arith_in (wrap_i64 (by omega)) ?_
          conv => whnf
          exact step hin (by simp at h3; rw [if_pos h3]) (Wk.sub ⟨rfl, rfl, rfl, rfl, rfl, trivial⟩ trivial)
        · conv => whnf
          refine arith_in (wrap_i64 (by omega)) ?_
          conv => whnf
          exact step hin (by simp at h3; rw [if_neg (by omega)]) (Wk.sub ⟨rfl, rfl, rfl, rfl, rfl, trivial⟩ trivial)
  · have hb : ¬ i < l.length := by simpa using hb
    conv => whnf
    rw [List.drop_of_length_le (by omega)] at he
    simp only [spread] at he
    rw [he]
    exact RetA_view 0 rfl ⟨⟨rfl, rfl⟩, rfl⟩
end Go.PX

namespace Go.PX
open Go.Proofs

theorem fn87 (n lo hi : Int) : FnV Try.prog 102 [i64 n, .ref [i64 lo], .ref [i64 hi]] (.bool (decide (n < lo) || decide (n > hi))) := by
  refine fnV_of mixed tysOk Try.func102 rfl (ft := ft102) 3 (by decide +kernel) rfl fun {σ} Y s => ?_
  conv => whnf
  refine brk_i (fun hb => ?_) (fun hb => ?_)
  · conv => whnf
    refine RetA_view 0 rfl ⟨⟨?_, rfl⟩, rfl⟩
    have hb : n < lo := by simpa using hb
    simp [packD, hb]
  · conv => whnf
    refine RetA_view 0 rfl ⟨⟨?_, rfl⟩, rfl⟩
    have hb : ¬ n < lo := by simpa using hb
    simp [packD, hb]

/-- The index of the first one that is wanted; -1: none is. -/
def indexOf {α : Type} (p : α → Bool) : List α → Int → Int
  | [], _ => -1
  | x :: r, i => if p x then i else indexOf p r (i + 1)

theorem indexOf_any {α : Type} (p : α → Bool) : ∀ (l : List α) (i : Int), 0 ≤ i → decide (indexOf p l i ≥ 0) = l.any p
  | [], i, _ => by simp [indexOf]
  | x :: r, i, h => by
    simp only [indexOf, List.any_cons]
    split
    · rename_i hp; simp [hp, h]
    · rename_i hp
      rw [indexOf_any p r (i + 1) (by omega)]
      simp [hp]

theorem fn109 (l : List Int) (g : FuncId) (caps : List D) (p : Int → Bool) (hl : l.length < 4000000000000000000) (hp : ∀ x ∈ l, FnV Try.prog g (i64 x :: caps) (.bool (p x))) :
    FnV Try.prog 121 [intsD l, .clo g caps] (i64 (indexOf p l 0)) := by
  refine fnV_of mixed tysOk Try.func121 rfl (ft := ft121) 2 (by decide +kernel) rfl fun {σ} Y s => ?_
  conv => whnf
  refine LoopA_p (T := tys) tysOk (by exact drawsB_spec mixed tysOk (by decide +kernel)) (α := Nat)
    (fun i => ⟨[(0, .d (intsD l)), (1, .d (.clo g caps)), (7, .d (i64 l.length)), (8, .d (i64 i))], [], s⟩) (fun i => i ≤ l.length ∧ indexOf p l 0 = indexOf p (l.drop i) i) (fun i => l.length - i) 0
    (Wk.sub ⟨rfl, rfl, by simp [PX.get], rfl, trivial⟩ trivial) (by simp) ?_
  rintro i ⟨hi, he⟩
  conv => whnf
  refine brk_i (fun hb => ?_) (fun hb => ?_)
  · have hb : i < l.length := by simpa using hb
    have hd : l.drop i = l[i] :: l.drop (i + 1) := List.drop_eq_getElem_cons hb
    rw [hd, indexOf] at he
    conv => whnf
    refine elemK_i [i64 l[i]] (by simp [hb]) ?_
    conv => whnf
    refine CallA_v (ds := i64 l[i] :: caps) (hp _ (List.getElem_mem hb)) rfl rfl ?_
    conv => whnf
    refine brk_i (fun h1 => ?_) (fun h1 => ?_)
    · conv => whnf
      rw [if_pos h1] at he
      rw [he]
      exact RetA_view 0 rfl ⟨⟨rfl, rfl⟩, rfl⟩
    · conv => whnf
      rw [if_neg (by simp [h1])] at he
      refine arith_in (wrap_i64 (by omega)) ?_
      conv => whnf
      exact ⟨i + 1, by omega, ⟨hb, by rw [he]; rfl⟩, Wk.sub ⟨rfl, rfl, rfl, rfl, trivial⟩ trivial⟩
  · have hb : ¬ i < l.length := by simpa using hb
    conv => whnf
    rw [List.drop_of_length_le (by omega)] at he
    rw [he]
    exact RetA_view 0 rfl ⟨⟨rfl, rfl⟩, rfl⟩

theorem fn86 (l : List Int) (g : FuncId) (caps : List D) (p : Int → Bool) (hl : l.length < 4000000000000000000) (hp : ∀ x ∈ l, FnV Try.prog g (i64 x :: caps) (.bool (p x))) :
    FnV Try.prog 101 [intsD l, .clo g caps] (.bool (l.any p)) := by
  refine fnV_of mixed tysOk Try.func101 rfl (ft := ft101) 2 (by decide +kernel) rfl fun {σ} Y s => ?_
  conv => whnf
  refine CallA_v (fn109 l g caps p hl hp) rfl rfl ?_
  conv => whnf
  refine RetA_view 0 rfl ⟨⟨?_, rfl⟩, rfl⟩
  rw [← indexOf_any p l 0 (by omega)]; rfl

theorem fn51 (lo hi : Int) (l : List Int) (hl : l.length < 4000000000000000000) : FnV Try.prog 61 [i64 lo, i64 hi, intsD l] (.bool (l.any fun n => decide (n < lo) || decide (n > hi))) := by
  refine fnV_of mixed tysOk Try.func61 rfl (ft := ft61) 3 (by decide +kernel) rfl fun {σ} Y s => ?_
  conv => whnf
  refine CallA_view (fn86 l 102 [.ref [i64 lo], .ref [i64 hi]] (fun n => decide (n < lo) || decide (n > hi)) hl fun x _ => fn87 x lo hi) rfl 1 rfl ?_
  conv => whnf
  exact RetA_view 0 rfl ⟨⟨rfl, rfl⟩, rfl⟩
end Go.PX

namespace Go.PX
open Go.Proofs

theorem take_map {α β : Type} (f : α → β) (l : List α) : (l.map f).take l.length = l.map f := by rw [List.take_of_length_le (by simp)]

structure Gauge where
  day : Int
  shown : Int
  deriving DecidableEq
def Gauge.cells (g : Gauge) : List D := [i64 g.day, i64 g.shown]
def gaugesD (l : List Gauge) : D := .vs (l.map Gauge.cells)

/-- What is left without the ones of these numbers. -/
def withoutF {α : Type} (out : List Int) : List α → Int → List α
  | [], _ => []
  | x :: r, i => if i ∈ out then withoutF out r (i + 1) else x :: withoutF out r (i + 1)

end Go.PX

namespace Go.PX
open Go.Proofs

theorem mul_bd {a b : Int} (A B : Nat) (ha : -(A : Int) ≤ a ∧ a ≤ A) (hb : -(B : Int) ≤ b ∧ b ≤ B) : -((A * B : Nat) : Int) ≤ a * b ∧ a * b ≤ ((A * B : Nat) : Int) := by
  have h1 : a.natAbs ≤ A := by omega
  have h2 : b.natAbs ≤ B := by omega
  have h3 : (a * b).natAbs ≤ A * B := by rw [Int.natAbs_mul]; exact Nat.mul_le_mul h1 h2
  omega

structure Shot where
  name : ByteArray
  links : Int
  set : Int
  new : Span
  wear : Span
  gauges : List Gauge
def Shot.cells (s : Shot) : List D := [.str s.name, i64 s.links, i64 s.set, i64 s.new.lo, i64 s.new.hi, i64 s.wear.lo, i64 s.wear.hi, gaugesD s.gauges]
def Shot.d (s : Shot) : D := .agg s.cells
def Gauge.d (g : Gauge) : D := .agg g.cells

/-- A number of everyday size. -/
def bd (n : Int) : Prop := -1000000000 ≤ n ∧ n ≤ 1000000000

def onF (set fresh wear day : Int) : Int := max 0 (fresh - wear * (day - set))

theorem onF_bd {set fresh wear day : Int} (h1 : bd fresh) (h2 : bd wear) (h3 : bd day) (h4 : bd set) : 0 ≤ onF set fresh wear day ∧ onF set fresh wear day ≤ 2000000001000000000 := by
  unfold bd at h1 h2 h3 h4
  have hm := mul_bd (a := wear) (b := day - set) 1000000000 2000000000 (by omega) (by omega)
  unfold onF; omega

def strongF (thick : Int) : Int := (thick * thick).tdiv 20000

end Go.PX

namespace Go.PX
open Go.Proofs

/-- What a gauging leaves of the numbers of New. -/
def fitStep (set off wear : Int) (p : Int × Int) (g : Gauge) : Option (Int × Int) :=
  let lost := wear * (g.day - set)
  let lo := if g.shown > off then max p.1 (g.shown - off + lost) else p.1
  let hi := min p.2 (g.shown + off + lost)
  if lo > hi then none else some (lo, hi)

def fitsF (set off wear : Int) : Int × Int → List Gauge → Option (Int × Int)
  | p, [] => some p
  | p, g :: r => match fitStep set off wear p g with
    | none => none
    | some q => fitsF set off wear q r

def fitSpan : Option (Int × Int) → Span
  | some p => ⟨p.1, p.2⟩
  | none => ⟨1, 0⟩

def gaugeOk (g : Gauge) : Prop := 0 ≤ g.day ∧ g.day ≤ 1000000 ∧ 0 ≤ g.shown ∧ g.shown ≤ 1000000

end Go.PX

namespace Go.PX
open Go.Proofs

theorem fitStep_le {set off wear : Int} {p q : Int × Int} {g : Gauge} (h : fitStep set off wear p g = some q) : p.1 ≤ q.1 ∧ q.1 ≤ q.2 ∧ q.2 ≤ p.2 := by
  unfold fitStep at h
  by_cases hs : g.shown > off
  · simp only [hs, if_true] at h
    split at h
    · cases h
    · cases h; simp only; omega
  · simp only [hs, if_false] at h
    split at h
    · cases h
    · cases h; simp only; omega

theorem fitsF_le {set off wear : Int} : ∀ {gs : List Gauge} {p q : Int × Int}, p.1 ≤ p.2 → fitsF set off wear p gs = some q → p.1 ≤ q.1 ∧ q.1 ≤ q.2 ∧ q.2 ≤ p.2
  | [], p, q, hp, h => by simp only [fitsF, Option.some.injEq] at h; subst h; omega
  | g :: r, p, q, hp, h => by
    simp only [fitsF] at h
    split at h
    · cases h
    · rename_i p' hp'
      have h1 := fitStep_le hp'
      have h2 := fitsF_le h1.2.1 h
      omega

/-- How thick a shot can be on a day: the span so far, and whether there is any. -/
def rangeF (set off day : Int) (new : Int × Int) (gs : List Gauge) : Nat → Int → Span × Bool → Span × Bool
  | 0, _, acc => acc
  | n + 1, wear, acc => rangeF set off day new gs n (wear + 1) (match fitsF set off wear new gs with
    | none => acc
    | some f =>
      let lo := onF set f.1 wear day
      let hi := onF set f.2 wear day
      let out := if acc.2 then acc.1 else ⟨lo, hi⟩
      (⟨min out.lo lo, max out.hi hi⟩, true))

structure ShotOk (s : Shot) : Prop where
  set : 0 ≤ s.set ∧ s.set ≤ 1000000
  new : 0 ≤ s.new.lo ∧ s.new.lo ≤ 1000000 ∧ 0 ≤ s.new.hi ∧ s.new.hi ≤ 1000000 ∧ s.new.lo ≤ s.new.hi
  wear : 0 ≤ s.wear.lo ∧ s.wear.lo ≤ 1000000 ∧ 0 ≤ s.wear.hi ∧ s.wear.hi ≤ 900000

def rangeS (s : Shot) (off : Int) (gs : List Gauge) (day : Int) : Span × Bool := rangeF s.set off day (s.new.lo, s.new.hi) gs (s.wear.hi + 1 - s.wear.lo).toNat s.wear.lo (⟨0, 0⟩, false)

end Go.PX

namespace Go.PX
open Go.Proofs

structure Row where
  scope : Int
  holds : Int
def Row.cells (r : Row) : List D := [i64 r.scope, i64 r.holds]
def shotsD (l : List Shot) : D := .vs (l.map Shot.cells)
def rowsD (l : List Row) : D := .vs (l.map Row.cells)
structure Chain where
  shots : List Shot
  long : Int
  heavy : Int
  err : Int
  hold : Span
  rows : List Row
def Chain.cells (c : Chain) : List D := [shotsD c.shots, i64 c.long, i64 c.heavy, i64 c.err, i64 c.hold.lo, i64 c.hold.hi, rowsD c.rows]
def Chain.d (c : Chain) : D := .agg c.cells

/-- All links. -/
def linksF : List Shot → Int
  | [] => 0
  | s :: r => s.links + linksF r

theorem linksF_take {l : List Shot} {i : Nat} {s : Shot} (h : l[i]? = some s) : linksF (l.take (i + 1)) = linksF (l.take i) + s.links := by
  induction l generalizing i with
  | nil => simp at h
  | cons x r ih =>
    cases i with
    | zero => simp at h; subst h; simp [linksF]
    | succ i => simp at h; simp only [List.take_succ_cons, linksF, ih h]; omega

theorem linksF_bd {l : List Shot} (h : ∀ s ∈ l, bd s.links) (i : Nat) : -1000000000 * (i : Int) ≤ linksF (l.take i) ∧ linksF (l.take i) ≤ 1000000000 * (i : Int) := by
  induction l generalizing i with
  | nil => simp [linksF]; omega
  | cons x r ih =>
    cases i with
    | zero => simp [linksF]
    | succ i =>
      have h1 := ih (fun s hs => h s (List.mem_cons_of_mem _ hs)) i
      have h2 := h x (List.mem_cons_self ..)
      unfold bd at h2
      simp only [List.take_succ_cons, linksF]; omega

theorem fn19 (a b : List Int) (ha : a.length < 1000000) : FnV Try.prog 29 [intsD a, intsD b] (.bool (decide (a = b))) := by
  refine fnV_of mixed tysOk Try.func29 rfl (ft := ft29) 2 (by decide +kernel) (by rfl) fun {σ} Y st => ?_
  conv => whnf
  refine brk_i (fun h0 => ?_) (fun h0 => ?_)
  · have h0 : a.length ≠ b.length := by
      intro e; simp [e] at h0
    conv => whnf
    rw [decide_eq_false (by rintro rfl; exact h0 rfl)]
    exact RetA_view 0 rfl ⟨⟨rfl, rfl⟩, rfl⟩
  · have h0 : a.length = b.length := by
      have := h0
      simp at this; omega
    conv => whnf
    refine LoopA_p (T := tys) tysOk (by exact drawsB_spec mixed tysOk (by decide +kernel)) (α := Nat)
      (fun i => ⟨[(0, .d (intsD a)), (1, .d (intsD b)), (5, .d (i64 i))], [], st⟩) (fun i => i ≤ a.length ∧ a.take i = b.take i) (fun i => a.length - i) 0
      (Wk.sub ⟨rfl, rfl, rfl, trivial⟩ trivial) (by simp) ?_
    rintro i ⟨hi, he⟩
    conv => whnf
    refine brk_i (fun hc => ?_) (fun hc => ?_)
    · have hc : i < a.length := by simpa using hc
      have hc' : i < b.length := by omega
      conv => whnf
      refine elemK_i [i64 a[i]] (by simp [hc]) ?_
      conv => whnf
      refine elemK_i [i64 b[i]] (by simp [hc']) ?_
      conv => whnf
      refine brk_i (fun h1 => ?_) (fun h1 => ?_)
      · conv => whnf
        have h1 : a[i] ≠ b[i] := by simpa using h1
        rw [decide_eq_false (by rintro rfl; exact h1 rfl)]
        exact RetA_view 0 rfl ⟨⟨rfl, rfl⟩, rfl⟩
      · have h1 : a[i] = b[i] := by simpa using h1
        conv => whnf
        refine arith_in (wrap_i64 (by (try dsimp only); omega)) ?_
        conv => whnf
        exact ⟨i + 1, by omega, ⟨hc, by rw [List.take_succ_eq_append_getElem hc, List.take_succ_eq_append_getElem hc', he, h1]⟩, Wk.sub ⟨rfl, rfl, rfl, trivial⟩ trivial⟩
    · have hc : ¬ i < a.length := by simpa using hc
      conv => whnf
      rw [List.take_of_length_le (by omega), List.take_of_length_le (by omega)] at he
      rw [decide_eq_true he]
      exact RetA_view 0 rfl ⟨⟨rfl, rfl⟩, rfl⟩
end Go.PX

namespace Go.PX
open Go.Proofs

theorem fn90 (s : Span) (lo hi : Int) : FnV Try.prog 103 [s.d, i64 lo, i64 hi] (i64 (spread lo hi [s] 0)) := by
  refine fnV_of mixed tysOk Try.func103 rfl (ft := ft103) 3 (by decide +kernel) (by rfl) fun {σ} Y st => ?_
  conv => whnf
  refine CallA_view (fn111 [s] lo hi (by simp)) rfl 1 rfl ?_
  conv => whnf
  exact RetA_view 0 rfl ⟨⟨rfl, rfl⟩, rfl⟩

theorem span_eq {a b : Span} : a = b ↔ a.lo = b.lo ∧ a.hi = b.hi := by cases a; cases b; simp

theorem fn45 (a b : List Span) (ha : a.length < 1000000) : FnV Try.prog 21 [spansD a, spansD b] (.bool (decide (a = b))) := by
  refine fnV_of mixed tysOk Try.func21 rfl (ft := ft21) 2 (by decide +kernel) (by rfl) fun {σ} Y st => ?_
  conv => whnf
  refine brk_i (fun h0 => ?_) (fun h0 => ?_)
  · have h0 : a.length ≠ b.length := by
      intro e; simp [e] at h0
    conv => whnf
    rw [decide_eq_false (by rintro rfl; exact h0 rfl)]
    exact RetA_view 0 rfl ⟨⟨rfl, rfl⟩, rfl⟩
  · have h0 : a.length = b.length := by
      have := h0
      simp at this; omega
    conv => whnf
    refine LoopA_p (T := tys) tysOk (by exact drawsB_spec mixed tysOk (by decide +kernel)) (α := Nat)
      (fun i => ⟨[(0, .d (spansD a)), (1, .d (spansD b)), (5, .d (i64 i))], [], st⟩) (fun i => i ≤ a.length ∧ a.take i = b.take i) (fun i => a.length - i) 0
      (Wk.sub ⟨rfl, rfl, rfl, trivial⟩ trivial) (by simp) ?_
    rintro i ⟨hi, he⟩
    conv => whnf
    refine brk_i (fun hc => ?_) (fun hc => ?_)
    · have hc : i < a.length := by simpa using hc
      have hc' : i < b.length := by omega
      conv => whnf
      refine elemK_i a[i].cells (by simp [hc]) ?_
      conv => whnf
      refine elemK_i b[i].cells (by simp [hc']) ?_
      conv => whnf
      refine brk_i (fun h1 => ?_) (fun h1 => ?_)
      · conv => whnf
        have h1 : a[i] ≠ b[i] := by
          intro e; rw [e] at h1; simp at h1
        rw [decide_eq_false (by rintro rfl; exact h1 rfl)]
        exact RetA_view 0 rfl ⟨⟨rfl, rfl⟩, rfl⟩
      · have h1 : a[i] = b[i] := by
          rw [span_eq]
          simp at h1; exact h1
        conv => whnf
        refine arith_in (wrap_i64 (by (try dsimp only); omega)) ?_
        conv => whnf
        exact ⟨i + 1, by omega, ⟨hc, by rw [List.take_succ_eq_append_getElem hc, List.take_succ_eq_append_getElem hc', he, h1]⟩, Wk.sub ⟨rfl, rfl, rfl, trivial⟩ trivial⟩
    · have hc : ¬ i < a.length := by simpa using hc
      conv => whnf
      rw [List.take_of_length_le (by omega), List.take_of_length_le (by omega)] at he
      rw [decide_eq_true he]
      exact RetA_view 0 rfl ⟨⟨rfl, rfl⟩, rfl⟩

/-- The error of gaugings. -/
def gaugesF (set : Int) : Option Int → List Gauge → Int
  | _, [] => 0
  | last, g :: r => if inB g.day set 40000 && inB g.shown 0 60000 then (if (match last with
      | some d => decide (g.day < d)
      | none => false) then 2 else gaugesF set (some g.day) r) else 7

theorem gaugesF_cons (set : Int) (last : Option Int) (g : Gauge) (r : List Gauge) : gaugesF set last (g :: r) = if inB g.day set 40000 && inB g.shown 0 60000 then (if (match last with
      | some d => decide (g.day < d)
      | none => false) then 2 else gaugesF set (some g.day) r) else 7 := rfl

def lastDay (gs : List Gauge) : Nat → Option Int
  | 0 => none
  | i + 1 => (gs[i]?).map (·.day)

end Go.PX

namespace Go.PX
open Go.Proofs

/-- The error of a shot but its name. -/
def shotF (s : Shot) : Int :=
  if inB s.links 1 40 && inB s.set 0 40000 && !decide (spread 1 60000 [s.new] 0 = 7) && !decide (spread 0 20 [s.wear] 0 = 7) then
    (if decide (spread 1 60000 [s.new] 0 = 0) && decide (spread 0 20 [s.wear] 0 = 0) then (if 6 < s.gauges.length then 3 else gaugesF s.set none s.gauges) else 2)
  else 7

end Go.PX

namespace Go.PX
open Go.Proofs

def strsD (l : List ByteArray) : D := .vs (l.map fun s => [.str s])

theorem fn113 (l : List ByteArray) (x : ByteArray) (hl : l.length < 1000000) : FnV Try.prog 108 [strsD l, .str x] (i64 (indexOf (fun y => decide (y = x)) l 0)) := by
  refine fnV_of mixed tysOk Try.func108 rfl (ft := ft108) 2 (by decide +kernel) (by rfl) fun {σ} Y st => ?_
  conv => whnf
  refine LoopA_p (T := tys) tysOk (by exact drawsB_spec mixed tysOk (by decide +kernel)) (α := Nat)
    (fun i => ⟨[(0, .d (strsD l)), (1, .d (.str x)), (5, .d (i64 i))], [], st⟩) (fun i => i ≤ l.length ∧ indexOf (fun y => decide (y = x)) l 0 = indexOf (fun y => decide (y = x)) (l.drop i) i) (fun i => l.length - i) 0
    (Wk.sub ⟨rfl, rfl, rfl, trivial⟩ trivial) (by simp) ?_
  rintro i ⟨hi, he⟩
  conv => whnf
  refine brk_i (fun hb => ?_) (fun hb => ?_)
  · have hb : i < l.length := by simpa using hb
    have hd : l.drop i = l[i] :: l.drop (i + 1) := List.drop_eq_getElem_cons hb
    rw [hd, indexOf] at he
    conv => whnf
    refine elemK_i [.str l[i]] (by simp [hb]) ?_
    conv => whnf
    refine brk_i (fun h1 => ?_) (fun h1 => ?_)
    · conv => whnf
      rw [if_pos h1] at he
      rw [he]
      exact RetA_view 0 rfl ⟨⟨rfl, rfl⟩, rfl⟩
    · conv => whnf
      rw [if_neg (by rw [h1]; simp)] at he
      refine arith_in (wrap_i64 (by (try dsimp only); omega)) ?_
      conv => whnf
      exact ⟨i + 1, by omega, ⟨hb, by rw [he]; rfl⟩, Wk.sub ⟨rfl, rfl, rfl, trivial⟩ trivial⟩
  · have hb : ¬ i < l.length := by simpa using hb
    conv => whnf
    rw [List.drop_of_length_le (by omega)] at he
    rw [he]
    exact RetA_view 0 rfl ⟨⟨rfl, rfl⟩, rfl⟩

theorem fn28 (lo hi : Int) : FnV Try.prog 46 [i64 lo, i64 hi] (Span.d ⟨lo, hi⟩) := by
  refine fnV_of mixed tysOk Try.func46 rfl (ft := ft46) 2 (by decide +kernel) (by rfl) fun {σ} Y st => ?_
  conv => whnf
  exact RetA_view 0 rfl ⟨⟨rfl, rfl⟩, rfl⟩
end Go.PX
