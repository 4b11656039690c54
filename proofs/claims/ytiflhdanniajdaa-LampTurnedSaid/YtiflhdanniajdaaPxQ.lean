import Derived.Test.YtiflhdanniajdaaPxO
import Derived.Test.YtiflhdanniajdaaPxP
set_option linter.all false
set_option maxRecDepth 10000
namespace Go.PX
open Go.Proofs

/- Lamp: plain law of the sights. -/

theorem lookM_upd {k v j : Int} : ∀ {m : List (Int × Int)}, lookM (updM m k v) j = if j = k then v else lookM m j
  | [] => by simp [updM, lookM]
  | (a, b) :: r => by
    rw [updM]
    by_cases h : k = a
    · rw [if_pos h, lookM, lookM]
      by_cases h2 : j = k
      · simp [h2]
      · rw [if_neg h2, if_neg h2, if_neg (by rw [← h]; exact h2)]
    · rw [if_neg h, lookM, lookM, lookM_upd]
      by_cases h2 : j = a
      · rw [if_pos h2, if_pos h2, if_neg (by rw [h2]; exact fun e => h e.symm)]
      · rw [if_neg h2, if_neg h2]

def codeW (a b : Bool) : Int := (if a then 1 else 0) + (if b then 2 else 0)

theorem codeW_or (a b l : Bool) : bitsI .or .i64 (codeW a b) (wantBit l) = codeW (a || !l) (b || l) := by
  cases a <;> cases b <;> cases l <;> decide +kernel

theorem codeW_and (a b l : Bool) : decide (bitsI .and .i64 (codeW a b) (if l then 1 else 2) = 0) = !(if l then a else b) := by
  cases a <;> cases b <;> cases l <;> decide +kernel

theorem look_want {s : Int} : ∀ {l : List LSight} {m : List (Int × Int)} {a b : Bool}, lookM m s = codeW a b → lookM (l.foldl wantStep m) s = codeW (a || l.any fun x => decide (x.second = s) && !x.lit) (b || l.any fun x => decide (x.second = s) && x.lit)
  | [], m, a, b, h => by simpa using h
  | x :: r, m, a, b, h => by
    rw [List.foldl_cons]
    have h1 : lookM (wantStep m x) s = codeW (a || (decide (x.second = s) && !x.lit)) (b || (decide (x.second = s) && x.lit)) := by
      unfold wantStep
      rw [lookM_upd]
      by_cases hs : s = x.second
      · rw [if_pos hs, ← hs, h, codeW_or]
        simp [hs]
      · rw [if_neg hs, h]
        have : decide (x.second = s) = false := decide_eq_false fun e => hs e.symm
        simp [this]
    rw [look_want h1]
    simp only [List.any_cons, Bool.or_assoc]

theorem wantF_eq (l : List LSight) (s : Int) (b : Bool) : wantF (wantM l) s b = !(l.any fun x => decide (x.second = s) && (x.lit != b)) := by
  unfold wantF wantM
  rw [look_want (a := false) (b := false) (by rfl), codeW_and]
  cases b with
  | true =>
    simp
  | false =>
    simp

theorem okW_iff {wf : Int → Bool → Bool} : ∀ {L : List Bool} {s : Int}, okW wf s L = true ↔ ∀ k b, L[k]? = some b → wf (s + (k : Nat)) b = true
  | [], s => by simp [okW]
  | b :: r, s => by
    rw [okW, Bool.and_eq_true, okW_iff]
    constructor
    · rintro ⟨h1, h2⟩ k c hk
      cases k with
      | zero =>
        have : b = c := by simpa using hk
        subst this
        simpa using h1
      | succ k =>
        have := h2 k c (by simpa using hk)
        rw [show s + ((k + 1 : Nat) : Int) = s + 1 + (k : Nat) by omega]
        exact this
    · intro h
      refine ⟨by simpa using h 0 b rfl, fun k c hk => ?_⟩
      have := h (k + 1) c (by simpa using hk)
      rw [show s + ((k + 1 : Nat) : Int) = s + 1 + (k : Nat) by omega] at this
      exact this

theorem wrongF_nil {lit : List Bool} : ∀ {l : List LSight} {i : Int}, wrongF lit l i = [] ↔ ∀ x ∈ l, lit.getD x.second.toNat false = x.lit
  | [], i => by simp [wrongF]
  | x :: r, i => by
    rw [wrongF]
    by_cases h : lit.getD x.second.toNat false = x.lit
    · rw [if_pos h, wrongF_nil, List.forall_mem_cons]
      exact ⟨fun h2 => ⟨h, h2⟩, fun h2 => h2.2⟩
    · rw [if_neg h]
      constructor
      · intro h2; cases h2
      · intro h2; exact absurd (h2 x (by simp)) h

theorem agree_same {l : List LSight} {L : List Bool} (hl : ∀ s ∈ l, 0 ≤ s.second ∧ s.second < L.length) : okW (wantF (wantM l)) 0 L = decide (wrongF L l 0 = []) := by
  rw [Bool.eq_iff_iff, decide_eq_true_eq, okW_iff, wrongF_nil]
  constructor
  · intro h x hx
    obtain ⟨h1, h2⟩ := hl x hx
    have hk : x.second.toNat < L.length := by omega
    have := h x.second.toNat L[x.second.toNat] (List.getElem?_eq_getElem hk)
    rw [wantF_eq, Bool.not_eq_true'] at this
    have hq := List.any_eq_false.1 this x hx
    have e : decide (x.second = 0 + (x.second.toNat : Int)) = true := decide_eq_true (by omega)
    rw [e, Bool.true_and] at hq
    have hq : x.lit = L[x.second.toNat] := by simpa using hq
    simp [List.getD_eq_getElem?_getD, hk, hq]
  · intro h k b hk
    rw [wantF_eq, Bool.not_eq_true']
    refine List.any_eq_false.2 fun x hx => ?_
    by_cases hs : x.second = 0 + (k : Int)
    · have := h x hx
      rw [show x.second.toNat = k by omega, List.getD_eq_getElem?_getD, hk] at this
      have : b = x.lit := by simpa using this
      simp [this]
    · rw [decide_eq_false hs]; simp
end Go.PX

namespace Go.PX
open Go.Proofs

/- Lamp: plain law of At. -/

theorem atK_code {s : Int} : ∀ {l : List (LTruth × List Bool)} {a b : Bool}, l.foldl (atStep s) (codeW a b) = codeW (a || l.any fun p => !(p.2.getD s.toNat false)) (b || l.any fun p => p.2.getD s.toNat false)
  | [], a, b => by simp
  | p :: r, a, b => by
    rw [List.foldl_cons]
    have h1 : atStep s (codeW a b) p = codeW (a || !(p.2.getD s.toNat false)) (b || p.2.getD s.toNat false) := codeW_or a b _
    rw [h1, atK_code]
    simp only [List.any_cons, Bool.or_assoc]

theorem atK_eq (l : List (LTruth × List Bool)) (s : Int) : atK l s = codeW (l.any fun p => !(p.2.getD s.toNat false)) (l.any fun p => p.2.getD s.toNat false) := by
  have h := atK_code (s := s) (l := l) (a := false) (b := false)
  rw [Bool.false_or, Bool.false_or] at h
  exact h

/-- How many are lit. -/
def litN (s : Int) (l : List (List Bool)) : Nat := (l.filter fun r => r.getD s.toNat false).length

theorem litN_cons (s : Int) (x : List Bool) (r : List (List Bool)) : litN s (x :: r) = if x.getD s.toNat false then litN s r + 1 else litN s r := by
  unfold litN
  rw [List.filter_cons]
  split <;> simp

theorem litN_le (s : Int) (l : List (List Bool)) : litN s l ≤ l.length := List.length_filter_le _ _

theorem litN_zero {s : Int} : ∀ {l : List (List Bool)}, litN s l = 0 ↔ (l.any fun r => r.getD s.toNat false) = false
  | [] => by simp [litN]
  | x :: r => by
    rw [litN_cons, List.any_cons]
    cases h : x.getD s.toNat false with
    | true => simp
    | false => simpa using litN_zero (s := s) (l := r)

theorem litN_all {s : Int} : ∀ {l : List (List Bool)}, litN s l = l.length ↔ (l.any fun r => !(r.getD s.toNat false)) = false
  | [] => by simp [litN]
  | x :: r => by
    have hle := litN_le s r
    rw [litN_cons, List.any_cons]
    cases h : x.getD s.toNat false with
    | true => simpa using litN_all (s := s) (l := r)
    | false =>
      simp only [Bool.false_eq_true, if_false, List.length_cons, Bool.not_false, Bool.true_or]
      constructor
      · intro h2; omega
      · intro h2; cases h2

/-- What At says, by how many are lit. -/
def atN (s : Int) (l : List (List Bool)) : Int := if litN s l = 0 then 0 else if litN s l = l.length then 1 else 2

theorem at_same {s : Int} {l : List (LTruth × List Bool)} (h : l ≠ []) : atK l s ≠ 0 ∧ (if atK l s = 1 then (0 : Int) else if atK l s = 2 then 1 else 2) = atN s (l.map (·.2)) := by
  have h1 := litN_zero (s := s) (l := l.map (·.2))
  have h2 := litN_all (s := s) (l := l.map (·.2))
  rw [List.any_map] at h1 h2
  have e1 : (l.any ((fun r => r.getD s.toNat false) ∘ fun p => p.2)) = l.any fun p => p.2.getD s.toNat false := rfl
  have e2 : (l.any ((fun r => !(r.getD s.toNat false)) ∘ fun p => p.2)) = l.any fun p => !(p.2.getD s.toNat false) := rfl
  rw [e1] at h1
  rw [e2] at h2
  rw [atK_eq]
  unfold atN
  cases ha : l.any fun p => !(p.2.getD s.toNat false) <;> cases hb : l.any fun p => p.2.getD s.toNat false
  · exfalso
    cases l with
    | nil => exact h rfl
    | cons p r =>
      rw [List.any_cons, Bool.or_eq_false_iff] at ha hb
      rw [hb.1] at ha
      simp at ha
  · have h3 : ¬ litN s (l.map (·.2)) = 0 := fun e => by have := h1.1 e; rw [hb] at this; cases this
    have h4 : litN s (l.map (·.2)) = (l.map (·.2)).length := h2.2 ha
    rw [if_neg h3, if_pos h4]
    decide
  · have h3 : litN s (l.map (·.2)) = 0 := h1.2 hb
    rw [if_pos h3]
    decide
  · have h3 : ¬ litN s (l.map (·.2)) = 0 := fun e => by have := h1.1 e; rw [hb] at this; cases this
    have h4 : ¬ litN s (l.map (·.2)) = (l.map (·.2)).length := fun e => by have := h2.1 e; rw [ha] at this; cases this
    rw [if_neg h3, if_neg h4]
    decide
end Go.PX

namespace Go.PX
open Go.Proofs

/- Lamp: plain law of Range. -/

def colF (v : Int) (l : List Int) : Span := l.foldl spreadS ⟨v, v⟩
def spAt (t : LTruth) (k : Nat) : Int := t.speeds.getD k 0

theorem spread_foldl_lo {l : List Int} : ∀ {s : Span} {v : Int}, (v ∈ l ∨ s.lo ≤ v ∧ v ≤ s.hi) → (l.foldl spreadS s).lo ≤ v ∧ v ≤ (l.foldl spreadS s).hi := by
  induction l with
  | nil => intro s v h; simpa using h
  | cons x r ih =>
    intro s v h
    rw [List.foldl_cons]
    refine ih ?_
    unfold spreadS
    rcases h with h | h
    · rcases List.mem_cons.1 h with rfl | h
      · right; simp only; omega
      · exact .inl h
    · right; simp only; omega

theorem spread_stay {l : List Int} : ∀ {s : Span}, (∀ v ∈ l, s.lo ≤ v ∧ v ≤ s.hi) → l.foldl spreadS s = s := by
  induction l with
  | nil => intro s _; rfl
  | cons x r ih =>
    intro s h
    rw [List.foldl_cons]
    have hx := h x (by simp)
    have : spreadS s x = s := by
      unfold spreadS
      cases s
      simp only at hx ⊢
      congr 1 <;> omega
    rw [this]
    exact ih fun v hv => h v (by simp [hv])

theorem zip_range {L : List Span} {sp : List Int} {n : Nat} (h1 : L.length = n) (h2 : sp.length = n) : List.zipWith spreadS L sp = (List.range n).map fun k => spreadS (L.getD k ⟨0, 0⟩) (sp.getD k 0) := by
  apply List.ext_getElem
  · simp; omega
  · intro i k1 k2
    have : i < n := by simpa using k2
    simp [List.getD_eq_getElem?_getD, h1, h2, this]

theorem map_range_getD {L : List Span} {n : Nat} (h1 : L.length = n) : ((List.range n).map fun k => L.getD k ⟨0, 0⟩) = L := by
  apply List.ext_getElem
  · simp; omega
  · intro i k1 k2
    simp [List.getD_eq_getElem?_getD, k2]

theorem range_fold {n : Nat} : ∀ {q : List (LTruth × List Bool)} {a : Span} {L : List Span}, L.length = n → (∀ p ∈ q, p.1.speeds.length = n) →
    q.foldl (fun acc p => rangeStep acc p.1) (some (a, L)) = some ((q.map fun p => p.1.start).foldl spreadS a, (List.range n).map fun k => (q.map fun p => spAt p.1 k).foldl spreadS (L.getD k ⟨0, 0⟩))
  | [], a, L, h1, _ => by
    simp only [List.foldl_nil, List.map_nil]
    rw [map_range_getD h1]
  | p :: r, a, L, h1, h2 => by
    have hp := h2 p (by simp)
    rw [List.foldl_cons]
    show r.foldl (fun acc p => rangeStep acc p.1) (some (spreadS a p.1.start, List.zipWith spreadS L p.1.speeds)) = _
    rw [range_fold (by simp; omega) (fun x hx => h2 x (by simp [hx]))]
    congr 2
    refine List.map_congr_left fun k hk => ?_
    have hk := List.mem_range.1 hk
    rw [List.map_cons, List.foldl_cons]
    congr 1
    rw [zip_range h1 hp]
    simp [List.getD_eq_getElem?_getD, hk, spAt]

/-- What Range says of truths that agree. -/
theorem rangeO_eq {p : LTruth × List Bool} {r : List (LTruth × List Bool)} {n : Nat} (h : ∀ x ∈ p :: r, x.1.speeds.length = n) :
    rangeO (p :: r) = some (colF p.1.start ((p :: r).map fun x => x.1.start), (List.range n).map fun k => colF (spAt p.1 k) ((p :: r).map fun x => spAt x.1 k)) := by
  have hp := h p (by simp)
  unfold rangeO
  rw [List.foldl_cons]
  show r.foldl (fun acc p => rangeStep acc p.1) (some (⟨p.1.start, p.1.start⟩, p.1.speeds.map fun n => (⟨n, n⟩ : Span))) = _
  rw [range_fold (n := n) (by simp [hp]) (fun x hx => h x (by simp [hx]))]
  congr 2
  · unfold colF
    rw [List.map_cons, List.foldl_cons, spread_self]
  · refine List.map_congr_left fun k hk => ?_
    have hk := List.mem_range.1 hk
    unfold colF
    rw [List.map_cons, List.foldl_cons, spread_self]
    congr 1
    have : k < p.1.speeds.length := by omega
    simp [List.getD_eq_getElem?_getD, this, spAt]

theorem map_fst {α β γ : Type} (l : List (α × β)) (f : α → γ) : (l.map fun p => f p.1) = (l.map (·.1)).map f := by simp [List.map_map, Function.comp_def]
end Go.PX

namespace Go.PX
open Go.Proofs

/- Lamp: plain laws of the truths that agree. -/

theorem mem_agL {c : LCase} (h0 : (checkL c).2.2 = 0) {p : LTruth × List Bool} : p ∈ agL c ↔ TruthR c p.1 ∧ p.2 = courseL c.lamp c.windings p.1 ∧ ∀ s ∈ c.sights, p.2.getD s.second.toNat false = s.lit := by
  have hR := checkL_ok h0
  have hs : ∀ t s, s ∈ c.sights → 0 ≤ s.second ∧ s.second < (courseL c.lamp c.windings t).length := fun t s hs => by
    have h1 := hR.sight s hs
    have h2 := (courseL_len (w := c.windings) (t := t) hR.lamp).2.2
    omega
  unfold agL
  rw [truL_all (CaseL.up h0).1]
  obtain ⟨t, L⟩ := p
  constructor
  · intro h
    obtain ⟨u, hu, he⟩ := List.mem_map.1 h
    obtain ⟨h1, h2⟩ := List.mem_filter.1 hu
    have e1 : u = t := congrArg Prod.fst he
    have e2 : courseL c.lamp c.windings u = L := congrArg Prod.snd he
    subst e1
    rw [agree_same (hs u), decide_eq_true_eq, wrongF_nil] at h2
    subst e2
    exact ⟨mem_allT.1 h1, rfl, h2⟩
  · rintro ⟨h1, h2, h3⟩
    have h2 : L = courseL c.lamp c.windings t := h2
    subst h2
    refine List.mem_map.2 ⟨t, List.mem_filter.2 ⟨mem_allT.2 h1, ?_⟩, rfl⟩
    rw [agree_same (hs t), decide_eq_true_eq, wrongF_nil]
    exact h3

/-- What is known at a second, of truths that agree. -/
theorem at_has {c : LCase} (h0 : (checkL c).2.2 = 0) {s : Int} (hs : 0 ≤ s ∧ s < c.lamp.night) {p : LTruth × List Bool} (hp : p ∈ agL c) :
    atE c s = 0 ∧ (atV c s = 0 ∨ atV c s = 1 ∨ atV c s = 2) ∧ (atV c s = 1 → ∀ q ∈ agL c, q.2.getD s.toNat false = true) ∧ (atV c s = 0 → ∀ q ∈ agL c, q.2.getD s.toNat false = false) ∧
      ((∀ q ∈ agL c, q.2.getD s.toNat false = true) → atV c s = 1) ∧ ((∀ q ∈ agL c, q.2.getD s.toNat false = false) → atV c s = 0) := by
  have hin : inB s 0 (c.lamp.night - 1) = true := by rw [inB_iff]; omega
  have hk := atK_eq (agL c) s
  generalize hA : (agL c).any (fun p => !(p.2.getD s.toNat false)) = A at hk
  generalize hB : (agL c).any (fun p => p.2.getD s.toNat false) = B at hk
  have hAB : A = true ∨ B = true := by
    cases hb : p.2.getD s.toNat false with
    | true => right; rw [← hB]; exact List.any_eq_true.2 ⟨p, hp, hb⟩
    | false => left; rw [← hA]; exact List.any_eq_true.2 ⟨p, hp, by rw [hb]; rfl⟩
  have hne : atK (agL c) s ≠ 0 := by
    rw [hk]
    rcases hAB with h | h <;> rw [h] <;> cases A <;> cases B <;> simp [codeW] at *
  have hE : atE c s = 0 := by unfold atE; rw [if_pos h0, if_pos hin, if_neg hne]
  have hV : atV c s = if atK (agL c) s = 1 then 0 else if atK (agL c) s = 2 then 1 else 2 := by unfold atV; rw [hE, if_pos rfl]
  have hAf : A = false → ∀ q ∈ agL c, q.2.getD s.toNat false = true := fun h q hq => by
    rw [h] at hA
    simpa using List.any_eq_false.1 hA q hq
  have hBf : B = false → ∀ q ∈ agL c, q.2.getD s.toNat false = false := fun h q hq => by
    rw [h] at hB
    simpa using List.any_eq_false.1 hB q hq
  have hAt : A = true → ¬ ∀ q ∈ agL c, q.2.getD s.toNat false = true := fun h h2 => by
    rw [h] at hA
    obtain ⟨q, hq, h3⟩ := List.any_eq_true.1 hA
    rw [h2 q hq] at h3; cases h3
  have hBt : B = true → ¬ ∀ q ∈ agL c, q.2.getD s.toNat false = false := fun h h2 => by
    rw [h] at hB
    obtain ⟨q, hq, h3⟩ := List.any_eq_true.1 hB
    rw [h2 q hq] at h3; cases h3
  rw [hV, hk]
  refine ⟨hE, ?_⟩
  cases A <;> cases B
  · rcases hAB with h | h <;> cases h
  · rw [show (if codeW false true = 1 then (0 : Int) else if codeW false true = 2 then 1 else 2) = 1 from by decide]
    exact ⟨.inr (.inl rfl), fun _ => hAf rfl, fun h => absurd h (by decide), fun _ => rfl, fun h => absurd h (hBt rfl)⟩
  · rw [show (if codeW true false = 1 then (0 : Int) else if codeW true false = 2 then 1 else 2) = 0 from by decide]
    exact ⟨.inl rfl, fun h => absurd h (by decide), fun _ => hBf rfl, fun h => absurd h (hAt rfl), fun _ => rfl⟩
  · rw [show (if codeW true true = 1 then (0 : Int) else if codeW true true = 2 then 1 else 2) = 2 from by decide]
    exact ⟨.inr (.inr rfl), fun h => absurd h (by decide), fun h => absurd h (by decide), fun h => absurd h (hAt rfl), fun h => absurd h (hBt rfl)⟩

theorem at_none {c : LCase} (h0 : (checkL c).2.2 = 0) {s : Int} (hs : 0 ≤ s ∧ s < c.lamp.night) (hp : agL c = []) : atE c s = 9 ∧ atV c s = 0 := by
  have hin : inB s 0 (c.lamp.night - 1) = true := by rw [inB_iff]; omega
  have hE : atE c s = 9 := by unfold atE; rw [if_pos h0, if_pos hin, hp]; rfl
  exact ⟨hE, by unfold atV; rw [hE]; rfl⟩

theorem spread_foldl_mem {l : List Int} : ∀ {s : Span}, ((l.foldl spreadS s).lo = s.lo ∨ (l.foldl spreadS s).lo ∈ l) ∧ ((l.foldl spreadS s).hi = s.hi ∨ (l.foldl spreadS s).hi ∈ l) := by
  induction l with
  | nil => intro s; exact ⟨.inl rfl, .inl rfl⟩
  | cons x r ih =>
    intro s
    rw [List.foldl_cons]
    obtain ⟨h1, h2⟩ := ih (s := spreadS s x)
    constructor
    · rcases h1 with h1 | h1
      · rw [h1]
        have : (spreadS s x).lo = s.lo ∨ (spreadS s x).lo = x := by unfold spreadS; simp only; omega
        rcases this with h | h
        · exact .inl h
        · right; rw [h]; simp
      · exact .inr (List.mem_cons_of_mem _ h1)
    · rcases h2 with h2 | h2
      · rw [h2]
        have : (spreadS s x).hi = s.hi ∨ (spreadS s x).hi = x := by unfold spreadS; simp only; omega
        rcases this with h | h
        · exact .inl h
        · right; rw [h]; simp
      · exact .inr (List.mem_cons_of_mem _ h2)

/-- What Range says: within, and reached. -/
theorem range_has {c : LCase} (h0 : (checkL c).2.2 = 0) {p : LTruth × List Bool} (hp : p ∈ agL c) :
    rangeE c = 0 ∧ (∀ q ∈ agL c, (rangeA c).lo ≤ q.1.start ∧ q.1.start ≤ (rangeA c).hi) ∧ (rangeB' c).length = c.windings.length + 1 ∧
      (∀ k s, (rangeB' c)[k]? = some s → (∀ q ∈ agL c, s.lo ≤ spAt q.1 k ∧ spAt q.1 k ≤ s.hi) ∧ (∃ q ∈ agL c, spAt q.1 k = s.lo) ∧ ∃ q ∈ agL c, spAt q.1 k = s.hi) ∧
      (∃ q ∈ agL c, q.1.start = (rangeA c).lo) ∧ ∃ q ∈ agL c, q.1.start = (rangeA c).hi := by
  have hsl : ∀ q ∈ agL c, q.1.speeds.length = c.windings.length + 1 := fun q hq => (agL_ok h0 hq).1.len
  unfold rangeE rangeA rangeB'
  rw [if_pos h0, if_pos h0, if_pos h0]
  generalize agL c = L at hp hsl ⊢
  cases L with
  | nil => cases hp
  | cons p0 r =>
    rw [rangeO_eq hsl]
    have key : ∀ (f : LTruth × List Bool → Int), (∀ q ∈ p0 :: r, (colF (f p0) ((p0 :: r).map f)).lo ≤ f q ∧ f q ≤ (colF (f p0) ((p0 :: r).map f)).hi) ∧ (∃ q ∈ p0 :: r, f q = (colF (f p0) ((p0 :: r).map f)).lo) ∧ ∃ q ∈ p0 :: r, f q = (colF (f p0) ((p0 :: r).map f)).hi := by
      intro f
      refine ⟨fun q hq => spread_foldl_lo (.inl (List.mem_map.2 ⟨q, hq, rfl⟩)), ?_⟩
      obtain ⟨h1, h2⟩ := spread_foldl_mem (l := (p0 :: r).map f) (s := ⟨f p0, f p0⟩)
      constructor
      · rcases h1 with h1 | h1
        · exact ⟨p0, by simp, h1.symm⟩
        · obtain ⟨q, hq, he⟩ := List.mem_map.1 h1
          exact ⟨q, hq, he⟩
      · rcases h2 with h2 | h2
        · exact ⟨p0, by simp, h2.symm⟩
        · obtain ⟨q, hq, he⟩ := List.mem_map.1 h2
          exact ⟨q, hq, he⟩
    have k0 := key fun q => q.1.start
    refine ⟨rfl, k0.1, by simp, fun k s hk => ?_, k0.2.1, k0.2.2⟩
    have hkl : k < c.windings.length + 1 := by
      have := (List.getElem?_eq_some_iff.1 hk).1
      simpa using this
    simp only [List.getElem?_map, List.getElem?_range hkl, Option.map_some, Option.some.injEq] at hk
    subst hk
    exact key fun q => spAt q.1 k

theorem range_none {c : LCase} (h0 : (checkL c).2.2 = 0) (hp : agL c = []) : rangeE c = 9 ∧ rangeA c = ⟨0, 0⟩ ∧ rangeB' c = [] := by
  unfold rangeE rangeA rangeB'
  rw [if_pos h0, if_pos h0, if_pos h0, hp]
  exact ⟨rfl, rfl, rfl⟩

theorem mem_which {A : List (LTruth × List Bool)} {n : Int} : ∀ {l : List LLight} {i : Int}, n ∈ whichF A l i ↔ ∃ k x, l[k]? = some x ∧ n = i + (k : Nat) ∧ A.any (keepsB x.phases) = true
  | [], i => by simp [whichF]
  | x :: r, i => by
    have h1 : n ∈ whichF A (x :: r) i ↔ (n = i ∧ A.any (keepsB x.phases) = true) ∨ n ∈ whichF A r (i + 1) := by
      rw [whichF]
      cases hb : A.any (keepsB x.phases) with
      | true => simp
      | false => simp
    rw [h1, mem_which]
    constructor
    · rintro (⟨h2, h3⟩ | ⟨k, y, hk, he, h3⟩)
      · exact ⟨0, x, rfl, by omega, h3⟩
      · exact ⟨k + 1, y, by simpa using hk, by omega, h3⟩
    · rintro ⟨k, y, hk, he, h3⟩
      cases k with
      | zero =>
        have : x = y := by simpa using hk
        subst this
        exact .inl ⟨by omega, h3⟩
      | succ k => exact .inr ⟨k, y, by simpa using hk, by omega, h3⟩

theorem lights_one {l : List LLight} (h : (lightsF l).2 = 0) {x : LLight} (hx : x ∈ l) : (lightsF [x]).2 = 0 := by
  unfold lightsF at h
  split at h
  case isFalse => cases h
  obtain ⟨b, hb⟩ := firstE_ok h x hx
  have : lightF [] x = 0 := by
    unfold lightF at hb ⊢
    split at hb
    case isFalse => cases hb
    rename_i h1
    rw [if_pos h1]
    split at hb
    · cases hb
    · simpa using hb
  unfold lightsF
  rw [if_pos (by rfl), firstE, if_pos this]; rfl

theorem entr_one {c : LCase} (h0 : (checkL c).2.2 = 0) {l : List LLight} (h : (lightsF l).2 = 0) {x : LLight} (hx : x ∈ l) : entrE c [x] = 0 := by
  unfold entrE; rw [if_pos h0]; exact lights_one h hx

theorem sight_same {night : Int} {f : LSight → LSight} (hf : ∀ s, (f s).second = s.second) : ∀ {l : List LSight} {i : Int}, sightF night (l.map f) i = sightF night l i
  | [], _ => rfl
  | s :: r, i => by rw [List.map_cons, sightF, sightF, hf, sight_same hf]

/-- The error of a truth, the other way round. -/
theorem truth_iff {c : LCase} {t : LTruth} : truthE c t = 0 ↔ TruthR c t := by
  refine ⟨truth_ok, fun ⟨h1, h2, h3⟩ => ?_⟩
  unfold truthE
  have e1 : inB t.start c.lamp.start.lo c.lamp.start.hi = true := by rw [inB_iff]; omega
  have e2 : (t.speeds.all fun s => inB s c.lamp.speed.lo c.lamp.speed.hi) = true := List.all_eq_true.2 fun s hs => by rw [inB_iff]; exact h3 s hs
  simp [h2, e1, e2]
end Go.PX

namespace Go.PX
open Go.Proofs

/- Lamp: Told. -/

def litS (L : List Bool) (s : LSight) : LSight := ⟨s.second, L.getD s.second.toNat false⟩
def toldF (c : LCase) (t : LTruth) : LCase := { c with sights := c.sights.map (litS (courseL c.lamp c.windings t)) }

theorem told_check (c : LCase) (t : LTruth) : (checkL (toldF c t)).2.2 = (checkL c).2.2 := by
  unfold checkL toldF
  simp only [List.length_map, sight_same (f := litS (courseL c.lamp c.windings t)) fun _ => rfl]

theorem told_truth {c : LCase} {t u : LTruth} (h : TruthR c u) : TruthR (toldF c t) u := ⟨h.start, h.len, h.speed⟩

theorem told_agree {c : LCase} (h0 : (checkL c).2.2 = 0) {t : LTruth} (hT : TruthR c t) : (t, courseL c.lamp c.windings t) ∈ agL (toldF c t) := by
  refine (mem_agL (by rw [told_check]; exact h0)).2 ⟨told_truth hT, rfl, fun s hs => ?_⟩
  obtain ⟨y, hy, rfl⟩ := List.mem_map.1 hs
  rfl

theorem la49 (c : LCase) (hR : CaseL c) (t : LTruth) (hT : TruthR c t) : FnV Try.prog 49 [c.d, t.d, .int .u8 0] (toldF c t).d := by
  refine fnV_of mixed tysOk Try.func49 rfl (ft := ft49) 3 (by decide +kernel) (by rfl) fun {σ} Y st => ?_
  conv => whnf
  refine CallA_v (la50 c.lamp c.windings t (CrsR.of hR hT)) rfl rfl ?_
  conv => whnf
  have hL := (courseL_len (w := c.windings) (t := t) hR.lamp)
  have hsi := hR.sight
  have hsn := hR.sights
  have hz : (toldF c t).sights = c.sights.map (litS (courseL c.lamp c.windings t)) := rfl
  have hz1 : (toldF c t).lamp = c.lamp ∧ (toldF c t).windings = c.windings := ⟨rfl, rfl⟩
  generalize toldF c t = z at hz hz1 ⊢
  generalize courseL c.lamp c.windings t = L at hL hz
  refine LoopA_i (T := tys) tysOk (by exact drawsB_spec mixed tysOk (by decide +kernel)) c.sights (fun i (acc : List LSight) => ⟨[(2, .d (.int .u8 0)), (3, .ptr 3 0), (4, .ptr 4 0), (6, .ptr 6 0), (7, .d (boolsD L)), (8, .sl 44 2 0 acc.length), (9, .d (i64 i))], [(3, .box (.dd c.cells)), (4, .box (.dd t.cells)), (6, .box (.dd [i64 0, .nils, i64 0, i64 0, i64 0, i64 0, i64 0, i64 0, .nils, .nils])), (44, .arr 2 (.dd (acc.map LSight.cells)))], st⟩)
    (fun i r acc => acc.length ≤ i ∧ z.sights = acc ++ r.map (litS L)) [] ((Wk.born 8 44 2 rfl rfl rfl).trans (Wk.sub ⟨(by first | rfl | (simp only [List.length_map]; rfl) | simp [PX.get]), (by first | rfl | (simp only [List.length_map]; rfl) | simp [PX.get]), (by first | rfl | (simp only [List.length_map]; rfl) | simp [PX.get]), (by first | rfl | (simp only [List.length_map]; rfl) | simp [PX.get]), (by first | rfl | (simp only [List.length_map]; rfl) | simp [PX.get]), (by first | rfl | (simp only [List.length_map]; rfl) | simp [PX.get]), (by first | rfl | (simp only [List.length_map]; rfl) | simp [PX.get]), trivial⟩ ⟨(by first | rfl | (simp only [List.length_map]; rfl) | simp [PX.get]), (by first | rfl | (simp only [List.length_map]; rfl) | simp [PX.get]), (by first | rfl | (simp only [List.length_map]; rfl) | simp [PX.get]), (by first | rfl | (simp only [List.length_map]; rfl) | simp [PX.get]), trivial⟩)) ⟨by simp, hz⟩ ?_ ?_
  · rintro i s r acc hx hi hr ⟨hal, he⟩
    have hs := hsi s (List.mem_of_getElem? hx)
    have hlt : s.second.toNat < L.length := by omega
    obtain ⟨b, hb⟩ : ∃ b, L[s.second.toNat]? = some b := ⟨_, List.getElem?_eq_getElem hlt⟩
    have hls : litS L s = ⟨s.second, b⟩ := by simp [litS, List.getD_eq_getElem?_getD, hb]
    rw [List.map_cons, hls] at he
    conv => whnf
    refine brk_i (fun _ => ?_) (fun h => absurd hi (by have := of_decide_eq_false h; simp at this; omega))
    conv => whnf
    refine elemK_nat hx ?_
    conv => whnf
    refine elemK_i [.bool b] ⟨hs.1, by simp [hb]⟩ ?_
    conv => whnf
    refine DrawCall_v (la59 _ _) rfl rfl ?_
    conv => whnf
    refine ownK_whole rfl ?_
    conv => whnf
    refine ownK_whole (by simp [Els.len]) ?_
    conv => whnf
    refine chk_i (decide_eq_true (by
      show ((acc.map LSight.cells).length + 1) * 16 ≤ 140737488355328
      rw [List.length_map]; omega)) ?_
    conv => whnf
    refine arith_in (wrap_i64 (by (try dsimp only); omega)) ?_
    conv => whnf
    refine ⟨acc ++ [⟨s.second, b⟩], ⟨by simp; omega, by simpa using he⟩, Wk.sub ⟨rfl, rfl, rfl, rfl, rfl, ?_, rfl, trivial⟩ ⟨rfl, rfl, rfl, ?_, trivial⟩⟩
    · show some (V.sl 44 2 0 ((acc.map LSight.cells).length + 1)) = _
      simp
    · simp [PX.get, LSight.cells]
  · rintro acc ⟨_, he⟩
    have he : z.sights = acc := by simpa using he
    conv => whnf
    refine brk_i (fun h => absurd h (by simp)) (fun _ => ?_)
    conv => whnf
    have hd : z.d = .agg [i64 c.lamp.drum, spansD c.lamp.lit, i64 c.lamp.start.lo, i64 c.lamp.start.hi, i64 c.lamp.speed.lo, i64 c.lamp.speed.hi, i64 c.lamp.slow, i64 c.lamp.night, intsD c.windings, sightsD acc] := by
      obtain ⟨zl, zw, zs⟩ := z
      obtain ⟨rfl, rfl⟩ := hz1
      have he : zs = acc := he
      subst he
      rfl
    rw [hd]
    refine RetA_view 2 (ds := [.agg [i64 c.lamp.drum, spansD c.lamp.lit, i64 c.lamp.start.lo, i64 c.lamp.start.hi, i64 c.lamp.speed.lo, i64 c.lamp.speed.hi, i64 c.lamp.slow, i64 c.lamp.night, intsD c.windings, sightsD acc]]) ?_ ⟨⟨rfl, rfl⟩, rfl⟩
    exact viewL_cons (viewV_agg (viewL_app (a := [i64 c.lamp.drum, spansD c.lamp.lit, i64 c.lamp.start.lo, i64 c.lamp.start.hi, i64 c.lamp.speed.lo, i64 c.lamp.speed.hi, i64 c.lamp.slow, i64 c.lamp.night, intsD c.windings]) (viewL_cons (viewV_sl rfl (by simp)) rfl))) rfl
end Go.PX

namespace Go.PX
open Go.Proofs

/- Lamp: the fewest sights that are wrong. -/

theorem leastStep_some (o : Option (List Int)) (y : List Int) : ∃ w, leastStep o y = some w ∧ (o = some w ∨ w = y) ∧ w.length ≤ y.length ∧ ∀ z, o = some z → w.length ≤ z.length := by
  cases o with
  | none => exact ⟨y, rfl, .inr rfl, Nat.le_refl _, fun z h => by cases h⟩
  | some z =>
    by_cases h : cmpW y z < 0
    · refine ⟨y, by simp [leastStep, h], .inr rfl, Nat.le_refl _, fun u hu => ?_⟩
      cases hu
      unfold cmpW at h
      split at h <;> omega
    · refine ⟨z, by simp [leastStep, h], .inl rfl, ?_, fun u hu => by cases hu; exact Nat.le_refl _⟩
      unfold cmpW at h
      split at h <;> omega

theorem leastW_min : ∀ {l : List (List Int)} {o : Option (List Int)} {m : List Int}, l.foldl leastStep o = some m → (o = some m ∨ m ∈ l) ∧ (∀ z, o = some z → m.length ≤ z.length) ∧ ∀ y ∈ l, m.length ≤ y.length
  | [], o, m, h => by
    have h : o = some m := h
    subst h
    exact ⟨.inl rfl, fun z hz => by cases hz; exact Nat.le_refl _, fun y hy => by cases hy⟩
  | x :: r, o, m, h => by
    rw [List.foldl_cons] at h
    obtain ⟨w, hw, h1, h2, h3⟩ := leastStep_some o x
    rw [hw] at h
    obtain ⟨k1, k2, k3⟩ := leastW_min h
    have k4 := k2 w rfl
    refine ⟨?_, fun z hz => Nat.le_trans k4 (h3 z hz), fun y hy => ?_⟩
    · rcases k1 with k1 | k1
      · cases k1
        rcases h1 with h1 | h1
        · exact .inl h1
        · right; rw [h1]; simp
      · exact .inr (List.mem_cons_of_mem _ k1)
    · rcases List.mem_cons.1 hy with rfl | hy
      · exact Nat.le_trans k4 h2
      · exact k3 y hy

theorem leastW_ne : ∀ {l : List (List Int)} {o : Option (List Int)}, (o.isSome = true ∨ l ≠ []) → (l.foldl leastStep o).isSome = true
  | [], o, h => by simpa using h
  | x :: r, o, _ => by
    rw [List.foldl_cons]
    obtain ⟨w, hw, _⟩ := leastStep_some o x
    exact leastW_ne (.inl (by rw [hw]; rfl))

/-- What Wrong says: the sights that are wrong in some truth; no truth has fewer. -/
theorem wrong_law {c : LCase} (h0 : (checkL c).2.2 = 0) : (∃ t, TruthR c t ∧ wrongV c = wrongF (courseL c.lamp c.windings t) c.sights 0) ∧ ∀ t, TruthR c t → (wrongV c).length ≤ (wrongF (courseL c.lamp c.windings t) c.sights 0).length := by
  have hW : wrongsL c = (allT c.lamp c.windings).map fun t => wrongF (courseL c.lamp c.windings t) c.sights 0 := by
    unfold wrongsL
    rw [allC_eq h0, List.map_map]; rfl
  have hne : ∃ t, TruthR c t := by
    have hR := checkL_ok h0
    have h1 := hR.lamp.start
    have h2 := hR.lamp.speed
    exact ⟨⟨c.lamp.start.lo, List.replicate (c.windings.length + 1) c.lamp.speed.lo⟩, ⟨Int.le_refl _, h1.2.1⟩, by simp, fun s hs => by
      rw [(List.mem_replicate.1 hs).2]; omega⟩
  have hV : wrongV c = wrongO c := by unfold wrongV; rw [if_pos h0]
  have hs : (leastW (wrongsL c)).isSome = true := leastW_ne (.inr (by
    obtain ⟨t, ht⟩ := hne
    rw [hW]
    intro h
    have := List.map_eq_nil_iff.1 h
    have h2 := mem_allT.2 ht
    rw [this] at h2; cases h2))
  obtain ⟨m, hm⟩ := Option.isSome_iff_exists.1 hs
  have hO : wrongO c = m := by unfold wrongO; rw [hm]
  obtain ⟨k1, _, k3⟩ := leastW_min hm
  rw [hV, hO]
  constructor
  · rcases k1 with k1 | k1
    · cases k1
    · rw [hW] at k1
      obtain ⟨t, ht, he⟩ := List.mem_map.1 k1
      exact ⟨t, mem_allT.1 ht, he.symm⟩
  · intro t ht
    exact k3 _ (by rw [hW]; exact List.mem_map.2 ⟨t, mem_allT.2 ht, rfl⟩)

theorem wrong_none {c : LCase} (h0 : (checkL c).2.2 = 0) {p : LTruth × List Bool} (hp : p ∈ agL c) : wrongV c = [] := by
  obtain ⟨h1, h2, h3⟩ := (mem_agL h0).1 hp
  have := (wrong_law h0).2 p.1 h1
  rw [← h2, wrongF_nil.2 h3] at this
  exact List.length_eq_zero_iff.1 (by simpa using this)
end Go.PX

namespace Go.PX
open Go.Proofs

/- Lamp: the reference: Stretches, Lit, Shows. -/

def strG : List Bool → Int → Bool → List Span → Span → List Span
  | [], _, _, A, y => A ++ [y]
  | b :: r, s, p, A, y => if b = p then strG r (s + 1) b A ⟨y.lo, s⟩ else strG r (s + 1) b (A ++ [y]) ⟨s, s⟩

def strF : List Bool → List Span
  | [] => []
  | b :: r => strG r 1 b [] ⟨0, 0⟩

abbrev StrS := Option (Bool × List Span × Span)
def strL : StrS → List Span
  | none => []
  | some (_, A, y) => A ++ [y]
def strN : StrS → Nat
  | none => 0
  | some (_, A, _) => A.length + 1
theorem strL_len (o : StrS) : (strL o).length = strN o := by
  cases o with
  | none => rfl
  | some p => obtain ⟨p, A, y⟩ := p; simp [strL, strN]

/-- What is known after so many seconds. -/
def StrJ (L : List Bool) (i : Nat) (r : List Bool) : StrS → Prop
  | none => i = 0 ∧ strF L = strF r
  | some (p, A, y) => 0 < i ∧ L[i - 1]? = some p ∧ strF L = strG r i p A y ∧ A.length + 1 ≤ i

set_option maxHeartbeats 1000000 in
theorem la99 (L : List Bool) (hL : L.length ≤ 100000) : FnV Try.prog 99 [boolsD L] (spansD (strF L)) := by
  refine fnV_of mixed tysOk Try.func99 rfl (ft := ft99) 1 (by decide +kernel) (by rfl) fun {σ} Y st => ?_
  conv => whnf
  refine LoopA_i (T := tys) tysOk (by exact drawsB_spec mixed tysOk (by decide +kernel)) L (fun i (o : StrS) => ⟨[(0, .d (boolsD L)), (3, .sl 900000 2 0 (strN o)), (4, .d (i64 i))], [(900000, .arr 2 (.dd ((strL o).map Span.cells)))], st⟩) (fun i r o => StrJ L i r o) none ((Wk.born 3 900000 2 rfl rfl rfl).trans (Wk.sub ⟨(by first | rfl | (simp only [List.length_map]; rfl) | simp [PX.get]), (by first | rfl | (simp only [List.length_map]; rfl) | simp [PX.get]), (by first | rfl | (simp only [List.length_map]; rfl) | simp [PX.get]), trivial⟩ ⟨(by first | rfl | (simp only [List.length_map]; rfl) | simp [PX.get]), trivial⟩)) ⟨rfl, rfl⟩ ?_ ?_
  · intro i b r o hx hi hr hJ
    have hb : L.length = i + 1 + r.length := by omega
    conv => whnf
    refine brk_i (fun _ => ?_) (fun h => absurd hi (by simpa using h))
    conv => whnf
    cases o with
    | none =>
      obtain ⟨h0, he⟩ := hJ
      subst h0
      rw [show decide ((0 : Int) < ((0 : Nat) : Int)) = false from rfl]
      conv => whnf
      refine ownK_whole rfl ?_
      conv => whnf
      refine ownK_whole rfl ?_
      conv => whnf
      refine arith_in (wrap_i64 (by (try dsimp only); omega)) ?_
      conv => whnf
      exact ⟨some (b, [], ⟨0, 0⟩), ⟨by omega, hx, he, by simp⟩, (Wk.move 46 900000 rfl rfl).trans (Wk.sub ⟨(by first | rfl | (simp only [List.length_map]; rfl) | simp [PX.get]), (by first | rfl | (simp only [List.length_map]; rfl) | simp [PX.get]), (by first | rfl | (simp only [List.length_map]; rfl) | simp [PX.get]), trivial⟩ ⟨(by first | rfl | (simp only [List.length_map]; rfl) | simp [PX.get]), trivial⟩)⟩
    | some q =>
      obtain ⟨p, A, y⟩ := q
      obtain ⟨h0, hp, he, hA⟩ := hJ
      rw [strG] at he
      have hlen : ((strL (some (p, A, y))).map Span.cells).length = A.length + 1 := by simp [strL]
      rw [show decide ((0 : Int) < (i : Int)) = true from decide_eq_true (by omega)]
      conv => whnf
      refine elemK_nat hx ?_
      conv => whnf
      refine arith_to ((i - 1 : Nat) : Int) (by omega) (wrap_i64 (by omega)) ?_
      conv => whnf
      refine elemK_nat hp ?_
      conv => whnf
      by_cases h1 : b = p
      · rw [if_pos h1] at he
        subst h1
        rw [show (b == b) = true by simp]
        conv => whnf
        refine arith_to ((A.length : Nat) : Int) (by simp [strN]) (wrap_i64 (by omega)) ?_
        conv => whnf
        rw [show (decide ((0 : Int) ≤ (A.length : Int)) && decide ((A.length : Int) ≤ (strN (some (b, A, y)) : Int))) = true from by rw [Bool.and_eq_true, decide_eq_true_eq, decide_eq_true_eq]; simp only [strN]; omega]
        conv => whnf
        refine arith_to ((A.length : Nat) : Int) (by simp [strN]) (wrap_i64 (by omega)) ?_
        conv => whnf
        rw [show (decide ((0 : Int) ≤ (A.length : Int)) && decide ((A.length : Int) < (strN (some (b, A, y)) : Int))) = true from by rw [Bool.and_eq_true, decide_eq_true_eq, decide_eq_true_eq]; simp only [strN]; omega]
        conv => whnf
        rw [show (List.map Span.cells (strL (some (b, A, y))))[0 + ((A.length : Int)).toNat]? = some y.cells from by simp [strL]]
        conv => whnf
        refine ownK_whole rfl ?_
        conv => whnf
        refine ⟨by show Nat.ble (0 + ((A.length : Int).toNat - 0)) ((strL (some (b, A, y))).map Span.cells).length = true; rw [hlen]; exact Nat.ble_eq_true_of_le (by omega), ?_⟩
        conv => whnf
        have hpart : (Els.dd ((strL (some (b, A, y))).map Span.cells)).part 0 ((A.length : Int).toNat - 0) = Els.dd (A.map Span.cells) := by simp [Els.part, strL]
        rw [hpart]
        refine chk_i (decide_eq_true (by
          show ((A.map Span.cells).length + 1) * 16 ≤ 140737488355328
          rw [List.length_map]; omega)) ?_
        conv => whnf
        refine arith_in (wrap_i64 (by (try dsimp only); omega)) ?_
        conv => whnf
        refine ⟨some (b, A, ⟨y.lo, i⟩), ⟨by omega, by rw [Nat.add_sub_cancel]; exact hx, he, by omega⟩, (Wk.move 40 900000 rfl rfl).trans (Wk.sub ⟨rfl, ?_, rfl, trivial⟩ ⟨?_, trivial⟩)⟩
        · show some (V.sl 900000 2 0 ((A.map Span.cells).length + 1)) = some (V.sl 900000 2 0 (A.length + 1))
          rw [List.length_map]
        · show some (Obj.arr 2 (.dd (A.map Span.cells ++ [[i64 y.lo, i64 i]]))) = some (Obj.arr 2 (.dd ((A ++ [(⟨y.lo, i⟩ : Span)]).map Span.cells)))
          rw [List.map_append]; rfl
      · rw [if_neg h1] at he
        rw [show (b == p) = false by simpa using h1]
        conv => whnf
        refine ownK_whole rfl ?_
        conv => whnf
        refine ownK_whole (by simp [Els.len, strL, strN]) ?_
        conv => whnf
        refine chk_i (decide_eq_true (by
          show (((strL (some (p, A, y))).map Span.cells).length + 1) * 16 ≤ 140737488355328
          rw [hlen]; omega)) ?_
        conv => whnf
        refine arith_in (wrap_i64 (by (try dsimp only); omega)) ?_
        conv => whnf
        refine ⟨some (b, A ++ [y], ⟨i, i⟩), ⟨by omega, by rw [Nat.add_sub_cancel]; exact hx, he, by simp; omega⟩, (Wk.move 46 900000 rfl rfl).trans (Wk.sub ⟨rfl, ?_, rfl, trivial⟩ ⟨?_, trivial⟩)⟩
        · show some (V.sl 900000 2 0 (((A ++ [y]).map Span.cells).length + 1)) = some (V.sl 900000 2 0 ((A ++ [y]).length + 1))
          rw [List.length_map]
        · show some (Obj.arr 2 (.dd ((A ++ [y]).map Span.cells ++ [[i64 i, i64 i]]))) = some (Obj.arr 2 (.dd ((A ++ [y] ++ [(⟨i, i⟩ : Span)]).map Span.cells)))
          rw [List.map_append (l₁ := A ++ [y])]; rfl
  · intro o hJ
    have : strF L = strL o := by
      cases o with
      | none => exact hJ.2
      | some q => obtain ⟨p, A, y⟩ := q; exact hJ.2.2.1
    rw [this]
    conv => whnf
    refine brk_i (fun h => absurd h (by simp)) (fun _ => ?_)
    conv => whnf
    exact RetA_sl rfl (by rw [List.length_map, strL_len]) ⟨⟨rfl, rfl⟩, rfl⟩
end Go.PX

namespace Go.PX
open Go.Proofs

/- Lamp: the reference: Lit, Shows. -/

def litAt (L : List Bool) (s : Int) : Bool := L.getD s.toNat false
def litL (L : List Bool) : List Span := (strF L).filter fun s => litAt L s.lo

theorem strG_in {L : List Bool} : ∀ {r : List Bool} {s : Int} {p : Bool} {A : List Span} {y : Span}, (∀ z ∈ A, 0 ≤ z.lo ∧ z.lo ≤ z.hi ∧ z.hi < L.length) → (0 ≤ y.lo ∧ y.lo ≤ y.hi ∧ y.hi < s) → s + r.length = L.length →
    ∀ z ∈ strG r s p A y, 0 ≤ z.lo ∧ z.lo ≤ z.hi ∧ z.hi < L.length
  | [], s, p, A, y, hA, hy, hs, z, hz => by
    rw [strG] at hz
    simp only [List.length_nil] at hs
    rcases List.mem_append.1 hz with hz | hz
    · exact hA z hz
    · rw [List.mem_singleton.1 hz]; omega
  | b :: r, s, p, A, y, hA, hy, hs, z, hz => by
    rw [strG] at hz
    simp only [List.length_cons] at hs
    split at hz
    · exact strG_in hA (by simp only; omega) (by omega) z hz
    · refine strG_in (fun u hu => ?_) (by simp only; omega) (by omega) z hz
      rcases List.mem_append.1 hu with hu | hu
      · exact hA u hu
      · rw [List.mem_singleton.1 hu]; omega

theorem strF_in {L : List Bool} : ∀ z ∈ strF L, 0 ≤ z.lo ∧ z.lo ≤ z.hi ∧ z.hi < L.length := by
  intro z hz
  cases L with
  | nil => cases hz
  | cons b r => exact strG_in (L := b :: r) (by simp) (by simp) (by simp; omega) z hz

theorem strG_len : ∀ {r : List Bool} {s : Int} {p : Bool} {A : List Span} {y : Span}, (strG r s p A y).length ≤ A.length + 1 + r.length
  | [], _, _, A, y => by simp [strG]
  | b :: r, s, p, A, y => by
    rw [strG]
    split
    · have := strG_len (r := r) (s := s + 1) (p := b) (A := A) (y := ⟨y.lo, s⟩); simp only [List.length_cons]; omega
    · have := strG_len (r := r) (s := s + 1) (p := b) (A := A ++ [y]) (y := ⟨s, s⟩)
      simp only [List.length_cons, List.length_append, List.length_nil] at this ⊢; omega

theorem strF_len (L : List Bool) : (strF L).length ≤ L.length := by
  cases L with
  | nil => exact Nat.le_refl _
  | cons b r =>
    have := strG_len (r := r) (s := 1) (p := b) (A := []) (y := ⟨0, 0⟩)
    simp only [strF, List.length_cons, List.length_nil] at *
    omega

/-- The program's list of the lit stretches is the reference's. -/
theorem showF_str {f : Int → Bool} : ∀ {r : List Bool} {s : Int} {p : Bool} {A : List Span} {y : Span}, (∀ k b, r[k]? = some b → f (s + (k : Nat)) = b) → f y.lo = p →
    showF r s p ((A ++ [y]).filter fun z => f z.lo) = (strG r s p A y).filter fun z => f z.lo
  | [], _, _, _, _, _, _ => rfl
  | b :: r, s, p, A, y, hf, hy => by
    have hb : f s = b := by have := hf 0 b rfl; simpa using this
    have hr : ∀ k c, r[k]? = some c → f (s + 1 + (k : Nat)) = c := fun k c hk => by
      have := hf (k + 1) c (by simpa using hk)
      rw [← this]; congr 1; omega
    rw [showF, strG]
    by_cases h1 : b = p
    · rw [if_pos h1]
      rw [← showF_str (A := A) (y := ⟨y.lo, s⟩) hr (by rw [h1]; exact hy)]
      congr 1
      cases b with
      | false =>
        rw [← h1] at hy
        rw [if_neg (by simp), List.filter_append, List.filter_append]
        simp [List.filter, hy]
      | true =>
        rw [← h1] at hy ⊢
        rw [if_pos rfl, if_pos rfl, List.filter_append, List.filter_append]
        have e1 : ([y].filter fun z => f z.lo) = [y] := by simp [List.filter, hy]
        have e2 : ([(⟨y.lo, s⟩ : Span)].filter fun z => f z.lo) = [⟨y.lo, s⟩] := by simp [List.filter, hy]
        rw [e1, e2]
        unfold setHi
        have : (A.filter (fun z => f z.lo) ++ [y]).length - 1 = (A.filter (fun z => f z.lo)).length := by simp
        rw [this]
        apply List.ext_getElem?
        intro i
        rw [List.getElem?_modify]
        by_cases hi : (A.filter (fun z => f z.lo)).length = i
        · subst hi; simp
        · simp only [if_neg hi]
          by_cases hlt : i < (A.filter (fun z => f z.lo)).length
          · rw [List.getElem?_append_left hlt, List.getElem?_append_left hlt]; simp
          · rw [List.getElem?_eq_none (by simp; omega), List.getElem?_eq_none (by simp; omega)]; rfl
    · rw [if_neg h1]
      rw [← showF_str (A := A ++ [y]) (y := ⟨s, s⟩) hr hb]
      congr 1
      rw [List.filter_append (l₁ := A ++ [y])]
      cases b with
      | false =>
        rw [if_neg (by simp)]
        simp [List.filter, hb]
      | true =>
        have hp : p = false := by cases p <;> simp_all
        rw [if_pos rfl, hp, if_neg (by simp)]
        simp [List.filter, hb]

theorem show_lit (L : List Bool) : showF L 0 false [] = litL L := by
  unfold litL
  cases L with
  | nil => rfl
  | cons b r =>
    rw [showF, strF]
    have hg : ∀ k c, r[k]? = some c → litAt (b :: r) (1 + (k : Nat)) = c := fun k c hk => by
      unfold litAt
      rw [show (1 + ((k : Nat) : Int)).toNat = k + 1 by omega]
      simp [List.getD_eq_getElem?_getD, hk]
    have h0 : litAt (b :: r) 0 = b := by unfold litAt; simp
    rw [← showF_str (A := []) (y := ⟨0, 0⟩) hg h0]
    congr 1
    cases b with
    | false => simp [List.filter, h0]
    | true => simp [List.filter, h0]

set_option maxHeartbeats 1000000 in
theorem la75 (L : List Bool) (hL : L.length ≤ 100000) : FnV Try.prog 75 [boolsD L] (spansD (litL L)) := by
  refine fnV_of mixed tysOk Try.func75 rfl (ft := ft75) 1 (by decide +kernel) (by rfl) fun {σ} Y st => ?_
  conv => whnf
  refine CallA_v (la99 L hL) rfl rfl ?_
  conv => whnf
  unfold litL
  have hin := strF_in (L := L)
  have hsl := strF_len L
  generalize strF L = S at hin hsl
  refine LoopA_i (T := tys) tysOk (by exact drawsB_spec mixed tysOk (by decide +kernel)) S (fun i (acc : List Span) => ⟨[(0, .d (boolsD L)), (3, .d (spansD S)), (4, .sl 28 2 0 acc.length), (5, .d (i64 i))], [(28, .arr 2 (.dd (acc.map Span.cells)))], st⟩)
    (fun i r acc => (S.filter fun s => litAt L s.lo) = acc ++ (r.filter fun s => litAt L s.lo) ∧ acc.length ≤ i) [] ((Wk.born 4 28 2 rfl rfl rfl).trans (Wk.sub ⟨(by first | rfl | (simp only [List.length_map]; rfl) | simp [PX.get]), (by first | rfl | (simp only [List.length_map]; rfl) | simp [PX.get]), (by first | rfl | (simp only [List.length_map]; rfl) | simp [PX.get]), (by first | rfl | (simp only [List.length_map]; rfl) | simp [PX.get]), trivial⟩ ⟨(by first | rfl | (simp only [List.length_map]; rfl) | simp [PX.get]), trivial⟩)) ⟨rfl, by simp⟩ ?_ ?_
  · intro i z r acc hx hi hr ⟨he, hal⟩
    rw [List.filter_cons] at he
    have hz := hin z (List.mem_of_getElem? hx)
    have hlt : z.lo.toNat < L.length := by omega
    obtain ⟨b, hb⟩ : ∃ b, L[z.lo.toNat]? = some b := ⟨_, List.getElem?_eq_getElem hlt⟩
    have hlb : litAt L z.lo = b := by unfold litAt; simp [List.getD_eq_getElem?_getD, hb]
    rw [hlb] at he
    conv => whnf
    refine brk_i (fun _ => ?_) (fun h => absurd hi (by simpa using h))
    conv => whnf
    refine elemK_nat hx ?_
    conv => whnf
    refine elemK_i [.bool b] ⟨hz.1, by simp [hb]⟩ ?_
    conv => whnf
    cases b with
    | true =>
      conv => whnf
      refine elemK_nat hx ?_
      conv => whnf
      refine ownK_whole rfl ?_
      conv => whnf
      refine ownK_whole (by simp [Els.len]) ?_
      conv => whnf
      refine chk_i (decide_eq_true (by
        show ((acc.map Span.cells).length + 1) * 16 ≤ 140737488355328
        rw [List.length_map]; omega)) ?_
      conv => whnf
      refine arith_in (wrap_i64 (by (try dsimp only); omega)) ?_
      conv => whnf
      refine ⟨acc ++ [z], ⟨by rw [he]; simp, by simp; omega⟩, Wk.sub ⟨rfl, rfl, ?_, rfl, trivial⟩ ⟨?_, trivial⟩⟩
      · simp [PX.get, Els.len]
      · simp [PX.get]; rfl
    | false =>
      conv => whnf
      refine arith_in (wrap_i64 (by (try dsimp only); omega)) ?_
      conv => whnf
      exact ⟨acc, ⟨by simpa using he, by omega⟩, (Wk.sub ⟨(by first | rfl | (simp only [List.length_map]; rfl) | simp [PX.get]), (by first | rfl | (simp only [List.length_map]; rfl) | simp [PX.get]), (by first | rfl | (simp only [List.length_map]; rfl) | simp [PX.get]), (by first | rfl | (simp only [List.length_map]; rfl) | simp [PX.get]), trivial⟩ ⟨(by first | rfl | (simp only [List.length_map]; rfl) | simp [PX.get]), trivial⟩)⟩
  · intro acc ⟨he, hal⟩
    rw [List.filter_nil, List.append_nil] at he
    rw [he]
    conv => whnf
    refine brk_i (fun h => absurd h (by simp)) (fun _ => ?_)
    conv => whnf
    exact RetA_sl rfl (by simp) ⟨⟨rfl, rfl⟩, rfl⟩

/-- The reference's Shows returns what the program's does. -/
theorem la20 (c : LCase) (t : LTruth) : FnV Try.prog 20 [c.d, t.d] (.tup [spansD (showL c t), i64 (showE c t)]) := by
  refine fnV_of mixed tysOk Try.func20 rfl (ft := ft20) 2 (by decide +kernel) (by rfl) fun {σ} Y st => ?_
  conv => whnf
  refine CallA_v (la16 c) rfl rfl ?_
  conv => whnf
  have hw : (checkL c).2.2 = 0 → c.windings.length ≤ 1000 := fun h => by have := (checkL_ok h).winds; omega
  refine CallA_v (la74 c t (checkL c).2.2 hw) rfl rfl ?_
  conv => whnf
  have he : askE c t (checkL c).2.2 = showE c t := rfl
  rw [he]
  by_cases h1 : showE c t = 0
  case neg =>
    have hl : showL c t = [] := by unfold showL; rw [if_neg h1]
    rw [hl]
    refine brk_i (fun _ => ?_) (fun h2 => absurd h2 (by simp [h1]))
    conv => whnf
    exact RetA_viewR 0 rfl rfl ⟨⟨rfl, rfl⟩, rfl⟩
  have h0 : (checkL c).2.2 = 0 := by
    by_cases h : (checkL c).2.2 = 0
    · exact h
    · unfold showE at h1; rw [if_neg h] at h1; exact absurd h1 h
  have hT : TruthR c t := truth_ok (by unfold showE at h1; rwa [if_pos h0] at h1)
  have hl : showL c t = litL (courseL c.lamp c.windings t) := by unfold showL; rw [if_pos h1, show_lit]
  rw [hl]
  have hR := checkL_ok h0
  refine brk_i (fun h2 => absurd h2 (by simp [h1])) (fun _ => ?_)
  conv => whnf
  refine CallA_v (la50 c.lamp c.windings t (CrsR.of hR hT)) rfl rfl ?_
  conv => whnf
  refine CallA_v (la75 (courseL c.lamp c.windings t) (by have := (courseL_len (w := c.windings) (t := t) hR.lamp).2.1; omega)) rfl rfl ?_
  conv => whnf
  rw [h1]
  exact RetA_view 0 rfl ⟨⟨rfl, rfl⟩, rfl⟩
end Go.PX

namespace Go.PX
open Go.Proofs

/- Lamp: the reference's failing seconds are the program's (plain). -/

def stageS (l : List LPhase) (n : Nat) : Span := match l[(n / 2) % l.length]? with
  | some p => if n % 2 = 0 then p.flash else p.dark
  | none => ⟨0, 0⟩

/-- The second at which stretches fail that begin with a stage. -/
def fromF (l : List LPhase) : List Span → Bool → Nat → Int
  | [], _, _ => -1
  | x :: r, first, n => if x.hi - x.lo + 1 > (stageS l n).hi then x.lo + (stageS l n).hi
    else if !first && (!r.isEmpty && decide (x.hi - x.lo + 1 < (stageS l n).lo)) then x.hi + 1 else fromF l r false (n + 1)

/-- The second at which one state dies. -/
def dieF (l : List LPhase) : List Bool → Bool → LState → Int → Int
  | [], _, _, _ => -1
  | b :: r, p, x, s => match stepS l (b != p) x with
    | none => s
    | some y => dieF l r b y (s + 1)

theorem dieF_rng {l : List LPhase} : ∀ {r : List Bool} {p : Bool} {x : LState} {s : Int}, dieF l r p x s = -1 ∨ s ≤ dieF l r p x s
  | [], _, _, _ => .inl rfl
  | b :: r, p, x, s => by
    rw [dieF]
    split
    · exact .inr (Int.le_refl _)
    · rename_i y _
      rcases dieF_rng (l := l) (r := r) (p := b) (x := y) (s := s + 1) with h | h
      · exact .inl h
      · right; omega

/-- All states die at the last of their seconds. -/
theorem failsF_die {l : List LPhase} : ∀ {r : List Bool} {p : Bool} {A : List LState} {s : Int}, A ≠ [] → 0 ≤ s →
    (∃ x ∈ A, dieF l r p x s = -1) ∧ failsF l r p A s = -1 ∨ (∀ x ∈ A, dieF l r p x s ≠ -1 ∧ dieF l r p x s ≤ failsF l r p A s) ∧ ∃ x ∈ A, dieF l r p x s = failsF l r p A s
  | [], p, A, s, hA, _ => by
    left
    cases A with
    | nil => exact absurd rfl hA
    | cons x r => exact ⟨⟨x, by simp, rfl⟩, rfl⟩
  | b :: r, p, A, s, hA, hs => by
    rw [failsF]
    by_cases hB : A.filterMap (stepS l (b != p)) = []
    · rw [if_pos hB]
      right
      have hd : ∀ x ∈ A, dieF l (b :: r) p x s = s := fun x hx => by
        rw [dieF]
        cases hst : stepS l (b != p) x with
        | none => rfl
        | some y =>
          have : y ∈ A.filterMap (stepS l (b != p)) := List.mem_filterMap.2 ⟨x, hx, hst⟩
          rw [hB] at this
          cases this
      refine ⟨fun x hx => by rw [hd x hx]; omega, ?_⟩
      cases A with
      | nil => exact absurd rfl hA
      | cons x q => exact ⟨x, by simp, hd x (by simp)⟩
    · rw [if_neg hB]
      rcases failsF_die (l := l) (r := r) (p := b) (A := A.filterMap (stepS l (b != p))) (s := s + 1) hB (by omega) with ⟨⟨y, hy, h1⟩, h2⟩ | ⟨h1, y, hy, h2⟩
      · left
        obtain ⟨x, hx, hxy⟩ := List.mem_filterMap.1 hy
        refine ⟨⟨x, hx, ?_⟩, h2⟩
        rw [dieF, hxy]
        exact h1
      · right
        constructor
        · intro x hx
          rw [dieF]
          cases hst : stepS l (b != p) x with
          | none =>
            have h3 := h1 y hy
            have h4 := dieF_rng (l := l) (r := r) (p := b) (x := y) (s := s + 1)
            simp only
            omega
          | some z => exact h1 z (List.mem_filterMap.2 ⟨x, hx, hst⟩)
        · obtain ⟨x, hx, hxy⟩ := List.mem_filterMap.1 hy
          refine ⟨x, hx, ?_⟩
          rw [dieF, hxy]
          exact h2

theorem strG_acc : ∀ {r : List Bool} {s : Int} {p : Bool} {A : List Span} {y : Span}, strG r s p A y = A ++ strG r s p [] y
  | [], _, _, _, _ => rfl
  | b :: r, s, p, A, y => by
    rw [strG, strG]
    split
    · exact strG_acc
    · rw [strG_acc, strG_acc (A := [] ++ [y])]
      simp

theorem strG_head : ∀ {r : List Bool} {s : Int} {p : Bool} {y : Span}, y.hi < s → ∃ z R, strG r s p [] y = z :: R ∧ z.lo = y.lo ∧ y.hi ≤ z.hi
  | [], _, _, y, _ => ⟨y, [], rfl, rfl, Int.le_refl _⟩
  | b :: r, s, p, y, hy => by
    rw [strG]
    split
    · obtain ⟨z, R, h1, h2, h3⟩ := strG_head (r := r) (s := s + 1) (p := b) (y := ⟨y.lo, s⟩) (by simp only; omega)
      simp only at h2 h3
      exact ⟨z, R, h1, h2, by omega⟩
    · rw [strG_acc]
      exact ⟨y, strG r (s + 1) b [] ⟨s, s⟩, rfl, rfl, Int.le_refl _⟩

/-- A state is at a stage. -/
structure AtS (l : List LPhase) (n : Nat) (x : LState) : Prop where
  k : x.k = ((n / 2 % l.length : Nat) : Int)
  fl : x.fl = decide (n % 2 = 0)

theorem AtS.span {l : List LPhase} {n : Nat} {x : LState} (h : AtS l n x) : spanOf l x = stageS l n := by
  unfold spanOf stageS
  rw [h.k, h.fl, Int.toNat_natCast]
  cases l[n / 2 % l.length]? with
  | none => rfl
  | some p => simp

theorem AtS.next {l : List LPhase} {n : Nat} {x : LState} (h : AtS l n x) : AtS l (n + 1) (behindS l.length x) := by
  unfold behindS
  rcases Nat.mod_two_eq_zero_or_one n with h2 | h2
  · have hf : x.fl = true := by rw [h.fl]; exact decide_eq_true h2
    rw [hf]
    refine ⟨?_, ?_⟩
    · simp only [if_true]
      rw [h.k, show (n + 1) / 2 = n / 2 by omega]
    · simp only [Bool.not_true]
      exact (decide_eq_false (by omega)).symm
  · have hf : x.fl = false := by rw [h.fl]; exact decide_eq_false (by omega)
    rw [hf]
    refine ⟨?_, ?_⟩
    · simp only [Bool.false_eq_true, if_false]
      rw [h.k, show (n + 1) / 2 = n / 2 + 1 by omega]
      rw [Int.natCast_emod, Int.emod_add_emod, Int.natCast_emod]
      congr 1
    · simp only [Bool.not_false]
      exact (decide_eq_true (by omega)).symm

theorem AtS.alike {l : List LPhase} {n : Nat} {x y : LState} (h : AtS l n x) (hk : y.k = x.k) (hf : y.fl = x.fl) : AtS l n y := ⟨by rw [hk]; exact h.k, by rw [hf]; exact h.fl⟩

theorem die_from {l : List LPhase} (hl : ∀ n, 1 ≤ (stageS l n).hi) : ∀ {r : List Bool} {s : Int} {p : Bool} {y : Span} {x : LState} {n : Nat}, AtS l n x → x.long = s - y.lo → y.hi = s - 1 → x.long ≤ (stageS l n).hi → y.lo < s →
    dieF l r p x s = fromF l (strG r s p [] y) x.first n
  | [], s, p, y, x, n, ha, h1, h2, h3, _ => by
    rw [dieF, strG, List.nil_append, fromF, if_neg (by omega)]
    simp [fromF]
  | b :: r, s, p, y, x, n, ha, h1, h2, h3, h4 => by
    rw [dieF, strG]
    by_cases hb : b = p
    · rw [if_pos hb]
      have hch : (b != p) = false := by rw [hb]; simp
      rw [hch]
      have ha2 : AtS l n ⟨x.fl, x.k, x.long + 1, x.first⟩ := ha.alike rfl rfl
      unfold stepS
      simp only [Bool.false_and, Bool.false_eq_true, if_false]
      rw [ha2.span]
      by_cases h5 : x.long + 1 ≤ (stageS l n).hi
      · rw [if_pos h5]
        exact die_from hl (x := ⟨x.fl, x.k, x.long + 1, x.first⟩) (y := ⟨y.lo, s⟩) ha2 (by simp only; omega) (by simp only; omega) h5 (by simp only; omega)
      · rw [if_neg h5]
        obtain ⟨z, R, e1, e2, e3⟩ := strG_head (r := r) (s := s + 1) (p := b) (y := ⟨y.lo, s⟩) (by simp only; omega)
        simp only at e2 e3
        rw [e1, fromF, if_pos (by omega)]
        simp only
        omega
    · rw [if_neg hb]
      have hch : (b != p) = true := by simpa using hb
      rw [hch, strG_acc]
      obtain ⟨z, R, e1, e2, e3⟩ := strG_head (r := r) (s := s + 1) (p := b) (y := ⟨s, s⟩) (by simp only; omega)
      have hne : (strG r (s + 1) b [] ⟨s, s⟩).isEmpty = false := by rw [e1]; rfl
      show _ = fromF l (y :: strG r (s + 1) b [] ⟨s, s⟩) x.first n
      rw [fromF, if_neg (by omega), hne]
      unfold stepS
      rw [ha.span]
      have hlen : y.hi - y.lo + 1 = x.long := by omega
      rw [hlen]
      simp only [Bool.true_and, Bool.not_false]
      by_cases h5 : (!x.first && decide (x.long < (stageS l n).lo)) = true
      · rw [if_pos h5, if_pos h5]
        simp only
        omega
      · rw [if_neg h5, if_neg h5]
        simp only [if_true]
        have ha2 := ha.next
        rw [ha2.span]
        have h6 : (behindS l.length x).long = 1 := rfl
        rw [h6, if_pos (hl (n + 1))]
        exact die_from hl (x := behindS l.length x) (y := ⟨s, s⟩) ha2 (by rw [h6]; simp only; omega) (by simp only; omega) (by rw [h6]; exact hl (n + 1)) (by simp only; omega)

/-- What the reference makes of the stages that a light can begin with. -/
def failR : List Int → Int → Int
  | [], acc => acc
  | d :: r, acc => if d < 0 then -1 else failR r (max acc d)

theorem failR_neg : ∀ {l : List Int} {acc : Int}, (∃ d ∈ l, d < 0) → failR l acc = -1
  | [], _, ⟨d, h, _⟩ => by cases h
  | e :: r, acc, ⟨d, h, hd⟩ => by
    rw [failR]
    by_cases he : e < 0
    · rw [if_pos he]
    · rw [if_neg he]
      rcases List.mem_cons.1 h with rfl | h
      · exact absurd hd he
      · exact failR_neg ⟨d, h, hd⟩

theorem failR_max {m : Int} : ∀ {l : List Int} {acc : Int}, (∀ d ∈ l, 0 ≤ d ∧ d ≤ m) → acc ≤ m → (acc = m ∨ m ∈ l) → failR l acc = m
  | [], acc, _, _, h => by
    rcases h with h | h
    · exact h
    · cases h
  | e :: r, acc, h1, h2, h3 => by
    obtain ⟨k1, k2⟩ := h1 e (by simp)
    rw [failR, if_neg (by omega)]
    refine failR_max (fun d hd => h1 d (by simp [hd])) (by omega) ?_
    rcases h3 with h3 | h3
    · left; omega
    · rcases List.mem_cons.1 h3 with h3 | h3
      · left; omega
      · exact .inr h3

def firstOf (b : Bool) (k : Nat) : Nat := if b then 2 * k else 2 * k + 1

theorem stage_hi {l : List LPhase} (h0 : 1 ≤ l.length) (hp : ∀ p ∈ l, phaseIn p = true) (n : Nat) : 1 ≤ (stageS l n).hi ∧ (stageS l n).hi ≤ 200 ∧ 1 ≤ (stageS l n).lo ∧ (stageS l n).lo ≤ 200 := by
  unfold stageS
  have hlt : n / 2 % l.length < l.length := Nat.mod_lt _ (by omega)
  rw [List.getElem?_eq_getElem hlt]
  have := hp _ (List.getElem_mem hlt)
  unfold phaseIn at this
  simp only [Bool.and_eq_true, inB_iff] at this
  simp only
  split <;> omega

theorem fails_ref {l : List LPhase} (h0 : 1 ≤ l.length) (hp : ∀ p ∈ l, phaseIn p = true) (b : Bool) (r : List Bool) :
    failsL (b :: r) l = failR ((List.range l.length).map fun k => fromF l (strF (b :: r)) true (firstOf b k)) 0 := by
  have hhi : ∀ n, 1 ≤ (stageS l n).hi := fun n => (stage_hi h0 hp n).1
  have hst : strF (b :: r) = strG r 1 b [] ⟨0, 0⟩ := rfl
  have hd : ∀ k : Nat, k < l.length → dieF l r b ⟨b, k, 1, true⟩ 1 = fromF l (strF (b :: r)) true (firstOf b k) := fun k hk => by
    rw [hst]
    refine die_from hhi (x := ⟨b, k, 1, true⟩) ⟨?_, ?_⟩ rfl rfl (hhi _) (by decide)
    · show (k : Int) = _
      have : firstOf b k / 2 = k := by unfold firstOf; split <;> omega
      rw [this, Nat.mod_eq_of_lt hk]
    · show b = _
      unfold firstOf
      cases b with
      | true => simp
      | false => simp
  have hmap : ((List.range l.length).map fun k => fromF l (strF (b :: r)) true (firstOf b k)) = (initA b l.length).map fun x => dieF l r b x 1 := by
    unfold initA
    rw [List.map_map]
    refine List.map_congr_left fun k hk => ?_
    exact (hd k (List.mem_range.1 hk)).symm
  rw [hmap]
  have hne : initA b l.length ≠ [] := by
    unfold initA
    intro h
    have := congrArg List.length h
    rw [List.length_map, List.length_range, List.length_nil] at this
    omega
  show failsF l r b (initA b l.length) 1 = _
  rcases failsF_die (l := l) (r := r) (p := b) (A := initA b l.length) (s := 1) hne (by decide) with ⟨⟨x, hx, h1⟩, h2⟩ | ⟨h1, x, hx, h2⟩
  · rw [h2, failR_neg ⟨dieF l r b x 1, List.mem_map.2 ⟨x, hx, rfl⟩, by omega⟩]
  · refine (failR_max (fun d hd2 => ?_) ?_ (.inr (List.mem_map.2 ⟨x, hx, h2⟩))).symm
    · obtain ⟨z, hz, rfl⟩ := List.mem_map.1 hd2
      have h3 := h1 z hz
      have h4 := dieF_rng (l := l) (r := r) (p := b) (x := z) (s := 1)
      omega
    · have h3 := h1 x hx
      have h4 := dieF_rng (l := l) (r := r) (p := b) (x := x) (s := 1)
      omega
end Go.PX

namespace Go.PX
open Go.Proofs

/- Lamp: the reference: stage, from, Failing, Fails. -/

theorem la120 (l : List LPhase) (n : Nat) (h0 : 1 ≤ l.length) (hl : l.length ≤ 1000) (hn : n ≤ 100000) : FnV Try.prog 120 [phasesD l, i64 n] (stageS l n).d := by
  refine fnV_of mixed tysOk Try.func120 rfl (ft := ft120) 2 (by decide +kernel) (by rfl) fun {σ} Y st => ?_
  conv => whnf
  have e1 : ((n : Int)).tdiv 2 = ((n / 2 : Nat) : Int) := by rw [Int.tdiv_eq_ediv_of_nonneg (by omega)]; omega
  have e2 : (((n / 2 : Nat) : Int)).tmod (l.length : Int) = ((n / 2 % l.length : Nat) : Int) := by
    rw [Int.tmod_eq_emod_of_nonneg (by omega)]; exact (Int.natCast_emod _ _).symm
  have e3 : ((n : Int)).tmod 2 = ((n % 2 : Nat) : Int) := (Int.tmod_eq_emod_of_nonneg (a := (n : Int)) (b := 2) (by omega)).trans (by omega)
  have hlt : n / 2 % l.length < l.length := Nat.mod_lt _ (by omega)
  obtain ⟨p, hp⟩ : ∃ p, l[n / 2 % l.length]? = some p := ⟨_, List.getElem?_eq_getElem hlt⟩
  have hs : stageS l n = if n % 2 = 0 then p.flash else p.dark := by unfold stageS; rw [hp]
  rw [hs]
  refine arith_to ((n / 2 : Nat) : Int) e1 (wrap_i64 (by omega)) ?_
  conv => whnf
  refine chk_i (decide_eq_true (by simp only [List.length_map]; omega)) ?_
  conv => whnf
  rw [List.length_map, e2]
  refine elemK_nat hp ?_
  conv => whnf
  rw [e3]
  by_cases h2 : n % 2 = 0
  · rw [if_pos h2, show decide (((n % 2 : Nat) : Int) = 0) = true from decide_eq_true (by omega)]
    conv => whnf
    exact RetA_view 0 rfl ⟨⟨rfl, rfl⟩, rfl⟩
  · rw [if_neg h2, show decide (((n % 2 : Nat) : Int) = 0) = false from decide_eq_false (by omega)]
    conv => whnf
    exact RetA_view 0 rfl ⟨⟨rfl, rfl⟩, rfl⟩

theorem la100 (S : List Span) (l : List LPhase) (n : Nat) (h0 : 1 ≤ l.length) (hl : l.length ≤ 1000) (hp : ∀ p ∈ l, phaseIn p = true) (hn : n ≤ 1000) (hS : S.length ≤ 1000) (hs : ∀ s ∈ S, 0 ≤ s.lo ∧ s.lo ≤ s.hi ∧ s.hi ≤ 1000) : FnV Try.prog 100 [spansD S, phasesD l, i64 n] (i64 (fromF l S true n)) := by
  refine fnV_of mixed tysOk Try.func100 rfl (ft := ft100) 3 (by decide +kernel) (by rfl) fun {σ} Y st => ?_
  conv => whnf
  refine LoopA_i (T := tys) tysOk (by exact drawsB_spec mixed tysOk (by decide +kernel)) S (fun i (_ : Unit) => ⟨[(0, .d (spansD S)), (1, .d (phasesD l)), (2, .d (i64 n)), (7, .d (i64 i))], [], st⟩) (fun i r _ => fromF l S true n = fromF l r (decide (i = 0)) (n + i)) () (Wk.sub ⟨(by first | rfl | (simp only [List.length_map]; rfl) | simp [PX.get]), (by first | rfl | (simp only [List.length_map]; rfl) | simp [PX.get]), (by first | rfl | (simp only [List.length_map]; rfl) | simp [PX.get]), (by first | rfl | (simp only [List.length_map]; rfl) | simp [PX.get]), trivial⟩ trivial) rfl ?_ ?_
  · intro i x r _ hx hi hr he
    rw [fromF] at he
    have hx1 := hs x (List.mem_of_getElem? hx)
    have hst := stage_hi h0 hp (n + i)
    conv => whnf
    refine brk_i (fun _ => ?_) (fun h => absurd hi (by simpa using h))
    conv => whnf
    refine arith_to ((n + i : Nat) : Int) (by omega) (wrap_i64 (by omega)) ?_
    conv => whnf
    refine CallA_v (la120 l (n + i) h0 hl (by omega)) rfl rfl ?_
    conv => whnf
    generalize stageS l (n + i) = z at he hst
    refine elemK_nat hx ?_
    conv => whnf
    refine arith_in (wrap_i64 (by (try dsimp only); omega)) ?_
    conv => whnf
    refine arith_in (wrap_i64 (by (try dsimp only); omega)) ?_
    conv => whnf
    refine brk_i (fun h1 => ?_) (fun h1 => ?_)
    · have h1 : x.hi - x.lo + 1 > z.hi := by simpa using h1
      rw [if_pos h1] at he
      conv => whnf
      refine arith_in (wrap_i64 (by (try dsimp only); omega)) ?_
      conv => whnf
      rw [he]
      exact RetA_view 0 rfl ⟨⟨rfl, rfl⟩, rfl⟩
    have h1 : ¬ x.hi - x.lo + 1 > z.hi := by simpa using h1
    rw [if_neg h1] at he
    conv => whnf
    by_cases h2 : i = 0
    · subst h2
      rw [show (!decide ((0 : Nat) = 0) && (!r.isEmpty && decide (x.hi - x.lo + 1 < z.lo))) = false from rfl, if_neg (by simp)] at he
      rw [show decide ((0 : Int) < ((0 : Nat) : Int)) = false from rfl]
      conv => whnf
      refine arith_in (wrap_i64 (by (try dsimp only); omega)) ?_
      conv => whnf
      exact ⟨(), by simpa using he, (Wk.sub ⟨(by first | rfl | (simp only [List.length_map]; rfl) | simp [PX.get]), (by first | rfl | (simp only [List.length_map]; rfl) | simp [PX.get]), (by first | rfl | (simp only [List.length_map]; rfl) | simp [PX.get]), (by first | rfl | (simp only [List.length_map]; rfl) | simp [PX.get]), trivial⟩ trivial)⟩
    rw [show decide (i = 0) = false from decide_eq_false h2] at he
    rw [show decide ((0 : Int) < (i : Int)) = true from decide_eq_true (by omega)]
    conv => whnf
    rw [Bool.not_false, Bool.true_and] at he
    refine arith_to ((r.length : Nat) + (i : Int)) (by simp only [List.length_map]; omega) (wrap_i64 (by omega)) ?_
    conv => whnf
    have hnext : fromF l r (decide (i + 1 = 0)) (n + (i + 1)) = fromF l r false (n + i + 1) := by
      rw [decide_eq_false (by omega)]; rfl
    by_cases h3 : r = []
    · subst h3
      rw [show (!([] : List Span).isEmpty && decide (x.hi - x.lo + 1 < z.lo)) = false from rfl, if_neg (by simp)] at he
      rw [show decide ((i : Int) < ((([] : List Span).length : Nat) : Int) + (i : Int)) = false from decide_eq_false (by simp)]
      conv => whnf
      refine arith_in (wrap_i64 (by (try dsimp only); omega)) ?_
      conv => whnf
      exact ⟨(), by rw [hnext]; exact he, (Wk.sub ⟨(by first | rfl | (simp only [List.length_map]; rfl) | simp [PX.get]), (by first | rfl | (simp only [List.length_map]; rfl) | simp [PX.get]), (by first | rfl | (simp only [List.length_map]; rfl) | simp [PX.get]), (by first | rfl | (simp only [List.length_map]; rfl) | simp [PX.get]), trivial⟩ trivial)⟩
    have h4 : 0 < r.length := List.length_pos_iff.2 h3
    have h5 : (!r.isEmpty) = true := by cases r with
      | nil => exact absurd rfl h3
      | cons a b => rfl
    rw [h5, Bool.true_and] at he
    rw [show decide ((i : Int) < ((r.length : Nat) : Int) + (i : Int)) = true from decide_eq_true (by omega)]
    conv => whnf
    refine arith_in (wrap_i64 (by (try dsimp only); omega)) ?_
    conv => whnf
    refine arith_in (wrap_i64 (by (try dsimp only); omega)) ?_
    conv => whnf
    refine brk_i (fun h6 => ?_) (fun h6 => ?_)
    · rw [h6, if_pos rfl] at he
      conv => whnf
      refine arith_in (wrap_i64 (by (try dsimp only); omega)) ?_
      conv => whnf
      rw [he]
      exact RetA_view 0 rfl ⟨⟨rfl, rfl⟩, rfl⟩
    · rw [h6, if_neg (by simp)] at he
      conv => whnf
      refine arith_in (wrap_i64 (by (try dsimp only); omega)) ?_
      conv => whnf
      exact ⟨(), by rw [hnext]; exact he, (Wk.sub ⟨(by first | rfl | (simp only [List.length_map]; rfl) | simp [PX.get]), (by first | rfl | (simp only [List.length_map]; rfl) | simp [PX.get]), (by first | rfl | (simp only [List.length_map]; rfl) | simp [PX.get]), (by first | rfl | (simp only [List.length_map]; rfl) | simp [PX.get]), trivial⟩ trivial)⟩
  · intro _ he
    rw [fromF] at he
    rw [he]
    conv => whnf
    refine brk_i (fun h => absurd h (by simp)) (fun _ => ?_)
    conv => whnf
    exact RetA_view 0 rfl ⟨⟨rfl, rfl⟩, rfl⟩

theorem strF_ne {L : List Bool} (h : L ≠ []) : strF L ≠ [] := by
  cases L with
  | nil => exact absurd rfl h
  | cons b r =>
    obtain ⟨z, R, h1, _⟩ := strG_head (r := r) (s := 1) (p := b) (y := ⟨0, 0⟩) (by decide)
    rw [strF, h1]
    simp

set_option maxHeartbeats 1000000 in
theorem la54 (L : List Bool) (l : List LPhase) (h0 : L ≠ []) (hL : L.length ≤ 200) (hl : (1 ≤ l.length ∧ l.length ≤ 3) ∧ ∀ p ∈ l, phaseIn p = true) : FnV Try.prog 54 [boolsD L, phasesD l] (i64 (failsL L l)) := by
  refine fnV_of mixed tysOk Try.func54 rfl (ft := ft54) 2 (by decide +kernel) (by rfl) fun {σ} Y st => ?_
  conv => whnf
  refine CallA_v (la99 L (by omega)) rfl rfl ?_
  conv => whnf
  obtain ⟨b0, r0, rfl⟩ : ∃ b r, L = b :: r := by
    cases L with
    | nil => exact absurd rfl h0
    | cons b r => exact ⟨b, r, rfl⟩
  rw [fails_ref hl.1.1 hl.2]
  have hin := strF_in (L := b0 :: r0)
  have hsl := strF_len (b0 :: r0)
  have hfr : ∀ n : Nat, n ≤ 1000 → FnV Try.prog 100 [spansD (strF (b0 :: r0)), phasesD l, i64 n] (i64 (fromF l (strF (b0 :: r0)) true n)) := fun n hn {σ} =>
    la100 (strF (b0 :: r0)) l n hl.1.1 (by omega) hl.2 hn (by omega) (fun s hs => by have := hin s hs; omega)
  generalize strF (b0 :: r0) = S at hfr
  refine LoopA_p (T := tys) tysOk (by exact drawsB_spec mixed tysOk (by decide +kernel)) (α := Nat × Int)
    (fun p => ⟨[(0, .d (boolsD (b0 :: r0))), (1, .d (phasesD l)), (5, .d (spansD S)), (6, .d (i64 p.2)), (7, .d (i64 p.1))], [], st⟩)
    (fun p => p.1 ≤ l.length ∧ failR ((List.range l.length).map fun k => fromF l S true (firstOf b0 k)) 0 = failR (((List.range l.length).drop p.1).map fun k => fromF l S true (firstOf b0 k)) p.2) (fun p => l.length - p.1) (0, 0) (Wk.sub ⟨(by first | rfl | (simp only [List.length_map]; rfl) | simp [PX.get]), (by first | rfl | (simp only [List.length_map]; rfl) | simp [PX.get]), (by first | rfl | (simp only [List.length_map]; rfl) | simp [PX.get]), (by first | rfl | (simp only [List.length_map]; rfl) | simp [PX.get]), (by first | rfl | (simp only [List.length_map]; rfl) | simp [PX.get]), trivial⟩ trivial) ⟨Nat.zero_le _, rfl⟩ ?_
  rintro ⟨k, acc⟩ ⟨hk, he⟩
  simp only at hk he
  conv => whnf
  refine brk_i (fun h1 => ?_) (fun h1 => ?_)
  case refine_2 =>
    have h1 : ¬ k < l.length := by have := of_decide_eq_false h1; simp at this; omega
    rw [List.drop_eq_nil_of_le (by simp; omega), List.map_nil, failR] at he
    rw [he]
    conv => whnf
    exact RetA_view 0 rfl ⟨⟨rfl, rfl⟩, rfl⟩
  have h1 : k < l.length := by have := of_decide_eq_true h1; simp at this; omega
  have hd : (List.range l.length).drop k = k :: (List.range l.length).drop (k + 1) := by
    rw [List.drop_eq_getElem_cons (by simpa using h1)]
    simp
  rw [hd, List.map_cons, failR] at he
  conv => whnf
  refine arith_to (((2 * k : Nat) : Int)) (by (try dsimp only); omega) (wrap_i64 (by (try dsimp only); omega)) ?_
  conv => whnf
  have hfin : ∀ (e : Env), True := fun _ => trivial
  cases b0 with
  | true =>
    conv => whnf
    refine CallA_v (hfr (2 * k) (by omega)) rfl rfl ?_
    conv => whnf
    rw [show firstOf true k = 2 * k from rfl] at he
    generalize fromF l S true (2 * k) = f at he
    refine brk_i (fun h2 => ?_) (fun h2 => ?_)
    · have h2 : f < 0 := by simpa using h2
      rw [if_pos h2] at he
      conv => whnf
      rw [he]
      exact RetA_view 0 rfl ⟨⟨rfl, rfl⟩, rfl⟩
    · have h2 : ¬ f < 0 := by simpa using h2
      rw [if_neg h2] at he
      conv => whnf
      refine arith_in (wrap_i64 (by (try dsimp only); omega)) ?_
      conv => whnf
      exact ⟨(k + 1, max acc f), by simp only; omega, ⟨by simp only; omega, he⟩, (Wk.sub ⟨(by first | rfl | (simp only [List.length_map]; rfl) | simp [PX.get]), (by first | rfl | (simp only [List.length_map]; rfl) | simp [PX.get]), (by first | rfl | (simp only [List.length_map]; rfl) | simp [PX.get]), (by first | rfl | (simp only [List.length_map]; rfl) | simp [PX.get]), (by first | rfl | (simp only [List.length_map]; rfl) | simp [PX.get]), trivial⟩ trivial)⟩
  | false =>
    conv => whnf
    refine arith_to (((2 * k : Nat) : Int)) (by (try dsimp only); omega) (wrap_i64 (by (try dsimp only); omega)) ?_
    conv => whnf
    refine arith_to (((2 * k + 1 : Nat) : Int)) (by (try dsimp only); omega) (wrap_i64 (by (try dsimp only); omega)) ?_
    conv => whnf
    refine CallA_v (hfr (2 * k + 1) (by omega)) rfl rfl ?_
    conv => whnf
    rw [show firstOf false k = 2 * k + 1 from rfl] at he
    generalize fromF l S true (2 * k + 1) = f at he
    refine brk_i (fun h2 => ?_) (fun h2 => ?_)
    · have h2 : f < 0 := by simpa using h2
      rw [if_pos h2] at he
      conv => whnf
      rw [he]
      exact RetA_view 0 rfl ⟨⟨rfl, rfl⟩, rfl⟩
    · have h2 : ¬ f < 0 := by simpa using h2
      rw [if_neg h2] at he
      conv => whnf
      refine arith_in (wrap_i64 (by (try dsimp only); omega)) ?_
      conv => whnf
      exact ⟨(k + 1, max acc f), by simp only; omega, ⟨by simp only; omega, he⟩, (Wk.sub ⟨(by first | rfl | (simp only [List.length_map]; rfl) | simp [PX.get]), (by first | rfl | (simp only [List.length_map]; rfl) | simp [PX.get]), (by first | rfl | (simp only [List.length_map]; rfl) | simp [PX.get]), (by first | rfl | (simp only [List.length_map]; rfl) | simp [PX.get]), (by first | rfl | (simp only [List.length_map]; rfl) | simp [PX.get]), trivial⟩ trivial)⟩

theorem LightR.ph {x : LLight} (h : LightR x) : (1 ≤ x.phases.length ∧ x.phases.length ≤ 3) ∧ ∀ p ∈ x.phases, phaseIn p = true := ⟨h.len, fun p hp => (h.phase p hp).1⟩
end Go.PX

namespace Go.PX
open Go.Proofs

/- Lamp: the reference: speeds, All, wrong, Agree. -/

def listsD (l : List (List Int)) : D := .vs (l.map fun r => [intsD r])

structure SpdR (s : Span) : Prop where
  lo : 1 ≤ s.lo
  up : s.lo ≤ s.hi
  hi : s.hi ≤ 40
  near : s.hi ≤ s.lo + 4

theorem SpdR.of {x : LLamp} (h : LampR x) : SpdR x.speed := ⟨h.speed.1, h.speed.2.1, h.speed.2.2.1, h.speed.2.2.2⟩

theorem speedsL_len3 {s : Span} (hs : SpdR s) {k : Nat} (hk : k ≤ 3) : (speedsL s k).length ≤ 125 := by
  have h1 := speedsL_len hs.near (k := k)
  have h2 : (5 : Nat) ^ k ≤ 5 ^ 3 := Nat.pow_le_pow_right (by omega) hk
  omega

structure Spd (s : Span) (k : Nat) : Prop where
  h : FnV Try.prog 117 [s.d, i64 k] (listsD (speedsL s k))

set_option maxHeartbeats 1000000 in
theorem spd_all (s : Span) (hs : SpdR s) : ∀ (k : Nat), k ≤ 3 → Spd s k
  | 0, _ => by
    refine ⟨?_⟩
    show FnV Try.prog 117 [s.d, i64 (0 : Nat)] (listsD (speedsL s 0))
    refine fnV_of mixed tysOk Try.func117 rfl (ft := ft117) 2 (by decide +kernel) (by rfl) fun {σ} Y st => ?_
    conv => whnf
    exact RetA_viewR 1 rfl rfl ⟨⟨rfl, rfl⟩, rfl⟩
  | k + 1, hk => by
    have ih : FnV Try.prog 117 [s.d, i64 k] (listsD (speedsL s k)) := (spd_all s hs k (by omega)).h
    refine ⟨?_⟩
    show FnV Try.prog 117 [s.d, i64 (k + 1 : Nat)] (listsD (speedsL s (k + 1)))
    refine fnV_of mixed tysOk Try.func117 rfl (ft := ft117) 2 (by decide +kernel) (by rfl) fun {σ} Y st => ?_
    conv => whnf
    rw [show decide (((k + 1 : Nat) : Int) = 0) = false from decide_eq_false (by omega)]
    conv => whnf
    refine arith_to (((k : Nat) : Int)) (by (try dsimp only); omega) (wrap_i64 (by (try dsimp only); omega)) ?_
    conv => whnf
    refine CallA_v (ih) rfl rfl ?_
    conv => whnf
    have hlen := speedsL_len3 hs hk
    have hrl : ∀ l ∈ speedsL s k, l.length ≤ 3 := fun l hl => by have := (mem_speedsL.1 hl).1; omega
    have hRl := speedsL_len3 hs (k := k) (by omega)
    have hun : speedsL s (k + 1) = (upto (s.hi + 1 - s.lo).toNat s.lo).flatMap fun v => (speedsL s k).map (v :: ·) := rfl
    rw [hun] at hlen ⊢
    generalize speedsL s k = R at hlen hrl hRl
    have h1 := hs.lo
    have h2 := hs.up
    have h3 := hs.hi
    refine LoopA_p (T := tys) tysOk (by exact drawsB_spec mixed tysOk (by decide +kernel)) (α := Nat × List (List Int))
      (fun p => ⟨[(2, .ptr 2 0), (5, .d (listsD R)), (6, .sl 39 1 0 p.2.length), (7, .d (i64 (s.lo + p.1)))], [(2, .box (.dd s.cells)), (39, .arr 1 (.dd (p.2.map fun r => [intsD r])))], st⟩)
      (fun p => p.1 ≤ (s.hi + 1 - s.lo).toNat ∧ ((upto (s.hi + 1 - s.lo).toNat s.lo).flatMap fun v => R.map (v :: ·)) = p.2 ++ (upto ((s.hi + 1 - s.lo).toNat - p.1) (s.lo + p.1)).flatMap fun v => R.map (v :: ·))
      (fun p => (s.hi + 1 - s.lo).toNat - p.1) (0, []) ?wk ?pr ?_
    case wk => exact (Wk.born 6 39 1 rfl rfl rfl).trans (Wk.sub ⟨rfl, rfl, rfl, by show some (V.d (i64 s.lo)) = some (V.d (i64 (s.lo + ((0 : Nat) : Int)))); simp, trivial⟩ ⟨rfl, rfl, trivial⟩)
    case pr => exact ⟨Nat.zero_le _, by simp⟩
    rintro ⟨j, acc0⟩ ⟨hj, he⟩
    simp only at hj he
    conv => whnf
    refine brk_i (fun h4 => ?_) (fun h4 => ?_)
    case refine_2 =>
      have h4 : ¬ s.lo + j ≤ s.hi := by simpa using h4
      rw [show (s.hi + 1 - s.lo).toNat - j = 0 by omega, upto, List.flatMap_nil, List.append_nil] at he
      rw [he]
      conv => whnf
      exact RetA_sl rfl (by simp) ⟨⟨rfl, rfl⟩, rfl⟩
    have h4 : s.lo + j ≤ s.hi := by simpa using h4
    obtain ⟨m, hm⟩ : ∃ m, (s.hi + 1 - s.lo).toNat - j = m + 1 := ⟨(s.hi + 1 - s.lo).toNat - j - 1, by omega⟩
    rw [hm, upto, List.flatMap_cons] at he
    conv => whnf
    refine LoopA_i (T := tys) tysOk (by exact drawsB_spec mixed tysOk (by decide +kernel)) R (fun i (acc : List (List Int)) => ⟨[(2, .ptr 2 0), (5, .d (listsD R)), (6, .sl 39 1 0 acc.length), (7, .d (i64 (s.lo + j))), (8, .d (i64 i))], [(2, .box (.dd s.cells)), (39, .arr 1 (.dd (acc.map fun r => [intsD r])))], st⟩)
      (fun i r acc => acc0 ++ R.map ((s.lo + j) :: ·) = acc ++ r.map ((s.lo + j) :: ·)) acc0 (Wk.sub ⟨(by first | rfl | (simp only [List.length_map]; rfl) | simp [PX.get]), (by first | rfl | (simp only [List.length_map]; rfl) | simp [PX.get]), (by first | rfl | (simp only [List.length_map]; rfl) | simp [PX.get]), (by first | rfl | (simp only [List.length_map]; rfl) | simp [PX.get]), (by first | rfl | (simp only [List.length_map]; rfl) | simp [PX.get]), trivial⟩ ⟨(by first | rfl | (simp only [List.length_map]; rfl) | simp [PX.get]), (by first | rfl | (simp only [List.length_map]; rfl) | simp [PX.get]), trivial⟩) rfl ?_ ?_
    · intro i l r acc hx hi hr hb
      have hll := hrl l (List.mem_of_getElem? hx)
      have hal : acc.length ≤ 125 := by
        rw [he, ← List.append_assoc, hb] at hlen
        simp only [List.length_append] at hlen
        omega
      conv => whnf
      refine brk_i (fun _ => ?_) (fun h => absurd hi (by simpa using h))
      conv => whnf
      refine elemK_nat hx ?_
      conv => whnf
      refine ownK_whole rfl ?_
      conv => whnf
      refine chk_i (by
        rw [Bool.and_eq_true]
        exact ⟨lenAllD_map (fun x => ⟨rfl, rfl⟩) l, rfl⟩) ?_
      conv => whnf
      refine chk_i (decide_eq_true (by
        show (1 + (l.map fun n => [i64 n]).length) * 8 ≤ 140737488355328
        rw [List.length_map]; omega)) ?_
      conv => whnf
      refine ownK_whole rfl ?_
      conv => whnf
      refine ownK_whole (by simp [Els.len]) ?_
      conv => whnf
      have hfree : (true && !nameBL 39 ((injL (acc.map fun r => [intsD r]) ++ [[V.sl 37 1 0 (1 + (l.map fun n => [i64 n]).length)]]).flatten)) = true := by
        rw [nameBL_injL]; rfl
      refine chk_i hfree ?_
      conv => whnf
      refine chk_i (decide_eq_true (by
        show ((acc.map fun r => [intsD r]).length + 1) * 24 ≤ 140737488355328
        rw [List.length_map]; omega)) ?_
      conv => whnf
      refine arith_in (wrap_i64 (by (try dsimp only); omega)) ?_
      conv => whnf
      refine ⟨acc ++ [(s.lo + j) :: l], by rw [hb]; simp, (Wk.frzArr 1 [37] 39 (sz := 1) (vs := injL (acc.map fun r => [intsD r]) ++ [[.sl 37 1 0 (1 + (l.map fun n => [i64 n]).length)]]) (ds := (acc.map fun r => [intsD r]) ++ [[intsD ((s.lo + j) :: l)]]) rfl (viewLL_app (viewLL_one (viewL_cons (viewV_sl' rfl rfl (by simp; omega)) rfl)) _)).trans ?_⟩
      refine Wk.sub ⟨rfl, rfl, ?_, rfl, rfl, trivial⟩ ⟨rfl, ?_, trivial⟩
      · show some (V.sl 39 1 0 ((acc.map fun r => [intsD r]).length + 1)) = _
        simp
      · show some (Obj.arr 1 (Els.dd ((acc.map fun r => [intsD r]) ++ [[intsD ((s.lo + j) :: l)]]))) = _
        simp
    · intro acc hb
      simp only [List.map_nil, List.append_nil] at hb
      conv => whnf
      refine brk_i (fun h => absurd h (by simp)) (fun _ => ?_)
      conv => whnf
      refine arith_to (s.lo + ((j + 1 : Nat) : Int)) (by (try dsimp only); omega) (wrap_i64 (by (try dsimp only); omega)) ?_
      conv => whnf
      refine ⟨(j + 1, acc), by simp only; omega, ⟨by simp only; omega, ?_⟩, Wk.sub ⟨rfl, rfl, rfl, rfl, trivial⟩ ⟨rfl, rfl, trivial⟩⟩
      simp only
      rw [he, ← List.append_assoc, hb, show (s.hi + 1 - s.lo).toNat - (j + 1) = m by omega, show s.lo + ((j + 1 : Nat) : Int) = s.lo + (j : Int) + 1 by omega]

theorem la117 (s : Span) (hs : SpdR s) (k : Nat) (hk : k ≤ 3) : FnV Try.prog 117 [s.d, i64 k] (listsD (speedsL s k)) := (spd_all s hs k hk).h
end Go.PX

namespace Go.PX
open Go.Proofs

/- Lamp: the reference: All, wrong, Agree. -/

def truthsD (l : List LTruth) : D := .vs (l.map LTruth.cells)

set_option maxHeartbeats 1000000 in
theorem la86 (c : LCase) (hR : CaseL c) : FnV Try.prog 86 [c.d] (truthsD (allT c.lamp c.windings)) := by
  refine fnV_of mixed tysOk Try.func86 rfl (ft := ft86) 1 (by decide +kernel) (by rfl) fun {σ} Y st => ?_
  conv => whnf
  have hw := hR.winds
  have hl := hR.lamp
  have hst := hl.start
  have hd := hl.drum
  refine arith_to ((c.windings.length + 1 : Nat) : Int) (by simp) (wrap_i64 (by omega)) ?_
  conv => whnf
  refine CallA_v (la117 c.lamp.speed (SpdR.of hl) (c.windings.length + 1) (by omega)) rfl rfl ?_
  conv => whnf
  have hlen := allT_len hR
  have hRl := speedsL_len3 (SpdR.of hl) (k := c.windings.length + 1) (by omega)
  have hun : allT c.lamp c.windings = (upto (c.lamp.start.hi + 1 - c.lamp.start.lo).toNat c.lamp.start.lo).flatMap fun st => (speedsL c.lamp.speed (c.windings.length + 1)).map fun l => ⟨st, l⟩ := rfl
  rw [hun] at hlen ⊢
  generalize speedsL c.lamp.speed (c.windings.length + 1) = R at hlen hRl
  refine LoopA_p (T := tys) tysOk (by exact drawsB_spec mixed tysOk (by decide +kernel)) (α := Nat × List LTruth)
    (fun p => ⟨[(1, .ptr 1 0), (3, .d (listsD R)), (4, .sl 41 2 0 p.2.length), (5, .d (i64 (c.lamp.start.lo + p.1)))], [(1, .box (.dd c.cells)), (41, .arr 2 (.dd (p.2.map LTruth.cells)))], st⟩)
    (fun p => p.1 ≤ (c.lamp.start.hi + 1 - c.lamp.start.lo).toNat ∧ ((upto (c.lamp.start.hi + 1 - c.lamp.start.lo).toNat c.lamp.start.lo).flatMap fun st => R.map fun l => (⟨st, l⟩ : LTruth)) = p.2 ++ (upto ((c.lamp.start.hi + 1 - c.lamp.start.lo).toNat - p.1) (c.lamp.start.lo + p.1)).flatMap fun st => R.map fun l => ⟨st, l⟩)
    (fun p => (c.lamp.start.hi + 1 - c.lamp.start.lo).toNat - p.1) (0, []) ?wk ?pr ?_
  case wk => exact (Wk.born 4 41 2 rfl rfl rfl).trans (Wk.sub ⟨rfl, rfl, rfl, by show some (V.d (i64 c.lamp.start.lo)) = some (V.d (i64 (c.lamp.start.lo + ((0 : Nat) : Int)))); simp, trivial⟩ ⟨rfl, rfl, trivial⟩)
  case pr => exact ⟨Nat.zero_le _, by simp⟩
  rintro ⟨j, acc0⟩ ⟨hj, he⟩
  simp only at hj he
  conv => whnf
  refine brk_i (fun h4 => ?_) (fun h4 => ?_)
  case refine_2 =>
    have h4 : ¬ c.lamp.start.lo + j ≤ c.lamp.start.hi := by simpa using h4
    rw [show (c.lamp.start.hi + 1 - c.lamp.start.lo).toNat - j = 0 by omega, upto, List.flatMap_nil, List.append_nil] at he
    rw [he]
    conv => whnf
    exact RetA_sl rfl (by simp) ⟨⟨rfl, rfl⟩, rfl⟩
  have h4 : c.lamp.start.lo + j ≤ c.lamp.start.hi := by simpa using h4
  obtain ⟨m, hm⟩ : ∃ m, (c.lamp.start.hi + 1 - c.lamp.start.lo).toNat - j = m + 1 := ⟨(c.lamp.start.hi + 1 - c.lamp.start.lo).toNat - j - 1, by omega⟩
  rw [hm, upto, List.flatMap_cons] at he
  conv => whnf
  refine LoopA_i (T := tys) tysOk (by exact drawsB_spec mixed tysOk (by decide +kernel)) R (fun i (acc : List LTruth) => ⟨[(1, .ptr 1 0), (3, .d (listsD R)), (4, .sl 41 2 0 acc.length), (5, .d (i64 (c.lamp.start.lo + j))), (6, .d (i64 i))], [(1, .box (.dd c.cells)), (41, .arr 2 (.dd (acc.map LTruth.cells)))], st⟩)
    (fun i r acc => (acc0 ++ R.map fun l => (⟨c.lamp.start.lo + j, l⟩ : LTruth)) = acc ++ r.map fun l => ⟨c.lamp.start.lo + j, l⟩) acc0 (Wk.sub ⟨(by first | rfl | (simp only [List.length_map]; rfl) | simp [PX.get]), (by first | rfl | (simp only [List.length_map]; rfl) | simp [PX.get]), (by first | rfl | (simp only [List.length_map]; rfl) | simp [PX.get]), (by first | rfl | (simp only [List.length_map]; rfl) | simp [PX.get]), (by first | rfl | (simp only [List.length_map]; rfl) | simp [PX.get]), trivial⟩ ⟨(by first | rfl | (simp only [List.length_map]; rfl) | simp [PX.get]), (by first | rfl | (simp only [List.length_map]; rfl) | simp [PX.get]), trivial⟩) rfl ?_ ?_
  · intro i l r acc hx hi hr hb
    have hal : acc.length ≤ 2000 := by
      rw [he, ← List.append_assoc, hb] at hlen
      simp only [List.length_append] at hlen
      omega
    conv => whnf
    refine brk_i (fun _ => ?_) (fun h => absurd hi (by simpa using h))
    conv => whnf
    refine elemK_nat hx ?_
    conv => whnf
    refine ownK_whole rfl ?_
    conv => whnf
    refine ownK_whole (by simp [Els.len]) ?_
    conv => whnf
    refine chk_i (decide_eq_true (by
      show ((acc.map LTruth.cells).length + 1) * 32 ≤ 140737488355328
      rw [List.length_map]; omega)) ?_
    conv => whnf
    refine arith_in (wrap_i64 (by (try dsimp only); omega)) ?_
    conv => whnf
    refine ⟨acc ++ [⟨c.lamp.start.lo + j, l⟩], by rw [hb]; simp, ?_⟩
    refine Wk.sub ⟨rfl, rfl, ?_, rfl, rfl, trivial⟩ ⟨rfl, ?_, trivial⟩
    · show some (V.sl 41 2 0 ((acc.map LTruth.cells).length + 1)) = _
      simp
    · show some (Obj.arr 2 (Els.dd ((acc.map LTruth.cells) ++ [[i64 (c.lamp.start.lo + j), intsD l]]))) = _
      simp [LTruth.cells]
  · intro acc hb
    simp only [List.map_nil, List.append_nil] at hb
    conv => whnf
    refine brk_i (fun h => absurd h (by simp)) (fun _ => ?_)
    conv => whnf
    refine arith_to (c.lamp.start.lo + ((j + 1 : Nat) : Int)) (by (try dsimp only); omega) (wrap_i64 (by (try dsimp only); omega)) ?_
    conv => whnf
    refine ⟨(j + 1, acc), by simp only; omega, ⟨by simp only; omega, ?_⟩, Wk.sub ⟨rfl, rfl, rfl, rfl, trivial⟩ ⟨rfl, rfl, trivial⟩⟩
    simp only
    rw [he, ← List.append_assoc, hb, show (c.lamp.start.hi + 1 - c.lamp.start.lo).toNat - (j + 1) = m by omega, show c.lamp.start.lo + ((j + 1 : Nat) : Int) = c.lamp.start.lo + (j : Int) + 1 by omega]

set_option maxHeartbeats 1000000 in
theorem la87 (l : List LSight) (lit : List Bool) (hl : l.length ≤ 1000) (hs : ∀ s ∈ l, 0 ≤ s.second ∧ s.second < lit.length) : FnV Try.prog 87 [sightsD l, boolsD lit] (intsD (wrongF lit l 0)) := by
  refine fnV_of mixed tysOk Try.func87 rfl (ft := ft87) 2 (by decide +kernel) (by rfl) fun {σ} Y st => ?_
  conv => whnf
  refine LoopA_i (T := tys) tysOk (by exact drawsB_spec mixed tysOk (by decide +kernel)) l (fun i (acc : List Int) => ⟨[(0, .d (sightsD l)), (1, .d (boolsD lit)), (5, .sl 30 1 0 acc.length), (6, .d (i64 i))], [(30, .arr 1 (.dd (acc.map fun n => [i64 n])))], st⟩)
    (fun i r acc => wrongF lit l 0 = acc ++ wrongF lit r i ∧ acc.length ≤ i ∧ ∀ s ∈ r, s ∈ l) [] ((Wk.born 5 30 1 rfl rfl rfl).trans (Wk.sub ⟨(by first | rfl | (simp only [List.length_map]; rfl) | simp [PX.get]), (by first | rfl | (simp only [List.length_map]; rfl) | simp [PX.get]), (by first | rfl | (simp only [List.length_map]; rfl) | simp [PX.get]), (by first | rfl | (simp only [List.length_map]; rfl) | simp [PX.get]), trivial⟩ ⟨(by first | rfl | (simp only [List.length_map]; rfl) | simp [PX.get]), trivial⟩)) ⟨rfl, by simp, fun s h => h⟩ ?_ ?_
  · intro i s r acc hx hi hr ⟨he, hal, hsub⟩
    rw [wrongF] at he
    obtain ⟨hs1, hs2⟩ := hs s (hsub s (by simp))
    have hsl : s.second.toNat < lit.length := by omega
    obtain ⟨b, hb⟩ : ∃ b, lit[s.second.toNat]? = some b := ⟨_, List.getElem?_eq_getElem hsl⟩
    have hg : lit.getD s.second.toNat false = b := by simp [List.getD_eq_getElem?_getD, hb]
    rw [hg] at he
    conv => whnf
    refine brk_i (fun _ => ?_) (fun h => absurd hi (by simpa using h))
    conv => whnf
    refine elemK_nat hx ?_
    conv => whnf
    refine elemK_i [.bool b] ⟨hs1, by simp [hb]⟩ ?_
    conv => whnf
    refine elemK_nat hx ?_
    conv => whnf
    by_cases hbs : b = s.lit
    · rw [if_pos hbs] at he
      rw [show (!b == s.lit) = false from by rw [hbs]; cases s.lit <;> rfl]
      conv => whnf
      refine arith_in (wrap_i64 (by (try dsimp only); omega)) ?_
      conv => whnf
      exact ⟨acc, ⟨he, by omega, fun s hs => hsub s (by simp [hs])⟩, (Wk.sub ⟨(by first | rfl | (simp only [List.length_map]; rfl) | simp [PX.get]), (by first | rfl | (simp only [List.length_map]; rfl) | simp [PX.get]), (by first | rfl | (simp only [List.length_map]; rfl) | simp [PX.get]), (by first | rfl | (simp only [List.length_map]; rfl) | simp [PX.get]), trivial⟩ ⟨(by first | rfl | (simp only [List.length_map]; rfl) | simp [PX.get]), trivial⟩)⟩
    · rw [if_neg hbs] at he
      rw [show (!b == s.lit) = true from by cases b <;> cases hl2 : s.lit <;> simp_all]
      conv => whnf
      refine ownK_whole rfl ?_
      conv => whnf
      refine ownK_whole (by simp [Els.len]) ?_
      conv => whnf
      refine chk_i (decide_eq_true (by
        show ((acc.map fun n => [i64 n]).length + 1) * 8 ≤ 140737488355328
        rw [List.length_map]; omega)) ?_
      conv => whnf
      refine arith_in (wrap_i64 (by (try dsimp only); omega)) ?_
      conv => whnf
      refine ⟨acc ++ [(i : Int)], ⟨by rw [he]; simp, by simp; omega, fun s hs => hsub s (by simp [hs])⟩, Wk.sub ⟨rfl, rfl, ?_, rfl, trivial⟩ ⟨?_, trivial⟩⟩
      · simp [PX.get, Els.len]
      · simp [PX.get, Els.app]
  · intro acc ⟨he, hal, _⟩
    rw [wrongF, List.append_nil] at he
    rw [he]
    conv => whnf
    refine brk_i (fun h => absurd h (by simp)) (fun _ => ?_)
    conv => whnf
    exact RetA_sl rfl (by simp) ⟨⟨rfl, rfl⟩, rfl⟩
end Go.PX
