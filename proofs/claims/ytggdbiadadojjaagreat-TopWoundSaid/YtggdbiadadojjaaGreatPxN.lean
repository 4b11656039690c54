import Derived.Test.YtggdbiadadojjaaGreatPxM
import Derived.Test.YtggdbiadadojjaaGreatPxI
import Derived.Test.YtggdbiadadojjaaGreatPxK
set_option linter.all false
set_option maxRecDepth 10000
namespace Go.PX
open Go.Proofs
def endT (c : WCase) (rota : List (List Int)) : Tired := (walkF c (allMen c) .zero rota 0).2
def goodW (c : WCase) (rota : List (List Int)) : Prop := (walkF c (allMen c) .zero rota 0).1.1 = -1
theorem walk_append {c : WCase} {set : Int} : ∀ {l1 l2 : List (List Int)} {t : Tired} {i : Int}, 0 ≤ i → (walkF c set t l1 i).1.1 = -1 → walkF c set t (l1 ++ l2) i = walkF c set (walkF c set t l1 i).2 l2 (i + l1.length)
 | [], l2, t, i, _, _ => by simp [walkF]
 | r :: l1, l2, t, i, hi, h => by
  rw [walkF] at h
  rw [List.cons_append, walkF, walkF]
  split
  ·rename_i h1
   rw [if_pos h1] at h
   rw [walk_append (by omega) h]
   congr 1
   simp; omega
  ·rename_i h1
   rw [if_neg h1] at h
   simp only at h
   omega
theorem walk_shift {c : WCase} {set : Int} : ∀ {l : List (List Int)} {t : Tired} {i j : Int}, 0 ≤ i → 0 ≤ j → ((walkF c set t l i).1.1 = -1 ↔ (walkF c set t l j).1.1 = -1) ∧ (walkF c set t l i).2 = (walkF c set t l j).2
 | [], t, i, j, _, _ => by simp [walkF]
 | r :: l, t, i, j, hi, hj => by
  rw [walkF, walkF]
  split
  ·exact walk_shift (by omega) (by omega)
  ·exact ⟨⟨fun h => by simp only at h; omega, fun h => by simp only at h; omega⟩, rfl⟩
theorem walk_app_iff {c : WCase} {set : Int} {l1 l2 : List (List Int)} {t : Tired} (h : (walkF c set t l1 0).1.1 = -1) : ((walkF c set t (l1 ++ l2) 0).1.1 = -1 ↔ (walkF c set (walkF c set t l1 0).2 l2 0).1.1 = -1) ∧ (walkF c set t (l1 ++ l2) 0).2 = (walkF c set (walkF c set t l1 0).2 l2 0).2 := by
 rw [walk_append (Int.le_refl 0) h]
 exact walk_shift (by omega) (Int.le_refl 0)
theorem group_why {c : WCase} {set : Int} {t : Tired} {x : List Int × Tired} (h : x ∈ groupsF c set t) : (whyT c set t x.1).1 = 0 ∧ x.2 = behindF c t x.1 := groupsL_ok h
theorem group_in {c : WCase} {set : Int} {t : Tired} {x : List Int × Tired} (h : x ∈ groupsF c set t) : RowIn c x.1 := by
 unfold groupsF at h
 rw [groups_lists (p := []) (start := 0) rfl, List.mem_map] at h
 obtain ⟨g, hg, rfl⟩ := h
 exact (lists_ok (p := []) (fun x hx => by cases hx) g (List.mem_filter.1 hg).1).2
structure EndlOk (c : WCase) (r : List (List Int) × Int) : Prop where
 good : goodW c r.1
 frm : 0 ≤ r.2 ∧ r.2 < r.1.length
 same : endT c (r.1.take r.2.toNat) = endT c r.1
 rows : ∀ x ∈ r.1, RowIn c x ∧ x.length ≤ 2
 len : r.1.length ≤ fuelW
theorem endl_ok {c : WCase} (hR : WR c) : ∀ (n : Nat) (seen : Kn) (rota : List (List Int)) (t : Tired), InU c t → endB c (allMen c) t = true → cntN c seen < n → goodW c rota → endT c rota = t →
  (∀ u i, getK seen u = some i → (0 ≤ i ∧ i < rota.length) ∧ endT c (rota.take i.toNat) = u) → (∀ x ∈ rota, RowIn c x ∧ x.length ≤ 2) → rota.length + cntN c seen ≤ fuelW → EndlOk c (endlF c n seen rota t)
 | 0, _, _, _, _, _, h, _, _, _, _, _ => by omega
 | n + 1, seen, rota, t, ht, ha, hn, hg, he, hs, hr, hl => by
  rw [endlF]
  cases hk : getK seen t with
  | some i =>
   obtain ⟨h1, h2⟩ := hs t i hk
   exact ⟨hg, h1, by rw [h2, he], hr, by simp only; omega⟩
  | none =>
   obtain ⟨⟨g, u⟩, hf⟩ := first_some hR ht ha
   rw [hf]
   simp only
   have hp0 : (g, u) ∈ groupsF c (allMen c) t := List.mem_of_find?_eq_some hf
   have ha0 : endB c (allMen c) u = true := by have := List.find?_some hf; exact this
   obtain ⟨hw, hu⟩ := group_why hp0
   have hc := cntN_put ht hk rota.length
   have hlen := groups_len hR hp0
   obtain ⟨a1, a2⟩ := walk_app_iff (l2 := [g]) hg
   have hst : (walkF c (allMen c) (walkF c (allMen c) .zero rota 0).2 [g] 0) = ((-1, 0, 0), u) := by
    have he' : (walkF c (allMen c) .zero rota 0).2 = t := he
    rw [he', walkF, if_pos hw, walkF, ← hu]
   rw [hst] at a1 a2
   refine endl_ok hR n _ _ u (groups_InU hR ht hp0) ha0 (by omega) (a1.2 rfl) a2 (fun v i hv => ?_) (fun x hx => ?_) (by simp; omega)
   ·rw [get_put_kn] at hv
    split at hv
    ·rename_i e
     cases hv
     subst e
     refine ⟨by simp; omega, ?_⟩
     simp only [Int.toNat_natCast, List.take_left']
     exact he
    ·obtain ⟨h1, h2⟩ := hs v i hv
     refine ⟨by simp; omega, ?_⟩
     rw [List.take_append_of_le_length (by omega)]
     exact h2
   ·rcases List.mem_append.1 hx with hx | hx
    ·exact hr x hx
    ·rw [List.mem_singleton] at hx
     subst hx
     exact ⟨group_in hp0, hlen⟩
theorem endlW_ok {c : WCase} (hR : WR c) (h : endB c (allMen c) .zero = true) : EndlOk c (endlW c) := by
 have h1 : cntN c [] ≤ (univ c).length := List.length_filter_le ..
 have := univ_fuel hR
 exact endl_ok hR (fuelW + 1) [] [] .zero (InU.zero hR) h (by omega) rfl rfl (fun u i h => by cases h) (fun x hx => by cases hx) (by simp; omega)
def againF (r : List (List Int) × Int) : Nat → List (List Int)
 | 0 => r.1
 | n + 1 => againF r n ++ r.1.drop r.2.toNat
theorem again_ok {c : WCase} {r : List (List Int) × Int} (h : EndlOk c r) : ∀ n, goodW c (againF r n) ∧ endT c (againF r n) = endT c r.1
 | 0 => ⟨h.good, rfl⟩
 | n + 1 => by
  obtain ⟨h1, h2⟩ := again_ok h n
  obtain ⟨a1, a2⟩ := walk_app_iff (l2 := r.1.drop r.2.toNat) h1
  have hg := h.good
  have hsplit : r.1 = r.1.take r.2.toNat ++ r.1.drop r.2.toNat := (List.take_append_drop ..).symm
  have hgt : (walkF c (allMen c) .zero (r.1.take r.2.toNat) 0).1.1 = -1 := walk_app (l2 := r.1.drop r.2.toNat) (Int.le_refl 0) (by rw [← hsplit]; exact hg)
  obtain ⟨b1, b2⟩ := walk_app_iff (l2 := r.1.drop r.2.toNat) hgt
  rw [← hsplit] at b1 b2
  have e1 : (walkF c (allMen c) .zero (againF r n) 0).2 = (walkF c (allMen c) .zero (r.1.take r.2.toNat) 0).2 := h2.trans h.same.symm
  rw [e1] at a1 a2
  exact ⟨a1.2 (b1.1 hg), a2.trans b2.symm⟩
end Go.PX
namespace Go.PX
open Go.Proofs
theorem asc_snoc {many : Int} : ∀ {l : List Int} {last i : Int}, ascF many last l = 0 → (l.getLast?).getD last < i → 0 ≤ i → i < many → ascF many last (l ++ [i]) = 0
 | [], last, i, _, h, h0, h1 => by
  have h : last < i := by simpa using h
  have hb : inB i 0 (many - 1) = true := by rw [inB_iff]; omega
  simp only [List.nil_append, ascF, hb, if_true]
  rw [if_neg (by omega)]
 | x :: l, last, i, h, hi, h0, h1 => by
  rw [ascF] at h
  rw [List.cons_append, ascF]
  split at h
  case isFalse => cases h
  rename_i hb
  split at h
  ·cases h
  rename_i hx
  rw [if_pos hb, if_neg hx]
  refine asc_snoc h ?_ h0 h1
  rw [List.getLast?_cons] at hi
  simpa using hi
theorem lists_asc {below : Nat} : ∀ {many : Nat} {p : List Int}, (∀ x ∈ p, 0 ≤ x ∧ x < below) → ascF below (-1) p = 0 → ∀ g ∈ listsF below many p, ascF below (-1) g = 0
 | 0, p, _, ha, g, hg => by
  rw [listsF, List.mem_singleton] at hg
  subst hg; exact ha
 | many + 1, p, hp, ha, g, hg => by
  rw [listsF, List.mem_flatMap] at hg
  obtain ⟨i, hi, hg⟩ := hg
  rw [List.mem_range'_1] at hi
  have h1 := startF_le hp
  refine lists_asc (many := many) (p := p ++ [(i : Int)]) (fun x hx => ?_) (asc_snoc ha ?_ (by omega) (by omega)) g hg
  ·rcases List.mem_append.1 hx with hx | hx
   ·exact hp x hx
   ·rw [List.mem_singleton] at hx; subst hx; omega
  ·unfold startF at hi
   cases h : p.getLast? with
   | none => rw [h] at hi; simp only [Option.getD_none]; omega
   | some y => rw [h] at hi; simp only [Option.getD_some] at hi ⊢; omega
theorem lists_mem {below : Nat} : ∀ {r p : List Int}, ascF below ((startF p : Int) - 1) r = 0 → p ++ r ∈ listsF below r.length p
 | [], p, _ => by simp [listsF]
 | i :: r, p, h => by
  rw [ascF] at h
  split at h
  case isFalse => cases h
  rename_i hb
  split at h
  ·cases h
  rename_i hx
  rw [inB_iff] at hb
  rw [List.length_cons, listsF, List.mem_flatMap]
  obtain ⟨k, rfl⟩ : ∃ k : Nat, i = k := ⟨i.toNat, by omega⟩
  refine ⟨k, ?_, ?_⟩
  ·rw [List.mem_range'_1]; omega
  ·have h2 := lists_mem (r := r) (p := p ++ [(k : Int)]) (by
    rw [startF_snoc, show (((k + 1 : Nat) : Int) - 1) = (k : Int) by omega]; exact h)
   simpa using h2
theorem group_mem {c : WCase} {set : Int} {t : Tired} {g : List Int} (ha : ascF c.men.length (-1) g = 0) (hm : (slotAt c t).men.toNat = g.length) (hw : (whyT c set t g).1 = 0) : (g, behindF c t g) ∈ groupsF c set t := by
 unfold groupsF
 rw [groups_lists (p := []) (start := 0) rfl, List.mem_map]
 refine ⟨g, List.mem_filter.2 ⟨?_, by simpa [whyT] using hw⟩, rfl⟩
 rw [hm]
 have := lists_mem (below := c.men.length) (r := g) (p := []) (by simpa [startF] using ha)
 simpa using this
theorem why_men {c : WCase} {set : Int} {t : Tired} {g : List Int} (hw : (whyT c set t g).1 = 0) : (slotAt c t).men.toNat = g.length := by
 unfold whyT whyF at hw
 split at hw
 ·simp at hw
 ·rename_i h
  have h : (g.length : Int) = (slotAt c t).men := by simpa using h
  omega
theorem group_mem' {c : WCase} {set : Int} {t : Tired} {g : List Int} (ha : ascF c.men.length (-1) g = 0) (hw : (whyT c set t g).1 = 0) : (g, behindF c t g) ∈ groupsF c set t := group_mem ha (why_men hw) hw
theorem group_asc {c : WCase} {set : Int} {t : Tired} {x : List Int × Tired} (h : x ∈ groupsF c set t) : ascF c.men.length (-1) x.1 = 0 := by
 unfold groupsF at h
 rw [groups_lists (p := []) (start := 0) rfl, List.mem_map] at h
 obtain ⟨g, hg, rfl⟩ := h
 exact lists_asc (p := []) (fun x hx => by cases hx) rfl g (List.mem_filter.1 hg).1
structure GoodR (c : WCase) (rota : List (List Int)) : Prop where
 good : goodW c rota
 asc : ∀ r ∈ rota, ascF c.men.length (-1) r = 0
theorem GoodR.pre {c : WCase} {a b : List (List Int)} (h : GoodR c (a ++ b)) : GoodR c a := ⟨walk_app (l2 := b) (Int.le_refl 0) h.good, fun r hr => h.asc r (by simp [hr])⟩
theorem err_all {α : Type} {f : α → Int} : ∀ {l : List α}, (∀ x ∈ l, f x = 0) → firstErr f l = 0
 | [], _ => rfl
 | x :: r, h => by rw [firstErr, if_pos (h x (by simp))]; exact err_all fun y hy => h y (by simp [hy])
theorem GoodR.ent {c : WCase} (hv : (checkW c).2.2 = 0) {rota : List (List Int)} (h : GoodR c rota) (hl : rota.length ≤ 40) : entE c rota = 0 := by
 unfold entE
 rw [if_pos hv, if_neg (by omega)]
 exact err_all h.asc
theorem GoodR.zero {c : WCase} (hv : (checkW c).2.2 = 0) {rota : List (List Int)} (h : GoodR c rota) (hl : rota.length ≤ 40) : goodE c rota = 0 := by
 have hg := h.good
 unfold goodW at hg
 unfold goodE
 rw [if_pos (h.ent hv hl), hg]
 rfl
end Go.PX
namespace Go.PX
open Go.Proofs
theorem endl_asc {c : WCase} : ∀ (n : Nat) (seen : Kn) (rota : List (List Int)) (t : Tired), (∀ x ∈ rota, ascF c.men.length (-1) x = 0) → ∀ x ∈ (endlF c n seen rota t).1, ascF c.men.length (-1) x = 0
 | 0, _, _, _, _, x, h => by rw [endlF] at h; cases h
 | n + 1, seen, rota, t, hr, x, h => by
  rw [endlF] at h
  cases hk : getK seen t with
  | some i => rw [hk] at h; exact hr x h
  | none =>
   rw [hk] at h
   cases hf : firstF c t with
   | none => rw [hf] at h; cases h
   | some p =>
    rw [hf] at h
    refine endl_asc n _ _ _ (fun y hy => ?_) x h
    rcases List.mem_append.1 hy with hy | hy
    ·exact hr y hy
    ·rw [List.mem_singleton.1 hy]
     exact group_asc (List.mem_of_find?_eq_some hf)
def rowAtF (r : List (List Int) × Int) (k : Nat) : List Int := r.1.getD (if k < r.1.length then k else r.2.toNat + (k - r.2.toNat) % (r.1.length - r.2.toNat)) []
def beforeF (r : List (List Int) × Int) (m : Nat) : List (List Int) := (List.range m).map (rowAtF r)
theorem again_len {r : List (List Int) × Int} : ∀ i, (againF r i).length = r.1.length + i * (r.1.length - r.2.toNat)
 | 0 => by simp [againF]
 | i + 1 => by
  rw [againF, List.length_append, again_len i, List.length_drop, Nat.add_mul]
  omega
theorem again_get {r : List (List Int) × Int} (hf : r.2.toNat < r.1.length) : ∀ i k, k < (againF r i).length → (againF r i)[k]? = some (rowAtF r k)
 | 0, k, hk => by
  have hk : k < r.1.length := hk
  unfold rowAtF
  rw [if_pos hk, List.getD_eq_getElem?_getD, List.getElem?_eq_getElem hk]
  exact List.getElem?_eq_getElem hk
 | i + 1, k, hk => by
  rw [againF]
  by_cases h1 : k < (againF r i).length
  ·rw [List.getElem?_append_left h1]
   exact again_get hf i k h1
  ·have hl := again_len (r := r) i
   have hl2 := again_len (r := r) (i + 1)
   rw [Nat.add_mul] at hl2
   generalize hP : r.1.length - r.2.toNat = p at hl hl2
   obtain ⟨j, hj⟩ : ∃ j, k = (againF r i).length + j := ⟨k - (againF r i).length, by omega⟩
   have hjp : j < p := by omega
   rw [List.getElem?_append_right (by omega), List.getElem?_drop]
   unfold rowAtF
   rw [if_neg (by omega), hP]
   have e1 : k - r.2.toNat = j + (i + 1) * p := by rw [Nat.add_mul]; omega
   rw [e1, Nat.add_mul_mod_self_right, Nat.mod_eq_of_lt hjp]
   have e2 : r.2.toNat + (k - (againF r i).length) = r.2.toNat + j := by omega
   rw [e2, List.getD_eq_getElem?_getD, List.getElem?_eq_getElem (by omega)]
   rfl
theorem again_take {r : List (List Int) × Int} (hf : r.2.toNat < r.1.length) {i m : Nat} (hm : m ≤ (againF r i).length) : (againF r i).take m = beforeF r m := by
 refine List.ext_getElem? fun k => ?_
 unfold beforeF
 by_cases hk : k < m
 ·rw [List.getElem?_take_of_lt hk, again_get hf i k (by omega), List.getElem?_map, List.getElem?_range hk]; rfl
 ·rw [List.getElem?_eq_none (by rw [List.length_take]; omega), List.getElem?_eq_none (by simp; omega)]
theorem ever_can {c : WCase} (hc : (checkW c).2.2 = 0) (ha : endB c (allMen c) .zero = true) (m : Nat) (hm : m ≤ 40) : goodE c (beforeF (endlW c) m) = 0 ∧ rowAtF (endlW c) m ∈ canL c (beforeF (endlW c) m) := by
 have hR := wR hc
 have hk := endlW_ok hR ha
 have hasc : ∀ x ∈ (endlW c).1, ascF c.men.length (-1) x = 0 := endl_asc (fuelW + 1) [] [] .zero (fun x h => by cases h)
 generalize endlW c = r at hk hasc ⊢
 have hf : r.2.toNat < r.1.length := by have := hk.frm; omega
 have hall : ∀ i, GoodR c (againF r i) := fun i => ⟨(again_ok hk i).1, by
  induction i with
  | zero => exact hasc
  | succ i ih =>
   intro x hx
   rcases List.mem_append.1 hx with hx | hx
   ·exact ih x hx
   ·exact hasc x (List.mem_of_mem_drop hx)⟩
 have hlen : m + 1 ≤ (againF r (m + 1)).length := by
  rw [again_len]
  have : (m + 1) * 1 ≤ (m + 1) * (r.1.length - r.2.toNat) := Nat.mul_le_mul_left _ (by omega)
  omega
 have hg1 : GoodR c (beforeF r (m + 1)) := by
  rw [← again_take hf hlen]
  exact GoodR.pre (b := (againF r (m + 1)).drop (m + 1)) (by rw [List.take_append_drop]; exact hall (m + 1))
 have hsp : beforeF r (m + 1) = beforeF r m ++ [rowAtF r m] := by unfold beforeF; rw [List.range_succ, List.map_append]; rfl
 rw [hsp] at hg1
 have hg0 := hg1.pre
 refine ⟨hg0.zero hc (by unfold beforeF; simp; omega), ?_⟩
 obtain ⟨a1, _⟩ := walk_app_iff (l2 := [rowAtF r m]) hg0.good
 have h2 := a1.1 hg1.good
 rw [walkF] at h2
 split at h2
 ·rename_i hw
  refine List.mem_map.2 ⟨_, group_mem' (hg1.asc _ (by simp)) hw, rfl⟩
 ·simp only at h2; omega
theorem can_len {c : WCase} (hR : WR c) (rota : List (List Int)) : (canL c rota).length ≤ 25 ∧ ∀ g ∈ canL c rota, g.length ≤ 2 := by
 constructor
 ·unfold canL groupsF
  rw [groups_lists (p := []) (start := 0) rfl, List.length_map, List.length_map]
  have h2 : (slotAt c (goodT c rota)).men.toNat ≤ 2 := by
   unfold slotAt
   cases hs : c.slots[(goodT c rota).slot.toNat]? with
   | none => simp
   | some s =>
    have := (hR.slot s (List.mem_of_getElem? hs)).1
    simp only [Option.getD_some]
    omega
  refine Nat.le_trans (List.length_filter_le _ _) (Nat.le_trans (listsF_many hR.men.2) ?_)
  exact Nat.le_trans (Nat.pow_le_pow_right (by omega) h2) (by decide)
 ·intro g hg
  obtain ⟨x, hx, rfl⟩ := List.mem_map.1 hg
  exact groups_len hR hx
end Go.PX
namespace Go.PX
open Go.Proofs
structure LLamp where
 drum : Int
 lit : List Span
 start : Span
 speed : Span
 slow : Int
 night : Int
 deriving DecidableEq
structure LSight where
 second : Int
 lit : Bool
 deriving DecidableEq
structure LCase where
 lamp : LLamp
 windings : List Int
 sights : List LSight
 deriving DecidableEq
def LLamp.cells (x : LLamp) : List D := [i64 x.drum, spansD x.lit, i64 x.start.lo, i64 x.start.hi, i64 x.speed.lo, i64 x.speed.hi, i64 x.slow, i64 x.night]
def LLamp.d (x : LLamp) : D := .agg x.cells
def LSight.cells (s : LSight) : List D := [i64 s.second, .bool s.lit]
def sightsD (l : List LSight) : D := .vs (l.map LSight.cells)
def LCase.cells (c : LCase) : List D := [i64 c.lamp.drum, spansD c.lamp.lit, i64 c.lamp.start.lo, i64 c.lamp.start.hi, i64 c.lamp.speed.lo, i64 c.lamp.speed.hi, i64 c.lamp.slow, i64 c.lamp.night, intsD c.windings, sightsD c.sights]
def LCase.d (c : LCase) : D := .agg c.cells
def litF (drum : Int) : Int → List Span → Int → Int × Int
 | _, [], _ => (0, 0)
 | last, s :: r, i => if inB s.lo 0 (drum - 1) && inB s.hi 0 (drum - 1) then (if s.lo > s.hi || s.lo ≤ last then (i, 2) else litF drum s.hi r (i + 1)) else (i, 7)
def wheelF (x : LLamp) : Int × Int × Int :=
 if inB x.drum 2 120 && (inB x.slow 1 200 && inB x.night 1 200) then
  (if 4 < x.lit.length then (1, 0, 3)
  else if (litF x.drum (-1) x.lit 0).2 = 0 then
   (if (inB x.start.lo 0 (x.drum - 1) && inB x.start.hi 0 (x.drum - 1)) && (inB x.speed.lo 1 40 && inB x.speed.hi 1 40) then
    (if inB (x.start.hi - x.start.lo) 0 12 && inB (x.speed.hi - x.speed.lo) 0 4 then (0, 0, 0) else (3, 0, 2))
   else (3, 0, 7))
  else (2, (litF x.drum (-1) x.lit 0).1, (litF x.drum (-1) x.lit 0).2))
 else (1, 0, 7)
set_option maxHeartbeats 1000000 in
theorem la60 (x : LLamp) : FnV Tryz.prog 106 [x.d] (tri (wheelF x)) := by
 refine fnV_of mixed tysOk Tryz.func106 rfl (ft := ft106) 1 (by decide +kernel) (by rfl) fun {σ} Y st => ?_
 conv=>whnf
 refine CallA_view (fn51_1 2 120 x.drum) rfl 1 rfl ?_
 conv=>whnf
 by_cases h1 : inB x.drum 2 120 = true
 case neg =>
  have h1 : inB x.drum 2 120 = false := by simpa using h1
  rw [h1]
  conv=>whnf
  unfold wheelF
  rw [h1]
  exact RetA_view 0 rfl ⟨⟨rfl, rfl⟩, rfl⟩
 rw [h1]
 conv=>whnf
 refine CallA_view (fn51_2 1 200 x.slow x.night) rfl 1 rfl ?_
 conv=>whnf
 by_cases h2 : (inB x.slow 1 200 && inB x.night 1 200) = true
 case neg =>
  have h2 : (inB x.slow 1 200 && inB x.night 1 200) = false := by simpa using h2
  rw [h2]
  conv=>whnf
  unfold wheelF
  rw [h1, h2]
  exact RetA_view 0 rfl ⟨⟨rfl, rfl⟩, rfl⟩
 rw [h2]
 conv=>whnf
 have hw : wheelF x = if 4 < x.lit.length then (1, 0, 3)
  else if (litF x.drum (-1) x.lit 0).2 = 0 then
   (if (inB x.start.lo 0 (x.drum - 1) && inB x.start.hi 0 (x.drum - 1)) && (inB x.speed.lo 1 40 && inB x.speed.hi 1 40) then
    (if inB (x.start.hi - x.start.lo) 0 12 && inB (x.speed.hi - x.speed.lo) 0 4 then (0, 0, 0) else (3, 0, 2))
   else (3, 0, 7))
  else (2, (litF x.drum (-1) x.lit 0).1, (litF x.drum (-1) x.lit 0).2) := by
  unfold wheelF
  rw [h1, h2]; rfl
 rw [hw]
 have hd := inB_iff.1 h1
 refine brk_i (fun h3 => ?_) (fun h3 => ?_)
 ·have h3 : 4 < x.lit.length := by have := of_decide_eq_true h3; simp at this; omega
  conv=>whnf
  rw [if_pos h3]
  exact RetA_view 0 rfl ⟨⟨rfl, rfl⟩, rfl⟩
 have h3 : ¬ 4 < x.lit.length := by have := of_decide_eq_false h3; simp at this; omega
 rw [if_neg h3]
 conv=>whnf
 refine LoopA_i (T := tys) tysOk (by exact drawsB_spec mixed tysOk (by decide +kernel)) x.lit (fun i (p : Int × List D) => ⟨[(1, .ptr 1 0), (5, .d (i64 p.1)), (27, .d (spansD x.lit)), (28, .d (i64 x.lit.length)), (29, .d (i64 i))], [(1, .box (.dd x.cells))], st⟩) (fun i r p => litF x.drum (-1) x.lit 0 = litF x.drum p.1 r i ∧ -1 ≤ p.1 ∧ p.1 ≤ 1000) ((-1), []) (Wk.sub ⟨(by first | rfl | (simp only [List.length_map]; rfl) | simp [PX.get]), (by first | rfl | (simp only [List.length_map]; rfl) | simp [PX.get]), (by first | rfl | (simp only [List.length_map]; rfl) | simp [PX.get]), (by first | rfl | (simp only [List.length_map]; rfl) | simp [PX.get]), (by first | rfl | (simp only [List.length_map]; rfl) | simp [PX.get]), trivial⟩ ⟨(by first | rfl | (simp only [List.length_map]; rfl) | simp [PX.get]), trivial⟩) ⟨rfl, by simp only; omega, by simp only; omega⟩ ?_ ?_
 ·intro i s r p hx hi hr he
  obtain ⟨last, _⟩ := p
  obtain ⟨he, hl1, hl2⟩ := he
  simp only at he hl1 hl2
  rw [litF] at he
  conv=>whnf
  refine brk_i (fun _ => ?_) (fun h => absurd hi (by simpa using h))
  conv=>whnf
  refine elemK_nat hx ?_
  conv=>whnf
  refine arith_in (wrap_i64 (by (try dsimp only); omega)) ?_
  conv=>whnf
  refine CallA_view (fn51_2 0 (x.drum - 1) s.lo s.hi) rfl 1 rfl ?_
  conv=>whnf
  by_cases h4 : (inB s.lo 0 (x.drum - 1) && inB s.hi 0 (x.drum - 1)) = true
  case neg =>
   have h4 : (inB s.lo 0 (x.drum - 1) && inB s.hi 0 (x.drum - 1)) = false := by simpa using h4
   rw [h4] at he ⊢
   rw [if_neg (by simp)] at he
   conv=>whnf
   rw [he]
   exact RetA_view 0 rfl ⟨⟨rfl, rfl⟩, rfl⟩
  rw [h4] at he ⊢
  rw [if_pos rfl] at he
  simp only [Bool.and_eq_true, inB_iff] at h4
  conv=>whnf
  refine brk_i (fun h5 => ?_) (fun h5 => ?_)
  ·have h5 : s.lo > s.hi := by simpa using h5
   rw [if_pos (by simp [h5])] at he
   conv=>whnf
   rw [he]
   exact RetA_view 0 rfl ⟨⟨rfl, rfl⟩, rfl⟩
  have h5 : ¬ s.lo > s.hi := by simpa using h5
  conv=>whnf
  refine brk_i (fun h6 => ?_) (fun h6 => ?_)
  ·have h6 : s.lo ≤ last := by simpa using h6
   rw [if_pos (by simp [h6])] at he
   conv=>whnf
   rw [he]
   exact RetA_view 0 rfl ⟨⟨rfl, rfl⟩, rfl⟩
  have h6 : ¬ s.lo ≤ last := by simpa using h6
  rw [if_neg (by simp [h5, h6])] at he
  conv=>whnf
  refine arith_in (wrap_i64 (by (try dsimp only); omega)) ?_
  conv=>whnf
  exact ⟨(s.hi, []), ⟨by simpa using he, by simp only; omega, by simp only; omega⟩, (Wk.sub ⟨(by first | rfl | (simp only [List.length_map]; rfl) | simp [PX.get]), (by first | rfl | (simp only [List.length_map]; rfl) | simp [PX.get]), (by first | rfl | (simp only [List.length_map]; rfl) | simp [PX.get]), (by first | rfl | (simp only [List.length_map]; rfl) | simp [PX.get]), (by first | rfl | (simp only [List.length_map]; rfl) | simp [PX.get]), trivial⟩ ⟨(by first | rfl | (simp only [List.length_map]; rfl) | simp [PX.get]), trivial⟩)⟩
 ·rintro ⟨last, _⟩ ⟨he, _, _⟩
  simp only [litF] at he
  conv=>whnf
  refine brk_i (fun h => absurd h (by simp)) (fun _ => ?_)
  conv=>whnf
  rw [he]
  simp only [if_true]
  refine arith_in (wrap_i64 (by (try dsimp only); omega)) ?_
  conv=>whnf
  refine CallA_view (fn51_2 0 (x.drum - 1) x.start.lo x.start.hi) rfl 1 rfl ?_
  conv=>whnf
  by_cases h4 : (inB x.start.lo 0 (x.drum - 1) && inB x.start.hi 0 (x.drum - 1)) = true
  case neg =>
   have h4 : (inB x.start.lo 0 (x.drum - 1) && inB x.start.hi 0 (x.drum - 1)) = false := by simpa using h4
   rw [h4]
   conv=>whnf
   exact RetA_view 0 rfl ⟨⟨rfl, rfl⟩, rfl⟩
  rw [h4]
  simp only [Bool.and_eq_true, inB_iff] at h4
  conv=>whnf
  refine CallA_view (fn51_2 1 40 x.speed.lo x.speed.hi) rfl 1 rfl ?_
  conv=>whnf
  by_cases h5 : (inB x.speed.lo 1 40 && inB x.speed.hi 1 40) = true
  case neg =>
   have h5 : (inB x.speed.lo 1 40 && inB x.speed.hi 1 40) = false := by simpa using h5
   rw [h5]
   conv=>whnf
   exact RetA_view 0 rfl ⟨⟨rfl, rfl⟩, rfl⟩
  rw [h5]
  simp only [Bool.and_eq_true, inB_iff] at h5
  conv=>whnf
  refine arith_in (wrap_i64 (by (try dsimp only); omega)) ?_
  conv=>whnf
  refine CallA_view (fn51_1 0 12 (x.start.hi - x.start.lo)) rfl 1 rfl ?_
  conv=>whnf
  by_cases h6 : inB (x.start.hi - x.start.lo) 0 12 = true
  case neg =>
   have h6 : inB (x.start.hi - x.start.lo) 0 12 = false := by simpa using h6
   rw [h6]
   conv=>whnf
   exact RetA_view 0 rfl ⟨⟨rfl, rfl⟩, rfl⟩
  rw [h6]
  conv=>whnf
  refine arith_in (wrap_i64 (by (try dsimp only); omega)) ?_
  conv=>whnf
  refine CallA_view (fn51_1 0 4 (x.speed.hi - x.speed.lo)) rfl 1 rfl ?_
  conv=>whnf
  by_cases h7 : inB (x.speed.hi - x.speed.lo) 0 4 = true
  case neg =>
   have h7 : inB (x.speed.hi - x.speed.lo) 0 4 = false := by simpa using h7
   rw [h7]
   conv=>whnf
   exact RetA_view 0 rfl ⟨⟨rfl, rfl⟩, rfl⟩
  rw [h7]
  conv=>whnf
  exact RetA_view 0 rfl ⟨⟨rfl, rfl⟩, rfl⟩
end Go.PX
namespace Go.PX
open Go.Proofs
structure LampR (x : LLamp) : Prop where
 drum : 2 ≤ x.drum ∧ x.drum ≤ 120
 slow : 1 ≤ x.slow ∧ x.slow ≤ 200
 night : 1 ≤ x.night ∧ x.night ≤ 200
 lits : x.lit.length ≤ 4
 lit : ∀ s ∈ x.lit, 0 ≤ s.lo ∧ s.lo ≤ s.hi ∧ s.hi ≤ x.drum - 1
 start : 0 ≤ x.start.lo ∧ x.start.lo ≤ x.start.hi ∧ x.start.hi ≤ x.drum - 1
 speed : 1 ≤ x.speed.lo ∧ x.speed.lo ≤ x.speed.hi ∧ x.speed.hi ≤ 40 ∧ x.speed.hi ≤ x.speed.lo + 4
theorem litF_ok {drum : Int} : ∀ {l : List Span} {last i : Int}, (litF drum last l i).2 = 0 → ∀ s ∈ l, 0 ≤ s.lo ∧ s.lo ≤ s.hi ∧ s.hi ≤ drum - 1
 | [], _, _, _, s, hs => by cases hs
 | x :: r, last, i, h, s, hs => by
  rw [litF] at h
  split at h
  ·rename_i h1
   simp only [Bool.and_eq_true, inB_iff] at h1
   split at h
   ·cases h
   ·rename_i h2
    simp only [Bool.or_eq_true, decide_eq_true_eq, not_or] at h2
    rcases List.mem_cons.1 hs with rfl | hs
    ·omega
    ·exact litF_ok h s hs
  ·cases h
theorem wheel_ok {x : LLamp} (h : (wheelF x).2.2 = 0) : LampR x := by
 unfold wheelF at h
 split at h
 case isFalse => cases h
 rename_i h1
 simp only [Bool.and_eq_true, inB_iff] at h1
 split at h
 ·cases h
 rename_i h2
 split at h
 case isFalse => rename_i h3; exact absurd h h3
 rename_i h3
 split at h
 case isFalse => cases h
 rename_i h4
 simp only [Bool.and_eq_true, inB_iff] at h4
 split at h
 case isFalse => cases h
 rename_i h5
 simp only [Bool.and_eq_true, inB_iff] at h5
 exact ⟨h1.1, h1.2.1, h1.2.2, by omega, litF_ok h3, by omega, by omega⟩
theorem wheel_far {x : LLamp} (h : (wheelF x).2.2 = 0) : x.start.hi ≤ x.start.lo + 12 := by
 unfold wheelF at h
 split at h
 case isFalse => cases h
 split at h
 ·cases h
 split at h
 case isFalse => rename_i h3; exact absurd h h3
 split at h
 case isFalse => cases h
 split at h
 case isFalse => cases h
 rename_i h5
 simp only [Bool.and_eq_true, inB_iff] at h5
 omega
def windF (night : Int) : Int → List Int → Int → Int × Int
 | _, [], _ => (0, 0)
 | last, s :: r, i => if inB s 1 (night - 1) then (if s ≤ last then (i, 2) else windF night s r (i + 1)) else (i, 7)
def sightF (night : Int) : List LSight → Int → Int × Int
 | [], _ => (0, 0)
 | s :: r, i => if inB s.second 0 (night - 1) then sightF night r (i + 1) else (i, 7)
def checkL (c : LCase) : Int × Int × Int :=
 if (wheelF c.lamp).2.2 = 0 then
  (if 2 < c.windings.length then (4, 0, 3)
  else if (windF c.lamp.night 0 c.windings 0).2 = 0 then
   (if 8 < c.sights.length then (5, 0, 3)
   else if (sightF c.lamp.night c.sights 0).2 = 0 then (0, 0, 0)
   else (5, (sightF c.lamp.night c.sights 0).1, (sightF c.lamp.night c.sights 0).2))
  else (4, (windF c.lamp.night 0 c.windings 0).1, (windF c.lamp.night 0 c.windings 0).2))
 else wheelF c.lamp
set_option maxHeartbeats 1000000 in
theorem la15 (c : LCase) : FnV Tryz.prog 65 [c.d] (tri (checkL c)) := by
 refine fnV_of mixed tysOk Tryz.func65 rfl (ft := ft65) 1 (by decide +kernel) (by rfl) fun {σ} Y st => ?_
 conv=>whnf
 refine CallA_v (la60 c.lamp) rfl rfl ?_
 conv=>whnf
 unfold checkL
 refine brk_i (fun h1 => ?_) (fun h1 => ?_)
 ·have h1 : ¬ (wheelF c.lamp).2.2 = 0 := by simpa using h1
  conv=>whnf
  rw [if_neg h1]
  exact RetA_view 0 rfl ⟨⟨rfl, rfl⟩, rfl⟩
 have h1 : (wheelF c.lamp).2.2 = 0 := by simpa using h1
 rw [if_pos h1]
 have hR := wheel_ok h1
 have hn := hR.night
 conv=>whnf
 refine brk_i (fun h2 => ?_) (fun h2 => ?_)
 ·have h2 : 2 < c.windings.length := by have := of_decide_eq_true h2; simp at this; omega
  conv=>whnf
  rw [if_pos h2]
  exact RetA_view 0 rfl ⟨⟨rfl, rfl⟩, rfl⟩
 have h2 : ¬ 2 < c.windings.length := by have := of_decide_eq_false h2; simp at this; omega
 rw [if_neg h2]
 conv=>whnf
 refine LoopA_i (T := tys) tysOk (by exact drawsB_spec mixed tysOk (by decide +kernel)) c.windings (fun i (last : Int) => ⟨[(1, .ptr 1 0), (5, .d (i64 last)), (27, .d (intsD c.windings)), (28, .d (i64 c.windings.length)), (29, .d (i64 i))], [(1, .box (.dd c.cells))], st⟩) (fun i r last => windF c.lamp.night 0 c.windings 0 = windF c.lamp.night last r i) 0 (Wk.sub ⟨(by first | rfl | (simp only [List.length_map]; rfl) | simp [PX.get]), (by first | rfl | (simp only [List.length_map]; rfl) | simp [PX.get]), (by first | rfl | (simp only [List.length_map]; rfl) | simp [PX.get]), (by first | rfl | (simp only [List.length_map]; rfl) | simp [PX.get]), (by first | rfl | (simp only [List.length_map]; rfl) | simp [PX.get]), trivial⟩ ⟨(by first | rfl | (simp only [List.length_map]; rfl) | simp [PX.get]), trivial⟩) rfl ?_ ?_
 ·intro i s r last hx hi hr he
  rw [windF] at he
  conv=>whnf
  refine brk_i (fun _ => ?_) (fun h => absurd hi (by simpa using h))
  conv=>whnf
  refine elemK_nat hx ?_
  conv=>whnf
  refine arith_in (wrap_i64 (by (try dsimp only); omega)) ?_
  conv=>whnf
  refine CallA_view (fn51_1 1 (c.lamp.night - 1) s) rfl 1 rfl ?_
  conv=>whnf
  by_cases h3 : inB s 1 (c.lamp.night - 1) = true
  case neg =>
   have h3 : inB s 1 (c.lamp.night - 1) = false := by simpa using h3
   rw [h3] at he ⊢
   rw [if_neg (by simp)] at he
   conv=>whnf
   rw [he]
   exact RetA_view 0 rfl ⟨⟨rfl, rfl⟩, rfl⟩
  rw [h3] at he ⊢
  rw [if_pos rfl] at he
  conv=>whnf
  refine brk_i (fun h4 => ?_) (fun h4 => ?_)
  ·have h4 : s ≤ last := by simpa using h4
   rw [if_pos h4] at he
   conv=>whnf
   rw [he]
   exact RetA_view 0 rfl ⟨⟨rfl, rfl⟩, rfl⟩
  have h4 : ¬ s ≤ last := by simpa using h4
  rw [if_neg h4] at he
  conv=>whnf
  refine arith_in (wrap_i64 (by (try dsimp only); omega)) ?_
  conv=>whnf
  exact ⟨s, by simpa using he, (Wk.sub ⟨(by first | rfl | (simp only [List.length_map]; rfl) | simp [PX.get]), (by first | rfl | (simp only [List.length_map]; rfl) | simp [PX.get]), (by first | rfl | (simp only [List.length_map]; rfl) | simp [PX.get]), (by first | rfl | (simp only [List.length_map]; rfl) | simp [PX.get]), (by first | rfl | (simp only [List.length_map]; rfl) | simp [PX.get]), trivial⟩ ⟨(by first | rfl | (simp only [List.length_map]; rfl) | simp [PX.get]), trivial⟩)⟩
 ·intro last he
  simp only [windF] at he
  conv=>whnf
  refine brk_i (fun h => absurd h (by simp)) (fun _ => ?_)
  rw [he]
  simp only [if_true]
  conv=>whnf
  refine brk_i (fun h2 => ?_) (fun h2 => ?_)
  ·have h2 : 8 < c.sights.length := by have := of_decide_eq_true h2; simp at this; omega
   conv=>whnf
   rw [if_pos h2]
   exact RetA_view 0 rfl ⟨⟨rfl, rfl⟩, rfl⟩
  have h2 : ¬ 8 < c.sights.length := by have := of_decide_eq_false h2; simp at this; omega
  rw [if_neg h2]
  conv=>whnf
  refine LoopA_i (T := tys) tysOk (by exact drawsB_spec mixed tysOk (by decide +kernel)) c.sights (fun i (_ : Unit) => ⟨[(1, .ptr 1 0), (55, .d (sightsD c.sights)), (56, .d (i64 c.sights.length)), (57, .d (i64 i))], [(1, .box (.dd c.cells))], st⟩) (fun i r _ => sightF c.lamp.night c.sights 0 = sightF c.lamp.night r i) () (Wk.sub ⟨(by first | rfl | (simp only [List.length_map]; rfl) | simp [PX.get]), (by first | rfl | (simp only [List.length_map]; rfl) | simp [PX.get]), (by first | rfl | (simp only [List.length_map]; rfl) | simp [PX.get]), (by first | rfl | (simp only [List.length_map]; rfl) | simp [PX.get]), trivial⟩ ⟨(by first | rfl | (simp only [List.length_map]; rfl) | simp [PX.get]), trivial⟩) rfl ?_ ?_
  ·intro i s r _ hx hi hr he
   rw [sightF] at he
   conv=>whnf
   refine brk_i (fun _ => ?_) (fun h => absurd hi (by simpa using h))
   conv=>whnf
   refine elemK_nat hx ?_
   conv=>whnf
   refine arith_in (wrap_i64 (by (try dsimp only); omega)) ?_
   conv=>whnf
   refine CallA_view (fn51_1 0 (c.lamp.night - 1) s.second) rfl 1 rfl ?_
   conv=>whnf
   by_cases h3 : inB s.second 0 (c.lamp.night - 1) = true
   case neg =>
    have h3 : inB s.second 0 (c.lamp.night - 1) = false := by simpa using h3
    rw [h3] at he ⊢
    rw [if_neg (by simp)] at he
    conv=>whnf
    rw [he]
    exact RetA_view 0 rfl ⟨⟨rfl, rfl⟩, rfl⟩
   rw [h3] at he ⊢
   rw [if_pos rfl] at he
   conv=>whnf
   refine arith_in (wrap_i64 (by (try dsimp only); omega)) ?_
   conv=>whnf
   exact ⟨(), by simpa using he, (Wk.sub ⟨(by first | rfl | (simp only [List.length_map]; rfl) | simp [PX.get]), (by first | rfl | (simp only [List.length_map]; rfl) | simp [PX.get]), (by first | rfl | (simp only [List.length_map]; rfl) | simp [PX.get]), (by first | rfl | (simp only [List.length_map]; rfl) | simp [PX.get]), trivial⟩ ⟨(by first | rfl | (simp only [List.length_map]; rfl) | simp [PX.get]), trivial⟩)⟩
  ·intro _ he
   simp only [sightF] at he
   conv=>whnf
   refine brk_i (fun h => absurd h (by simp)) (fun _ => ?_)
   rw [he]
   simp only [if_true]
   conv=>whnf
   exact RetA_view 0 rfl ⟨⟨rfl, rfl⟩, rfl⟩
end Go.PX
namespace Go.PX
open Go.Proofs
structure LPhase where
 flash : Span
 dark : Span
 deriving DecidableEq
structure LLight where
 name : ByteArray
 phases : List LPhase
 deriving DecidableEq
def LPhase.cells (p : LPhase) : List D := [i64 p.flash.lo, i64 p.flash.hi, i64 p.dark.lo, i64 p.dark.hi]
def phasesD (l : List LPhase) : D := .vs (l.map LPhase.cells)
def LLight.cells (x : LLight) : List D := [.str x.name, phasesD x.phases]
def LLight.d (x : LLight) : D := .agg x.cells
def lightsD (l : List LLight) : D := .vs (l.map LLight.cells)
theorem la105 (l : List LLight) (g : FuncId) (caps : List D) (p : LLight → Bool) (hl : l.length < 4000000000000000000) (hp : ∀ x ∈ l, FnV Tryz.prog g (.agg x.cells :: caps) (.bool (p x))) :
  FnV Tryz.prog 112 [lightsD l, .clo g caps] (i64 (indexOf p l 0)) := by
 refine fnV_of mixed tysOk Tryz.func112 rfl (ft := ft112) 2 (by decide +kernel) (by rfl) fun {σ} Y st => ?_
 conv=>whnf
 refine LoopA_i (T := tys) tysOk (by exact drawsB_spec mixed tysOk (by decide +kernel)) l (fun i (_ : Unit) => ⟨[(0, .d (lightsD l)), (1, .d (.clo g caps)), (7, .d (i64 l.length)), (8, .d (i64 i))], [], st⟩) (fun i r _ => indexOf p l 0 = indexOf p r i) () (Wk.sub ⟨(by first | rfl | (simp only [List.length_map]; rfl) | simp [PX.get]), (by first | rfl | (simp only [List.length_map]; rfl) | simp [PX.get]), (by first | rfl | (simp only [List.length_map]; rfl) | simp [PX.get]), (by first | rfl | (simp only [List.length_map]; rfl) | simp [PX.get]), trivial⟩ trivial) rfl ?_ ?_
 ·intro i x r _ hx hi hr he
  rw [indexOf] at he
  conv=>whnf
  refine brk_i (fun _ => ?_) (fun h => absurd hi (by simpa using h))
  conv=>whnf
  refine elemK_nat hx ?_
  conv=>whnf
  refine CallA_v (hp x (List.mem_of_getElem? hx)) rfl rfl ?_
  conv=>whnf
  refine brk_i (fun h1 => ?_) (fun h1 => ?_)
  ·conv=>whnf
   rw [he, if_pos h1]
   exact RetA_view 0 rfl ⟨⟨rfl, rfl⟩, rfl⟩
  ·rw [if_neg (by simp [h1])] at he
   conv=>whnf
   refine arith_in (wrap_i64 (by (try dsimp only); omega)) ?_
   conv=>whnf
   exact ⟨(), he, (Wk.sub ⟨(by first | rfl | (simp only [List.length_map]; rfl) | simp [PX.get]), (by first | rfl | (simp only [List.length_map]; rfl) | simp [PX.get]), (by first | rfl | (simp only [List.length_map]; rfl) | simp [PX.get]), (by first | rfl | (simp only [List.length_map]; rfl) | simp [PX.get]), trivial⟩ trivial)⟩
 ·intro _ he
  conv=>whnf
  refine brk_i (fun h => absurd h (by simp)) (fun _ => ?_)
  conv=>whnf
  rw [he]
  exact RetA_view 0 rfl ⟨⟨rfl, rfl⟩, rfl⟩
theorem la65 (l : List LLight) (g : FuncId) (caps : List D) (p : LLight → Bool) (hl : l.length < 4000000000000000000) (hp : ∀ x ∈ l, FnV Tryz.prog g (.agg x.cells :: caps) (.bool (p x))) :
  FnV Tryz.prog 82 [lightsD l, .clo g caps] (.bool (l.any p)) := by
 refine fnV_of mixed tysOk Tryz.func82 rfl (ft := ft82) 2 (by decide +kernel) (by rfl) fun {σ} Y st => ?_
 conv=>whnf
 refine CallA_v (la105 l g caps p hl hp) rfl rfl ?_
 conv=>whnf
 refine RetA_view 0 rfl ⟨⟨?_, rfl⟩, rfl⟩
 rw [← indexOf_any p l 0 (by omega)]; rfl
theorem la106 (l : List LPhase) (g : FuncId) (caps : List D) (p : LPhase → Bool) (hl : l.length < 4000000000000000000) (hp : ∀ x ∈ l, FnV Tryz.prog g (.agg x.cells :: caps) (.bool (p x))) :
  FnV Tryz.prog 113 [phasesD l, .clo g caps] (i64 (indexOf p l 0)) := by
 refine fnV_of mixed tysOk Tryz.func113 rfl (ft := ft113) 2 (by decide +kernel) (by rfl) fun {σ} Y st => ?_
 conv=>whnf
 refine LoopA_i (T := tys) tysOk (by exact drawsB_spec mixed tysOk (by decide +kernel)) l (fun i (_ : Unit) => ⟨[(0, .d (phasesD l)), (1, .d (.clo g caps)), (7, .d (i64 l.length)), (8, .d (i64 i))], [], st⟩) (fun i r _ => indexOf p l 0 = indexOf p r i) () (Wk.sub ⟨(by first | rfl | (simp only [List.length_map]; rfl) | simp [PX.get]), (by first | rfl | (simp only [List.length_map]; rfl) | simp [PX.get]), (by first | rfl | (simp only [List.length_map]; rfl) | simp [PX.get]), (by first | rfl | (simp only [List.length_map]; rfl) | simp [PX.get]), trivial⟩ trivial) rfl ?_ ?_
 ·intro i x r _ hx hi hr he
  rw [indexOf] at he
  conv=>whnf
  refine brk_i (fun _ => ?_) (fun h => absurd hi (by simpa using h))
  conv=>whnf
  refine elemK_nat hx ?_
  conv=>whnf
  refine CallA_v (hp x (List.mem_of_getElem? hx)) rfl rfl ?_
  conv=>whnf
  refine brk_i (fun h1 => ?_) (fun h1 => ?_)
  ·conv=>whnf
   rw [he, if_pos h1]
   exact RetA_view 0 rfl ⟨⟨rfl, rfl⟩, rfl⟩
  ·rw [if_neg (by simp [h1])] at he
   conv=>whnf
   refine arith_in (wrap_i64 (by (try dsimp only); omega)) ?_
   conv=>whnf
   exact ⟨(), he, (Wk.sub ⟨(by first | rfl | (simp only [List.length_map]; rfl) | simp [PX.get]), (by first | rfl | (simp only [List.length_map]; rfl) | simp [PX.get]), (by first | rfl | (simp only [List.length_map]; rfl) | simp [PX.get]), (by first | rfl | (simp only [List.length_map]; rfl) | simp [PX.get]), trivial⟩ trivial)⟩
 ·intro _ he
  conv=>whnf
  refine brk_i (fun h => absurd h (by simp)) (fun _ => ?_)
  conv=>whnf
  rw [he]
  exact RetA_view 0 rfl ⟨⟨rfl, rfl⟩, rfl⟩
theorem la67 (l : List LPhase) (g : FuncId) (caps : List D) (p : LPhase → Bool) (hl : l.length < 4000000000000000000) (hp : ∀ x ∈ l, FnV Tryz.prog g (.agg x.cells :: caps) (.bool (p x))) :
  FnV Tryz.prog 84 [phasesD l, .clo g caps] (.bool (l.any p)) := by
 refine fnV_of mixed tysOk Tryz.func84 rfl (ft := ft84) 2 (by decide +kernel) (by rfl) fun {σ} Y st => ?_
 conv=>whnf
 refine CallA_v (la106 l g caps p hl hp) rfl rfl ?_
 conv=>whnf
 refine RetA_view 0 rfl ⟨⟨?_, rfl⟩, rfl⟩
 rw [← indexOf_any p l 0 (by omega)]; rfl
theorem la66 (y x : LLight) : FnV Tryz.prog 83 [.agg y.cells, .ref x.cells] (.bool (decide (y.name = x.name))) := by
 refine fnV_of mixed tysOk Tryz.func83 rfl (ft := ft83) 2 (by decide +kernel) (by rfl) fun {σ} Y st => ?_
 conv=>whnf
 exact RetA_view 0 rfl ⟨⟨rfl, rfl⟩, rfl⟩
theorem fn51_4 (lo hi a b c d : Int) : FnV Tryz.prog 70 [i64 lo, i64 hi, .vs [[i64 a], [i64 b], [i64 c], [i64 d]]] (.bool (!((inB a lo hi && inB b lo hi) && (inB c lo hi && inB d lo hi)))) := by
 exact FnV.cast (fn51 lo hi [a, b, c, d] (by simp)) (by simp only [List.any_cons, List.any_nil, out_eq]; cases inB a lo hi <;> cases inB b lo hi <;> cases inB c lo hi <;> cases inB d lo hi <;> rfl)
def phaseIn (p : LPhase) : Bool := (inB p.flash.lo 1 200 && inB p.flash.hi 1 200) && (inB p.dark.lo 1 200 && inB p.dark.hi 1 200)
def phaseUp (p : LPhase) : Bool := decide (p.flash.lo > p.flash.hi) || decide (p.dark.lo > p.dark.hi)
theorem la68 (p : LPhase) : FnV Tryz.prog 85 [.agg p.cells] (.bool (!phaseIn p)) := by
 refine fnV_of mixed tysOk Tryz.func85 rfl (ft := ft85) 1 (by decide +kernel) (by rfl) fun {σ} Y st => ?_
 conv=>whnf
 refine CallA_view (fn51_4 1 200 p.flash.lo p.flash.hi p.dark.lo p.dark.hi) rfl 1 rfl ?_
 conv=>whnf
 exact RetA_view 0 rfl ⟨⟨rfl, rfl⟩, rfl⟩
theorem la69 (p : LPhase) : FnV Tryz.prog 86 [.agg p.cells] (.bool (phaseUp p)) := by
 refine fnV_of mixed tysOk Tryz.func86 rfl (ft := ft86) 1 (by decide +kernel) (by rfl) fun {σ} Y st => ?_
 conv=>whnf
 unfold phaseUp
 refine brk_i (fun h1 => ?_) (fun h1 => ?_)
 ·rw [h1]
  conv=>whnf
  exact RetA_view 0 rfl ⟨⟨rfl, rfl⟩, rfl⟩
 ·rw [h1]
  conv=>whnf
  exact RetA_view 0 rfl ⟨⟨rfl, rfl⟩, rfl⟩
def phasesF (l : List LPhase) : Int :=
 if inB l.length 1 3 then (if l.any (fun p => !phaseIn p) then 7 else if l.any phaseUp then 2 else 0) else 3
def lightF (b : List LLight) (x : LLight) : Int :=
 if nameF x.name then (if b.any (fun y => decide (y.name = x.name)) then 5 else phasesF x.phases) else 6
def lightsF (l : List LLight) : Int × Int :=
 if inB l.length 1 6 then firstE lightF [] l 0 else (0, 3)
set_option maxHeartbeats 1000000 in
theorem la17 (l : List LLight) : FnV Tryz.prog 34 [lightsD l] (.tup [i64 (lightsF l).1, i64 (lightsF l).2]) := by
 refine fnV_of mixed tysOk Tryz.func34 rfl (ft := ft34) 1 (by decide +kernel) (by rfl) fun {σ} Y st => ?_
 conv=>whnf
 refine CallA_view (fn51_1 1 6 l.length) rfl 1 (by simp; rfl) ?_
 conv=>whnf
 unfold lightsF
 by_cases h0 : inB l.length 1 6 = true
 case neg =>
  have h0 : inB l.length 1 6 = false := by simpa using h0
  rw [h0]
  conv=>whnf
  exact RetA_view 0 rfl ⟨⟨rfl, rfl⟩, rfl⟩
 rw [h0]
 rw [inB_iff] at h0
 simp only [if_true]
 conv=>whnf
 refine LoopA_i (T := tys) tysOk (by exact drawsB_spec mixed tysOk (by decide +kernel)) l (fun i (_ : Unit) => ⟨[(0, .d (lightsD l)), (10, .d (lightsD l)), (11, .d (i64 l.length)), (12, .d (i64 i))], [], st⟩) (fun i r _ => firstE lightF [] l 0 = firstE lightF (l.take i) r i) () (Wk.sub ⟨(by first | rfl | (simp only [List.length_map]; rfl) | simp [PX.get]), (by first | rfl | (simp only [List.length_map]; rfl) | simp [PX.get]), (by first | rfl | (simp only [List.length_map]; rfl) | simp [PX.get]), (by first | rfl | (simp only [List.length_map]; rfl) | simp [PX.get]), trivial⟩ trivial) rfl ?_ ?_
 ·intro i x r _ hx hi hr he
  rw [firstE] at he
  have htk : l.take (i + 1) = l.take i ++ [x] := by rw [List.take_succ, hx]; rfl
  conv=>whnf
  refine brk_i (fun _ => ?_) (fun h => absurd hi (by simpa using h))
  conv=>whnf
  refine elemK_nat hx ?_
  conv=>whnf
  refine CallA_v (fn47 x.name) rfl rfl ?_
  conv=>whnf
  refine brk_i (fun h4 => ?_) (fun h4 => ?_)
  ·conv=>whnf
   have h4 : nameF x.name = false := by simpa using h4
   rw [he]
   simp only [lightF, h4]
   exact RetA_view 0 rfl ⟨⟨rfl, rfl⟩, rfl⟩
  have h4 : nameF x.name = true := by simpa using h4
  conv=>whnf
  refine chk_i (by simp; omega) ?_
  conv=>whnf
  refine chk_i (by cases l <;> rfl) ?_
  conv=>whnf
  refine CallA_view (ds := [lightsD (l.take i), .clo 83 [.ref x.cells]]) (la65 (l.take i) 83 [.ref x.cells] (fun y => decide (y.name = x.name)) (by simp; omega) fun y _ => la66 y x) rfl 1 (by show some _ = some _; simp [lightsD, List.map_take]; rfl) ?_
  conv=>whnf
  refine brk_i (fun h5 => ?_) (fun h5 => ?_)
  ·conv=>whnf
   rw [he]
   simp only [lightF, h4, h5]
   exact RetA_view 0 rfl ⟨⟨rfl, rfl⟩, rfl⟩
  have hlf : lightF (l.take i) x = phasesF x.phases := by simp only [lightF, h4, h5]; rfl
  rw [hlf] at he
  conv=>whnf
  refine CallA_view (fn51_1 1 3 x.phases.length) rfl 1 (by simp; rfl) ?_
  conv=>whnf
  by_cases h6 : inB x.phases.length 1 3 = true
  case neg =>
   have h6 : inB x.phases.length 1 3 = false := by simpa using h6
   rw [h6]
   conv=>whnf
   rw [he]
   simp only [phasesF, h6]
   exact RetA_view 0 rfl ⟨⟨rfl, rfl⟩, rfl⟩
  rw [h6]
  have hpl : x.phases.length < 4000000000000000000 := by rw [inB_iff] at h6; omega
  conv=>whnf
  refine CallA_v (la67 x.phases 85 [] (fun p => !phaseIn p) hpl fun p _ => la68 p) rfl rfl ?_
  conv=>whnf
  by_cases h7 : x.phases.any (fun p => !phaseIn p) = true
  ·rw [h7]
   conv=>whnf
   rw [he]
   simp only [phasesF, h6, h7]
   exact RetA_view 0 rfl ⟨⟨rfl, rfl⟩, rfl⟩
  have h7 : x.phases.any (fun p => !phaseIn p) = false := by simpa using h7
  rw [h7]
  conv=>whnf
  refine CallA_v (la67 x.phases 86 [] phaseUp hpl fun p _ => la69 p) rfl rfl ?_
  conv=>whnf
  by_cases h8 : x.phases.any phaseUp = true
  ·rw [h8]
   conv=>whnf
   rw [he]
   simp only [phasesF, h6, h7, h8]
   exact RetA_view 0 rfl ⟨⟨rfl, rfl⟩, rfl⟩
  have h8 : x.phases.any phaseUp = false := by simpa using h8
  rw [h8]
  have hs : phasesF x.phases = 0 := by simp [phasesF, h6, h7, h8]
  rw [if_pos hs, ← htk] at he
  conv=>whnf
  refine arith_in (wrap_i64 (by (try dsimp only); omega)) ?_
  conv=>whnf
  exact ⟨(), he, (Wk.sub ⟨(by first | rfl | (simp only [List.length_map]; rfl) | simp [PX.get]), (by first | rfl | (simp only [List.length_map]; rfl) | simp [PX.get]), (by first | rfl | (simp only [List.length_map]; rfl) | simp [PX.get]), (by first | rfl | (simp only [List.length_map]; rfl) | simp [PX.get]), trivial⟩ trivial)⟩
 intro _ he
 rw [List.take_length, firstE] at he
 rw [he]
 conv=>whnf
 refine brk_i (fun h => absurd h (by simp)) (fun _ => ?_)
 conv=>whnf
 exact RetA_view 0 rfl ⟨⟨rfl, rfl⟩, rfl⟩
end Go.PX
namespace Go.PX
open Go.Proofs
noncomputable def bsOf (p : Nat → Bool) : List D := Classical.choose (⟨(List.range 120).map fun k => .bool (p k), rfl⟩ : ∃ l, l = (List.range 120).map fun k => D.bool (p k))
theorem bsOf_eq (p : Nat → Bool) : bsOf p = (List.range 120).map fun k => .bool (p k) := Classical.choose_spec (⟨(List.range 120).map fun k => .bool (p k), rfl⟩ : ∃ l, l = (List.range 120).map fun k => D.bool (p k))
theorem bsOf_len (p : Nat → Bool) : (bsOf p).length = 120 := by rw [bsOf_eq]; simp
theorem bsOf_get (p : Nat → Bool) {n : Nat} (h : n < 120) : (bsOf p)[n]? = some (.bool (p n)) := by rw [bsOf_eq]; simp [h]
theorem bsOf_set (p : Nat → Bool) {n : Nat} (h : n < 120) : (bsOf p).set n (.bool true) = bsOf fun k => p k || k == n := by
 rw [bsOf_eq, bsOf_eq]
 apply List.ext_getElem?
 intro i
 rw [List.getElem?_set]
 by_cases hi : n = i
 ·subst hi; simp [h]
 ·simp [hi, Ne.symm hi]
  by_cases h2 : i < 120
  ·simp [h2]; intro e; exact absurd e.symm hi
  ·simp [h2]
theorem forceLD_i {l : List D} {K : List D → Prop} (h : K l) : forceLD l K := by rw [forceLD_eq]; exact h
def openB (x : LLamp) (k : Int) : Bool := x.lit.any fun s => inB k s.lo s.hi
noncomputable def lampC (x : LLamp) : List D := x.cells ++ bsOf fun (k : Nat) => openB x k
def openU (x : LLamp) (i : Nat) (k : Nat) : Bool := (x.lit.take i).any fun s => inB k s.lo s.hi
theorem openU_succ {x : LLamp} {i : Nat} {s : Span} (h : x.lit[i]? = some s) (k : Nat) : openU x (i + 1) k = (openU x i k || inB k s.lo s.hi) := by
 unfold openU
 rw [List.take_succ, h]
 simp
theorem splice_bs (x : LLamp) (p : Nat → Bool) {n : Nat} (h : n < 120) : (x.cells ++ bsOf p).take (8 + n) ++ [D.bool true] ++ (x.cells ++ bsOf p).drop (8 + n + 1) = x.cells ++ bsOf fun k => p k || k == n := by
 have hc : x.cells.length = 8 := rfl
 rw [← bsOf_set p h, List.set_eq_take_append_cons_drop, if_pos (by rw [bsOf_len]; exact h)]
 rw [List.take_append, List.drop_append, hc]
 rw [List.take_of_length_le (by omega), List.drop_eq_nil_of_le (by omega)]
 have e1 : 8 + n - 8 = n := by omega
 have e2 : 8 + n + 1 - 8 = n + 1 := by omega
 rw [e1, e2]
 simp
set_option maxHeartbeats 1000000 in
theorem la80 (x : LLamp) (hR : LampR x) : FnV Tryz.prog 50 [x.d] (.ref (lampC x)) := by
 refine fnV_of mixed tysOk Tryz.func50 rfl (ft := ft50) 1 (by decide +kernel) (by rfl) fun {σ} Y st => ?_
 conv=>whnf
 refine LoopA_i (T := tys) tysOk (by exact drawsB_spec mixed tysOk (by decide +kernel)) x.lit (fun i (_ : Unit) => ⟨[(1, .ptr 1 0), (3, .ptr 9 0), (11, .d (spansD x.lit)), (12, .d (i64 x.lit.length)), (13, .d (i64 i))], [(1, .box (.dd x.cells)), (9, .box (.dd (x.cells ++ bsOf (openU x i))))], st⟩) (fun i r _ => ∀ s ∈ r, s ∈ x.lit) () ?wk (fun s h => h) ?_ ?_
 case wk =>
  refine Wk.sub ⟨rfl, rfl, rfl, by simp [PX.get], rfl, trivial⟩ ⟨rfl, ?_, trivial⟩
  rw [bsOf_eq]
  rfl
 ·intro i s r _ hx hi hr hs
  obtain ⟨h1, h2, h3⟩ := hR.lit s (hs s (by simp))
  have hd := hR.drum
  conv=>whnf
  refine brk_i (fun _ => ?_) (fun h => absurd hi (by simpa using h))
  conv=>whnf
  repeat (refine forceLD_i ?_; conv=>whnf)
  refine elemK_nat hx ?_
  conv=>whnf
  repeat (refine forceLD_i ?_; conv=>whnf)
  refine LoopA_p (T := tys) tysOk (by exact drawsB_spec mixed tysOk (by decide +kernel)) (α := Nat)
   (fun k => ⟨[(1, .ptr 1 0), (3, .ptr 9 0), (5, .ptr 5 0), (6, .d (i64 (s.lo + (k : Int)))), (11, .d (spansD x.lit)), (12, .d (i64 x.lit.length)), (13, .d (i64 i))], [(1, .box (.dd x.cells)), (9, .box (.dd (x.cells ++ bsOf fun j => openU x i j || inB j s.lo (s.lo + k - 1)))), (5, .box (.dd s.cells))], st⟩)
   (fun k => s.lo + k ≤ s.hi + 1) (fun k => (s.hi + 1 - s.lo).toNat - k) 0 ?wk (by omega) ?_
  case wk =>
   refine Wk.sub ⟨rfl, rfl, rfl, by simp [PX.get], rfl, rfl, rfl, trivial⟩ ⟨rfl, ?_, rfl, trivial⟩
   have : (fun (j : Nat) => openU x i j || inB j s.lo (s.lo + (0 : Nat) - 1)) = openU x i := by
    funext j
    have : inB (j : Int) s.lo (s.lo + (0 : Nat) - 1) = false := by
     rw [Bool.eq_false_iff]; intro h; rw [inB_iff] at h; omega
    rw [this, Bool.or_false]
   rw [this]
   rfl
  intro k hk
  conv=>whnf
  repeat (refine forceLD_i ?_; conv=>whnf)
  refine brk_i (fun h4 => ?_) (fun h4 => ?_)
  ·have h4 : s.lo + (k : Int) ≤ s.hi := by simpa using h4
   conv=>whnf
   repeat (refine forceLD_i ?_; conv=>whnf)
   refine chk_i (by simp; omega) ?_
   conv=>whnf
   repeat (refine forceLD_i ?_; conv=>whnf)
   refine chk_i (Nat.ble_eq_true_of_le (by
    show 0 + 8 + (s.lo + (k : Int)).toNat * 1 + 1 ≤ (x.cells ++ bsOf _).length
    rw [List.length_append, bsOf_len]
    have : x.cells.length = 8 := rfl
    omega)) ?_
   conv=>whnf
   repeat (refine forceLD_i ?_; conv=>whnf)
   refine arith_in (wrap_i64 (by (try dsimp only); omega)) ?_
   conv=>whnf
   refine ⟨k + 1, by omega, by omega, Wk.sub ⟨rfl, rfl, rfl, ?_, rfl, rfl, rfl, trivial⟩ ⟨rfl, ?_, rfl, trivial⟩⟩
   ·show some (V.d (i64 (s.lo + (k : Int) + 1))) = some (V.d (i64 (s.lo + ((k + 1 : Nat) : Int))))
    rw [show s.lo + (k : Int) + 1 = s.lo + ((k + 1 : Nat) : Int) by omega]
   ·show some (Obj.box (Cells.dd ((x.cells ++ bsOf fun j => openU x i j || inB j s.lo (s.lo + k - 1)).take (0 + 8 + (s.lo + (k : Int)).toNat * 1) ++ [D.bool true] ++ (x.cells ++ bsOf fun j => openU x i j || inB j s.lo (s.lo + k - 1)).drop (0 + 8 + (s.lo + (k : Int)).toNat * 1 + 1)))) = _
    have hn : (s.lo + (k : Int)).toNat < 120 := by omega
    rw [show 0 + 8 + (s.lo + (k : Int)).toNat * 1 = 8 + (s.lo + (k : Int)).toNat by omega, splice_bs x _ hn]
    have : (fun (j : Nat) => (openU x i j || inB (j : Int) s.lo (s.lo + (k : Int) - 1)) || j == (s.lo + (k : Int)).toNat) = fun (j : Nat) => openU x i j || inB (j : Int) s.lo (s.lo + ((k + 1 : Nat) : Int) - 1) := by
     funext j
     rw [Bool.or_assoc]
     congr 1
     rw [Bool.eq_iff_iff]
     simp only [Bool.or_eq_true, inB_iff, beq_iff_eq]
     omega
    rw [this]
  ·have h4 : ¬ s.lo + (k : Int) ≤ s.hi := by simpa using h4
   conv=>whnf
   repeat (refine forceLD_i ?_; conv=>whnf)
   refine arith_in (wrap_i64 (by have := hR.lits; omega)) ?_
   conv=>whnf
   repeat (refine forceLD_i ?_; conv=>whnf)
   refine ⟨(), fun s hs2 => hs s (by simp [hs2]), Wk.sub ⟨rfl, rfl, rfl, rfl, rfl, trivial⟩ ⟨rfl, ?_, trivial⟩⟩
   have : (fun (j : Nat) => openU x i j || inB (j : Int) s.lo (s.lo + (k : Int) - 1)) = openU x (i + 1) := by
    funext j
    rw [openU_succ hx, show s.lo + (k : Int) - 1 = s.hi by omega]
   rw [← this]
   rfl
 ·intro _ _
  conv=>whnf
  repeat (refine forceLD_i ?_; conv=>whnf)
  refine brk_i (fun h => absurd h (by simp)) (fun _ => ?_)
  conv=>whnf
  repeat (refine forceLD_i ?_; conv=>whnf)
  refine RetA_view 1 (ds := [.ref (lampC x)]) ?_ ⟨⟨rfl, rfl⟩, rfl⟩
  have : openU x x.lit.length = fun (k : Nat) => openB x k := by
   funext k
   simp only [openU, openB, List.take_length]
  rw [this]
  rfl
end Go.PX
namespace Go.PX
open Go.Proofs
def nextF (x : LLamp) (at' speed since : Int) : Int := (at' + max 0 (speed - since / x.slow)) % x.drum
theorem nextF_bd {x : LLamp} (hR : LampR x) (a s n : Int) : 0 ≤ nextF x a s n ∧ nextF x a s n < x.drum := by
 have hd := hR.drum
 unfold nextF
 exact ⟨Int.emod_nonneg _ (by omega), Int.emod_lt_of_pos _ (by omega)⟩
theorem la110 (x : LLamp) (hR : LampR x) (a s n : Int) (ha : 0 ≤ a ∧ a < x.drum) (hs : 0 ≤ s ∧ s ≤ 1000) (hn : 0 ≤ n ∧ n ≤ 1000) : FnV Tryz.prog 97 [.ref (lampC x), i64 a, i64 s, i64 n] (i64 (nextF x a s n)) := by
 refine fnV_of mixed tysOk Tryz.func97 rfl (ft := ft97) 4 (by decide +kernel) (by rfl) fun {σ} Y st => ?_
 conv=>whnf
 have hd := hR.drum
 have hsl := hR.slow
 have e1 : n.tdiv x.slow = n / x.slow := Int.tdiv_eq_ediv_of_nonneg hn.1
 have b1 : 0 ≤ n / x.slow ∧ n / x.slow ≤ n := ⟨Int.ediv_nonneg hn.1 (by omega), Int.ediv_le_self _ hn.1⟩
 have e2 : (a + max 0 (s - n / x.slow)).tmod x.drum = nextF x a s n := Int.tmod_eq_emod_of_nonneg (by omega)
 refine chk_i (by simp; omega) ?_
 conv=>whnf
 refine arith_in (wrap_i64 (by rw [e1]; omega)) ?_
 conv=>whnf
 rw [e1]
 refine arith_in (wrap_i64 (by (try dsimp only); omega)) ?_
 conv=>whnf
 refine arith_in (wrap_i64 (by (try dsimp only); omega)) ?_
 conv=>whnf
 refine chk_i (by simp; omega) ?_
 conv=>whnf
 rw [e2]
 exact RetA_view 0 rfl ⟨⟨rfl, rfl⟩, rfl⟩
structure LTruth where
 start : Int
 speeds : List Int
 deriving DecidableEq
def LTruth.cells (t : LTruth) : List D := [i64 t.start, intsD t.speeds]
def LTruth.d (t : LTruth) : D := .agg t.cells
def truthE (c : LCase) (t : LTruth) : Int :=
 if t.speeds.length = c.windings.length + 1 then (if inB t.start c.lamp.start.lo c.lamp.start.hi && t.speeds.all (fun s => inB s c.lamp.speed.lo c.lamp.speed.hi) then 0 else 7) else 3
theorem la72 (c : LCase) (t : LTruth) (hw : c.windings.length ≤ 1000) : FnV Tryz.prog 66 [c.d, t.d] (i64 (truthE c t)) := by
 refine fnV_of mixed tysOk Tryz.func66 rfl (ft := ft66) 2 (by decide +kernel) (by rfl) fun {σ} Y st => ?_
 conv=>whnf
 refine arith_in (wrap_i64 (by simp only [List.length_map]; omega)) ?_
 conv=>whnf
 unfold truthE
 refine brk_i (fun h1 => ?_) (fun h1 => ?_)
 ·have h1 : ¬ t.speeds.length = c.windings.length + 1 := by
   simp at h1; omega
  conv=>whnf
  rw [if_neg h1]
  exact RetA_view 0 rfl ⟨⟨rfl, rfl⟩, rfl⟩
 have h1 : t.speeds.length = c.windings.length + 1 := by simp at h1; omega
 rw [if_pos h1]
 conv=>whnf
 refine CallA_view (fn51_1 c.lamp.start.lo c.lamp.start.hi t.start) rfl 1 rfl ?_
 conv=>whnf
 by_cases h2 : inB t.start c.lamp.start.lo c.lamp.start.hi = true
 case neg =>
  have h2 : inB t.start c.lamp.start.lo c.lamp.start.hi = false := by simpa using h2
  rw [h2]
  conv=>whnf
  exact RetA_view 0 rfl ⟨⟨rfl, rfl⟩, rfl⟩
 rw [h2]
 conv=>whnf
 refine CallA_v (fn51 c.lamp.speed.lo c.lamp.speed.hi t.speeds (by omega)) rfl rfl ?_
 have h3 : (t.speeds.any fun n => decide (n < c.lamp.speed.lo) || decide (n > c.lamp.speed.hi)) = !(t.speeds.all fun s => inB s c.lamp.speed.lo c.lamp.speed.hi) := by
  rw [List.not_all_eq_any_not]
  congr 1
  funext n
  exact out_eq _ _ n
 rw [h3]
 conv=>whnf
 cases h4 : t.speeds.all fun s => inB s c.lamp.speed.lo c.lamp.speed.hi with
 | true =>
  conv=>whnf
  exact RetA_view 0 rfl ⟨⟨rfl, rfl⟩, rfl⟩
 | false =>
  conv=>whnf
  exact RetA_view 0 rfl ⟨⟨rfl, rfl⟩, rfl⟩
def boolsD (l : List Bool) : D := .vs (l.map fun b => [.bool b])
def courseF (x : LLamp) (w sp : List Int) : Nat → Int → Int → Int → Nat → List Bool
 | 0, _, _, _, _ => []
 | k + 1, s, at', begin, n => openB x at' :: (if w[n]? = some s then courseF x w sp k (s + 1) (nextF x at' (sp.getD (n + 1) 0) 0) s (n + 1) else courseF x w sp k (s + 1) (nextF x at' (sp.getD n 0) (s - begin)) begin n)
def courseL (x : LLamp) (w : List Int) (t : LTruth) : List Bool := courseF x w t.speeds x.night.toNat 0 t.start 0 0
theorem courseF_len {x : LLamp} {w sp : List Int} : ∀ {k : Nat} {s a b : Int} {n : Nat}, (courseF x w sp k s a b n).length = k
 | 0, _, _, _, _ => rfl
 | k + 1, s, a, b, n => by
  rw [courseF]
  split <;> simp [courseF_len]
theorem lampC_get (x : LLamp) {a : Int} (ha : 0 ≤ a ∧ a < 120) : ((lampC x).drop 8)[a.toNat]? = some (.bool (openB x a)) := by
 have h : (lampC x).drop 8 = bsOf fun (k : Nat) => openB x k := rfl
 rw [h, bsOf_get _ (by omega)]
 rw [show ((a.toNat : Nat) : Int) = a by omega]
theorem lampC_at {K : D → Prop} (x : LLamp) {a : Int} (ha : 0 ≤ a ∧ a < 120) {l : List D} (hl : l = ((lampC x).drop 8).drop (a.toNat * 1)) (h : K (.bool (openB x a))) : cellK l 0 K := by
 subst hl
 refine cellK_i (.bool (openB x a)) ?_ h
 rw [List.getElem?_drop, Nat.add_zero, Nat.mul_one]
 exact lampC_get x ha
structure TruthR (c : LCase) (t : LTruth) : Prop where
 start : c.lamp.start.lo ≤ t.start ∧ t.start ≤ c.lamp.start.hi
 len : t.speeds.length = c.windings.length + 1
 speed : ∀ s ∈ t.speeds, c.lamp.speed.lo ≤ s ∧ s ≤ c.lamp.speed.hi
theorem truth_ok {c : LCase} {t : LTruth} (h : truthE c t = 0) : TruthR c t := by
 unfold truthE at h
 split at h
 case isFalse => cases h
 rename_i h1
 split at h
 case isFalse => cases h
 rename_i h2
 simp only [Bool.and_eq_true, inB_iff, List.all_eq_true] at h2
 exact ⟨h2.1, h1, fun s hs => (h2.2 s hs)⟩
set_option maxHeartbeats 1000000 in
theorem la73 (c : LCase) (t : LTruth) (hR : LampR c.lamp) (hw : c.windings.length ≤ 2) (hT : TruthR c t) : FnV Tryz.prog 67 [c.d, t.d] (boolsD (courseL c.lamp c.windings t)) := by
 refine fnV_of mixed tysOk Tryz.func67 rfl (ft := ft67) 2 (by decide +kernel) (by rfl) fun {σ} Y st => ?_
 conv=>whnf
 have hd := hR.drum
 have hn := hR.night
 have hst := hR.start
 have hspd := hR.speed
 refine CallA_v (la80 c.lamp hR) rfl rfl ?_
 conv=>whnf
 refine LoopA_p (T := tys) tysOk (by exact drawsB_spec mixed tysOk (by decide +kernel)) (α := Nat × (Int × (Int × (Nat × List Bool))))
  (fun x => ⟨[(2, .ptr 2 0), (3, .ptr 3 0), (4, .sl 48 1 0 x.2.2.2.2.length), (5, .d (.ref (lampC c.lamp))), (6, .d (i64 x.2.1)), (7, .d (i64 x.2.2.1)), (8, .d (i64 x.2.2.2.1)), (19, .d (i64 c.lamp.night)), (20, .d (i64 x.1))], [(2, .box (.dd c.cells)), (3, .box (.dd t.cells)), (48, .arr 1 (.dd (x.2.2.2.2.map fun b => [D.bool b])))], st⟩)
  (fun x => (x.1 : Int) ≤ c.lamp.night ∧ (0 ≤ x.2.1 ∧ x.2.1 < c.lamp.drum) ∧ (0 ≤ x.2.2.1 ∧ x.2.2.1 ≤ x.1) ∧ x.2.2.2.1 ≤ c.windings.length ∧ x.2.2.2.2.length = x.1 ∧ courseL c.lamp c.windings t = x.2.2.2.2 ++ courseF c.lamp c.windings t.speeds (c.lamp.night.toNat - x.1) x.1 x.2.1 x.2.2.1 x.2.2.2.1)
  (fun x => c.lamp.night.toNat - x.1) (0, (t.start, (0, (0, [])))) ?wk ?pr ?_
 case wk => exact ((Wk.born 4 48 1 rfl rfl rfl).trans (Wk.sub ⟨(by first | rfl | (simp only [List.length_map]; rfl) | simp [PX.get]), (by first | rfl | (simp only [List.length_map]; rfl) | simp [PX.get]), (by first | rfl | (simp only [List.length_map]; rfl) | simp [PX.get]), (by first | rfl | (simp only [List.length_map]; rfl) | simp [PX.get]), (by first | rfl | (simp only [List.length_map]; rfl) | simp [PX.get]), (by first | rfl | (simp only [List.length_map]; rfl) | simp [PX.get]), (by first | rfl | (simp only [List.length_map]; rfl) | simp [PX.get]), (by first | rfl | (simp only [List.length_map]; rfl) | simp [PX.get]), (by first | rfl | (simp only [List.length_map]; rfl) | simp [PX.get]), trivial⟩ ⟨(by first | rfl | (simp only [List.length_map]; rfl) | simp [PX.get]), (by first | rfl | (simp only [List.length_map]; rfl) | simp [PX.get]), (by first | rfl | (simp only [List.length_map]; rfl) | simp [PX.get]), trivial⟩))
 case pr =>
  have hts := hT.start
  refine ⟨by simp only; omega, by simp only; omega, by simp only; omega, Nat.zero_le _, rfl, ?_⟩
  simp only [courseL, List.nil_append, Nat.sub_zero]; rfl
 rintro ⟨s, a, b, n, acc⟩ ⟨h1, h2, h3, h4, h5, h6⟩
 simp only at h1 h2 h3 h4 h5 h6
 have hslen := hT.len
 have hspn : ∀ m : Nat, m ≤ c.windings.length → 1 ≤ t.speeds.getD m 0 ∧ t.speeds.getD m 0 ≤ 40 := by
  intro m hm
  have hml : m < t.speeds.length := by omega
  have e : t.speeds.getD m 0 = t.speeds[m] := by simp [List.getD_eq_getElem?_getD, hml]
  have := hT.speed _ (List.getElem_mem hml)
  rw [e]; omega
 have hspg : ∀ m : Nat, m ≤ c.windings.length → (t.speeds.map fun n => [i64 n])[m]? = some [i64 (t.speeds.getD m 0)] := by
  intro m hm
  have hml : m < t.speeds.length := by omega
  simp [List.getD_eq_getElem?_getD, hml]
 conv=>whnf
 refine brk_i (fun h7 => ?_) (fun h7 => ?_)
 case refine_2 =>
  have h7 : ¬ (s : Int) < c.lamp.night := by have := of_decide_eq_false h7; simpa using this
  rw [show c.lamp.night.toNat - s = 0 by omega, courseF, List.append_nil] at h6
  conv=>whnf
  rw [h6]
  exact RetA_sl rfl (by simp) ⟨⟨rfl, rfl⟩, rfl⟩
 have h7 : (s : Int) < c.lamp.night := by have := of_decide_eq_true h7; simpa using this
 obtain ⟨k, hk⟩ : ∃ k, c.lamp.night.toNat - s = k + 1 := ⟨c.lamp.night.toNat - s - 1, by omega⟩
 have hk2 : c.lamp.night.toNat - (s + 1) = k := by omega
 rw [hk, courseF] at h6
 have hs1 : ((s : Int) + 1) = ((s + 1 : Nat) : Int) := by omega
 conv=>whnf
 refine brk_i (fun h8 => ?_) (fun h8 => ?_)
 ·have h8 : n < c.windings.length := by have := of_decide_eq_true h8; simp at this; omega
  conv=>whnf
  refine elemK_i [i64 c.windings[n]] ⟨by omega, by simp [h8]⟩ ?_
  conv=>whnf
  refine brk_i (fun h9 => ?_) (fun h9 => ?_)
  ·have h9 : c.windings[n] = s := by simpa using h9
   rw [if_pos (by simp [h8, h9])] at h6
   conv=>whnf
   refine arith_to (((n + 1 : Nat) : Int)) (by (try dsimp only); omega) (wrap_i64 (by (try dsimp only); omega)) ?_
   conv=>whnf
   refine chk_i (by simp; omega) ?_
   conv=>whnf
   refine lampC_at c.lamp (a := a) (by omega) rfl ?_
   conv=>whnf
   refine ownK_whole rfl ?_
   conv=>whnf
   refine ownK_whole (by simp [Els.len]) ?_
   conv=>whnf
   refine chk_i (decide_eq_true (by
    show ((acc.map fun b => [D.bool b]).length + 1) * 1 ≤ 140737488355328
    rw [List.length_map]; omega)) ?_
   conv=>whnf
   refine elemK_i [i64 (t.speeds.getD (n + 1) 0)] ⟨by omega, hspg (n + 1) (by omega)⟩ ?_
   conv=>whnf
   refine arith_to (0) (by first | omega | (dsimp only; done) | (dsimp only; omega)) (wrap_i64 (by (try dsimp only); omega)) ?_
   conv=>whnf
   refine CallA_v (la110 c.lamp hR a (t.speeds.getD (n + 1) 0) (0) h2 (by have := hspn (n + 1) (by omega); omega) (by omega)) rfl rfl ?_
   conv=>whnf
   refine arith_to ((s + 1 : Nat) : Int) (by omega) (wrap_i64 (by omega)) ?_
   conv=>whnf
   refine ⟨(s + 1, (nextF c.lamp a (t.speeds.getD (n + 1) 0) (0), ((s : Int), (n + 1, acc ++ [openB c.lamp a])))), by simp only; omega, ⟨by simp only; omega, nextF_bd hR _ _ _, by simp only; omega, by simp only; omega, by simp [h5], ?_⟩, Wk.sub ⟨rfl, rfl, ?_, rfl, rfl, rfl, rfl, rfl, rfl, trivial⟩ ⟨rfl, rfl, ?_, trivial⟩⟩
   ·simp only [hk2]
    rw [h6, List.append_assoc]
    rfl
   ·simp [PX.get, Els.len]
   ·simp [PX.get, Els.app]
  ·have h9 : ¬ c.windings[n] = s := by simpa using h9
   rw [if_neg (by simp [h8, h9])] at h6
   conv=>whnf
   refine chk_i (by simp; omega) ?_
   conv=>whnf
   refine lampC_at c.lamp (a := a) (by omega) rfl ?_
   conv=>whnf
   refine ownK_whole rfl ?_
   conv=>whnf
   refine ownK_whole (by simp [Els.len]) ?_
   conv=>whnf
   refine chk_i (decide_eq_true (by
    show ((acc.map fun b => [D.bool b]).length + 1) * 1 ≤ 140737488355328
    rw [List.length_map]; omega)) ?_
   conv=>whnf
   refine elemK_i [i64 (t.speeds.getD (n) 0)] ⟨by omega, hspg (n) (by omega)⟩ ?_
   conv=>whnf
   refine arith_to (s - b) (by first | omega | (dsimp only; done) | (dsimp only; omega)) (wrap_i64 (by (try dsimp only); omega)) ?_
   conv=>whnf
   refine CallA_v (la110 c.lamp hR a (t.speeds.getD (n) 0) (s - b) h2 (by have := hspn (n) (by omega); omega) (by omega)) rfl rfl ?_
   conv=>whnf
   refine arith_to ((s + 1 : Nat) : Int) (by omega) (wrap_i64 (by omega)) ?_
   conv=>whnf
   refine ⟨(s + 1, (nextF c.lamp a (t.speeds.getD (n) 0) (s - b), (b, (n, acc ++ [openB c.lamp a])))), by simp only; omega, ⟨by simp only; omega, nextF_bd hR _ _ _, by simp only; omega, by simp only; omega, by simp [h5], ?_⟩, Wk.sub ⟨rfl, rfl, ?_, rfl, rfl, rfl, rfl, rfl, rfl, trivial⟩ ⟨rfl, rfl, ?_, trivial⟩⟩
   ·simp only [hk2]
    rw [h6, List.append_assoc]
    rfl
   ·simp [PX.get, Els.len]
   ·simp [PX.get, Els.app]
 ·have h8 : ¬ n < c.windings.length := by have := of_decide_eq_false h8; simp at this; omega
  rw [if_neg (by rw [List.getElem?_eq_none (by omega)]; simp)] at h6
  conv=>whnf
  refine chk_i (by simp; omega) ?_
  conv=>whnf
  refine lampC_at c.lamp (a := a) (by omega) rfl ?_
  conv=>whnf
  refine ownK_whole rfl ?_
  conv=>whnf
  refine ownK_whole (by simp [Els.len]) ?_
  conv=>whnf
  refine chk_i (decide_eq_true (by
   show ((acc.map fun b => [D.bool b]).length + 1) * 1 ≤ 140737488355328
   rw [List.length_map]; omega)) ?_
  conv=>whnf
  refine elemK_i [i64 (t.speeds.getD (n) 0)] ⟨by omega, hspg (n) (by omega)⟩ ?_
  conv=>whnf
  refine arith_to (s - b) (by first | omega | (dsimp only; done) | (dsimp only; omega)) (wrap_i64 (by (try dsimp only); omega)) ?_
  conv=>whnf
  refine CallA_v (la110 c.lamp hR a (t.speeds.getD (n) 0) (s - b) h2 (by have := hspn (n) (by omega); omega) (by omega)) rfl rfl ?_
  conv=>whnf
  refine arith_to ((s + 1 : Nat) : Int) (by omega) (wrap_i64 (by omega)) ?_
  conv=>whnf
  refine ⟨(s + 1, (nextF c.lamp a (t.speeds.getD (n) 0) (s - b), (b, (n, acc ++ [openB c.lamp a])))), by simp only; omega, ⟨by simp only; omega, nextF_bd hR _ _ _, by simp only; omega, by simp only; omega, by simp [h5], ?_⟩, Wk.sub ⟨rfl, rfl, ?_, rfl, rfl, rfl, rfl, rfl, rfl, trivial⟩ ⟨rfl, rfl, ?_, trivial⟩⟩
  ·simp only [hk2]
   rw [h6, List.append_assoc]
   rfl
  ·simp [PX.get, Els.len]
  ·simp [PX.get, Els.app]
end Go.PX
namespace Go.PX
open Go.Proofs
theorem RetA_viewR {σ : Type} {l : List V} {h : Heap} {s : σ} {Q : V → Heap → σ → Prop} (n : Nat) {ds : List D} (hv : viewL (objD h n) l = some ds) {d : D} (hd : relax (packD ds) = d) (hq : Q (.d d) [] s) : RetA l h s Q := by
 subst hd
 refine ⟨fun cx L F vals w hh hr => ?_⟩
 have tr := frzAll_tr hh
 exact ⟨_, [], L, frzAll L F h w, hq, frzAll_ok hh, RepD.relax _ _ (packD_t (viewL_t tr (objD_t hh n) l vals ds hv hr)), tr, fun _ _ => ⟨rfl, rfl⟩⟩
def setHi (acc : List Span) (s : Int) : List Span := acc.modify (acc.length - 1) fun x => ⟨x.lo, s⟩
def showF : List Bool → Int → Bool → List Span → List Span
 | [], _, _, acc => acc
 | b :: r, s, before, acc => showF r (s + 1) b (if b then (if before then setHi acc s else acc ++ [⟨s, s⟩]) else acc)
def showE (c : LCase) (t : LTruth) : Int := if (checkL c).2.2 = 0 then truthE c t else (checkL c).2.2
def showL (c : LCase) (t : LTruth) : List Span := if showE c t = 0 then showF (courseL c.lamp c.windings t) 0 false [] else []
structure CaseL (c : LCase) : Prop where
 lamp : LampR c.lamp
 winds : c.windings.length ≤ 2
 wind : ∀ s ∈ c.windings, 1 ≤ s ∧ s ≤ c.lamp.night - 1
 sights : c.sights.length ≤ 8
 sight : ∀ s ∈ c.sights, 0 ≤ s.second ∧ s.second ≤ c.lamp.night - 1
 far : c.lamp.start.hi ≤ c.lamp.start.lo + 12
theorem windF_ok {night : Int} : ∀ {l : List Int} {last i : Int}, (windF night last l i).2 = 0 → ∀ s ∈ l, 1 ≤ s ∧ s ≤ night - 1
 | [], _, _, _, s, hs => by cases hs
 | x :: r, last, i, h, s, hs => by
  rw [windF] at h
  split at h
  ·rename_i h1
   rw [inB_iff] at h1
   split at h
   ·cases h
   ·rcases List.mem_cons.1 hs with rfl | hs
    ·exact h1
    ·exact windF_ok h s hs
  ·cases h
theorem sightF_ok {night : Int} : ∀ {l : List LSight} {i : Int}, (sightF night l i).2 = 0 → ∀ s ∈ l, 0 ≤ s.second ∧ s.second ≤ night - 1
 | [], _, _, s, hs => by cases hs
 | x :: r, i, h, s, hs => by
  rw [sightF] at h
  split at h
  ·rename_i h1
   rw [inB_iff] at h1
   rcases List.mem_cons.1 hs with rfl | hs
   ·exact h1
   ·exact sightF_ok h s hs
  ·cases h
theorem checkL_ok {c : LCase} (h : (checkL c).2.2 = 0) : CaseL c := by
 unfold checkL at h
 split at h
 case isFalse => rename_i h1; exact absurd h h1
 rename_i h1
 split at h
 ·cases h
 rename_i h2
 split at h
 case isFalse => rename_i h3; exact absurd h h3
 rename_i h3
 split at h
 ·cases h
 rename_i h4
 split at h
 case isFalse => rename_i h5; exact absurd h h5
 rename_i h5
 exact ⟨wheel_ok h1, by omega, windF_ok h3, by omega, sightF_ok h5, wheel_far h1⟩
theorem setHi_len (acc : List Span) (s : Int) : (setHi acc s).length = acc.length := by simp [setHi]
theorem setHi_cells {acc : List Span} (h : acc ≠ []) (s : Int) : ∃ x, acc[acc.length - 1]? = some x ∧ (setHi acc s).map Span.cells = (acc.map Span.cells).set (acc.length - 1) [i64 x.lo, i64 s] := by
 have hl : acc.length - 1 < acc.length := by have := List.length_pos_iff.2 h; omega
 refine ⟨acc[acc.length - 1], List.getElem?_eq_getElem hl, ?_⟩
 apply List.ext_getElem?
 intro i
 rw [setHi, List.getElem?_set, List.getElem?_map, List.getElem?_modify]
 by_cases hi : acc.length - 1 = i
 ·subst hi
  simp [hl, Span.cells]
 ·simp [hi]
set_option maxHeartbeats 1000000 in
theorem la19 (c : LCase) (t : LTruth) : FnV Tryz.prog 23 [c.d, t.d] (.tup [spansD (showL c t), i64 (showE c t)]) := by
 refine fnV_of mixed tysOk Tryz.func23 rfl (ft := ft23) 2 (by decide +kernel) (by rfl) fun {σ} Y st => ?_
 conv=>whnf
 refine CallA_v (la15 c) rfl rfl ?_
 conv=>whnf
 by_cases h0 : (checkL c).2.2 = 0
 case neg =>
  have he : showE c t = (checkL c).2.2 := by unfold showE; rw [if_neg h0]
  have hl : showL c t = [] := by unfold showL; rw [he, if_neg h0]
  rw [he, hl]
  refine brk_i (fun h1 => absurd h1 (by simp [h0])) (fun _ => ?_)
  conv=>whnf
  refine brk_i (fun _ => ?_) (fun h1 => absurd h1 (by simp [h0]))
  conv=>whnf
  exact RetA_viewR 0 rfl rfl ⟨⟨rfl, rfl⟩, rfl⟩
 have he : showE c t = truthE c t := by unfold showE; rw [if_pos h0]
 have hR := checkL_ok h0
 refine brk_i (fun _ => ?_) (fun h1 => absurd h1 (by simp [h0]))
 conv=>whnf
 refine CallA_v (la72 c t (by have := hR.winds; omega)) rfl rfl ?_
 conv=>whnf
 rw [he]
 by_cases h1 : truthE c t = 0
 case neg =>
  have hl : showL c t = [] := by unfold showL; rw [he, if_neg h1]
  rw [hl]
  refine brk_i (fun _ => ?_) (fun h2 => absurd h2 (by simp [h1]))
  conv=>whnf
  exact RetA_viewR 0 rfl rfl ⟨⟨rfl, rfl⟩, rfl⟩
 have hT := truth_ok h1
 have hl : showL c t = showF (courseL c.lamp c.windings t) 0 false [] := by unfold showL; rw [he, if_pos h1]
 rw [hl]
 refine brk_i (fun h2 => absurd h2 (by simp [h1])) (fun _ => ?_)
 conv=>whnf
 refine CallA_v (la73 c t hR.lamp hR.winds hT) rfl rfl ?_
 conv=>whnf
 have hlen : (courseL c.lamp c.windings t).length ≤ 200 := by
  unfold courseL; rw [courseF_len]; have := hR.lamp.night; omega
 generalize courseL c.lamp c.windings t = L at hlen
 refine LoopA_i (T := tys) tysOk (by exact drawsB_spec mixed tysOk (by decide +kernel)) L (fun i (p : Bool × List Span) => ⟨[(4, .sl 51 2 0 p.2.length), (6, .d (.bool p.1)), (25, .d (boolsD L)), (26, .d (i64 L.length)), (27, .d (i64 i))], [(51, .arr 2 (.dd (p.2.map Span.cells)))], st⟩)
  (fun i r p => showF L 0 false [] = showF r i p.1 p.2 ∧ p.2.length ≤ i ∧ (p.1 = true → p.2 ≠ [])) (false, []) ((Wk.born 4 51 2 rfl rfl rfl).trans (Wk.sub ⟨(by first | rfl | (simp only [List.length_map]; rfl) | simp [PX.get]), (by first | rfl | (simp only [List.length_map]; rfl) | simp [PX.get]), (by first | rfl | (simp only [List.length_map]; rfl) | simp [PX.get]), (by first | rfl | (simp only [List.length_map]; rfl) | simp [PX.get]), (by first | rfl | (simp only [List.length_map]; rfl) | simp [PX.get]), trivial⟩ ⟨(by first | rfl | (simp only [List.length_map]; rfl) | simp [PX.get]), trivial⟩)) ⟨rfl, by simp, by simp⟩ ?_ ?_
 ·rintro i x r ⟨before, acc⟩ hx hi hr ⟨h3, h4, h5⟩
  simp only at h3 h4 h5
  rw [showF] at h3
  conv=>whnf
  refine brk_i (fun _ => ?_) (fun h => absurd hi (by simpa using h))
  conv=>whnf
  refine elemK_nat hx ?_
  conv=>whnf
  cases x with
  | false =>
   conv=>whnf
   refine arith_in (wrap_i64 (by (try dsimp only); omega)) ?_
   conv=>whnf
   exact ⟨(false, acc), ⟨by simpa using h3, by simp only; omega, by simp⟩, (Wk.sub ⟨(by first | rfl | (simp only [List.length_map]; rfl) | simp [PX.get]), (by first | rfl | (simp only [List.length_map]; rfl) | simp [PX.get]), (by first | rfl | (simp only [List.length_map]; rfl) | simp [PX.get]), (by first | rfl | (simp only [List.length_map]; rfl) | simp [PX.get]), (by first | rfl | (simp only [List.length_map]; rfl) | simp [PX.get]), trivial⟩ ⟨(by first | rfl | (simp only [List.length_map]; rfl) | simp [PX.get]), trivial⟩)⟩
  | true =>
   conv=>whnf
   cases before with
   | true =>
    have hne := h5 rfl
    obtain ⟨y, hy, hset⟩ := setHi_cells hne i
    have hpos := List.length_pos_iff.2 hne
    conv=>whnf
    refine arith_to (((acc.length - 1 : Nat) : Int)) (by (try dsimp only); omega) (wrap_i64 (by (try dsimp only); omega)) ?_
    conv=>whnf
    refine chk_i (by simp; omega) ?_
    conv=>whnf
    refine cellK_i y.cells (by simp [hy]) ?_
    conv=>whnf
    refine arith_in (wrap_i64 (by (try dsimp only); omega)) ?_
    conv=>whnf
    refine ⟨(true, setHi acc i), ⟨by simpa using h3, by simp only [setHi_len]; omega, fun _ h => hne (List.length_eq_zero_iff.1 (by rw [← setHi_len acc i]; exact List.length_eq_zero_iff.2 h))⟩, Wk.sub ⟨?_, rfl, rfl, rfl, rfl, trivial⟩ ⟨?_, trivial⟩⟩
    ·simp [PX.get, setHi_len]
    ·show some (Obj.arr 2 (Els.dd ((acc.map Span.cells).set (0 + ((acc.length - 1 : Nat) : Int).toNat) [i64 y.lo, i64 i]))) = some (Obj.arr 2 (Els.dd ((setHi acc i).map Span.cells)))
     rw [hset]
     simp
   | false =>
    conv=>whnf
    refine ownK_whole rfl ?_
    conv=>whnf
    refine ownK_whole (by simp [Els.len]) ?_
    conv=>whnf
    refine chk_i (decide_eq_true (by
     show ((acc.map Span.cells).length + 1) * 16 ≤ 140737488355328
     rw [List.length_map]; omega)) ?_
    conv=>whnf
    refine arith_in (wrap_i64 (by (try dsimp only); omega)) ?_
    conv=>whnf
    refine ⟨(true, acc ++ [⟨i, i⟩]), ⟨by simpa using h3, by simp; omega, by simp⟩, Wk.sub ⟨?_, rfl, rfl, rfl, rfl, trivial⟩ ⟨?_, trivial⟩⟩
    ·simp [PX.get, Els.len]
    ·simp [PX.get, Els.app, Span.cells]
 ·rintro ⟨before, acc⟩ ⟨h3, _, _⟩
  simp only [showF] at h3
  conv=>whnf
  refine brk_i (fun h => absurd h (by simp)) (fun _ => ?_)
  conv=>whnf
  rw [h3]
  exact RetA_view 1 (ds := [spansD acc, i64 0]) (viewL_cons (viewV_sl rfl (by simp)) rfl) ⟨⟨by rw [h1]; rfl, rfl⟩, rfl⟩
end Go.PX
namespace Go.PX
open Go.Proofs
section
variable {P : Program} {σ : Type} {Y : Hd σ}
theorem YldA_frz (n : Nat) (ids : List Nat) {e : Env} {h h' : Heap} {s : σ} {d : Option Nat} {args : List V} {ds : List D} {K : St σ → Prop} (hv : viewL (objD (keepT ids h) n) args = some ds) (hh : cutL h (keysOf (keepT ids h)) = h')
  (hk : YldA P Y ⟨e, h', s⟩ d (inj ds) K) : YldA P Y ⟨e, h, s⟩ d args K := by
 obtain ⟨hk⟩ := hk
 subst hh
 refine ⟨fun cx hY l hl r m L F a w vals hg hd hr => ?_⟩
 obtain ⟨F1, hg1, tr1, hvw⟩ := hg.frzPart (h := keepT ids h) (fun i o hi => sub_keepT ids h i o hi) n
 rw [applyWs_delL] at hg1
 obtain ⟨fn, tmps, asg, body, h1, h2⟩ := hk cx hY l hl r m L F1 a w vals hg1 hd (RepVL.inj.2 (hvw _ _ _ hv hr))
 refine ⟨fn, tmps, asg, body, h1, h2.mono ?_⟩
 rintro en w' ⟨x, rfl, st', L', F', k1, k2, k3⟩
 exact ⟨x, rfl, st', L', F', k1, k2, Tr.trans tr1 k3⟩
theorem CallA_frz2 (n : Nat) (ids : List Nat) {e : Env} {h h' : Heap} {s : σ} {d : Option Nat} {f : FuncId} {args args' : List V} {K : St σ → Prop} (hv : replL (objD (keepT ids h) n) args = args') (hh : cutL h (keysOf (keepT ids h)) = h')
  (hk : CallA P Y ⟨e, h', s⟩ d f args' K) : CallA P Y ⟨e, h, s⟩ d f args K := by
 obtain ⟨he, hk⟩ := hk
 subst hh hv
 refine ⟨he, fun cx hY r m L F a w vals hg hd hr => ?_⟩
 obtain ⟨F1, hg1, tr1, hvw⟩ := hg.frzPart2 (h := keepT ids h) (fun i o hi => sub_keepT ids h i o hi) n
 rw [applyWs_delL] at hg1
 refine (hk cx hY r m L F1 a w vals hg1 hd (hvw _ _ hr)).mono ?_
 rintro en w' ⟨x, rfl, st', L', F', k1, k2, k3⟩
 exact ⟨x, rfl, st', L', F', k1, k2, Tr.trans tr1 k3⟩
end
theorem lenAllD_one {α : Type} (f : α → D) (hf : ∀ x, (f x).scalar = true) : ∀ l : List α, lenAllD 1 (l.map fun x => [f x]) = true
 | [] => rfl
 | x :: r => by
  have h : allScalarD [f x] = true := by simp [allScalarD, hf x]
  simp only [List.map_cons, lenAllD, h]
  exact lenAllD_one f hf r
theorem la114 (l : List Bool) (hl : l.length ≤ 100000) : FnU Tryz.prog 95 [.d (boolsD l)] [] fun v h' => v = .sl 2000000 1 0 l.length ∧ h' = [(2000000, .arr 1 (.dd (l.map fun (b : Bool) => [D.bool b])))] := by
 intro σ Y s
 refine fnC_of mixed tysOk Tryz.func95 rfl (ft := ft95) (args := [.d (boolsD l)]) (show fnB ft95 Tryz.f95 1 = true from by decide +kernel) ?_
 conv=>whnf
 refine ⟨fun b hb => ?_⟩
 cases b with
 | true =>
  have hnil : l = [] := by
   cases l with
   | nil => rfl
   | cons x r => cases hb (by simp)
  subst hnil
  conv=>whnf
  refine RetA_wk (l' := [.sl 5 1 0 0]) (h' := [(5, .arr 1 (.dd []))]) (Wk.born 0 5 1 rfl rfl rfl) rfl rfl ?_
  exact RetA_hand [5] [.sl 2000000 1 0 0] [(2000000, .arr 1 (.dd []))] rfl ⟨rfl, trivial⟩ rfl ⟨⟨rfl, rfl⟩, rfl⟩
 | false =>
  conv=>whnf
  refine ownK_whole rfl ?_
  conv=>whnf
  refine chk_i (by
   show (lenAllD 1 (l.map fun (b : Bool) => [D.bool b]) && true) = true
   rw [lenAllD_one D.bool (fun _ => rfl) l]; rfl) ?_
  conv=>whnf
  refine chk_i (decide_eq_true (by
   show (0 + (l.map fun (b : Bool) => [D.bool b]).length) * 1 ≤ 140737488355328
   rw [List.length_map]; omega)) ?_
  conv=>whnf
  refine RetA_hand [7] [.sl 2000000 1 0 l.length] [(2000000, .arr 1 (.dd (l.map fun (b : Bool) => [D.bool b])))] (by
   show [V.sl 7 1 0 l.length] = [V.sl 7 1 0 (0 + (l.map fun (b : Bool) => [D.bool b]).length)]
   rw [List.length_map, Nat.zero_add]) ⟨rfl, trivial⟩ rfl ⟨⟨rfl, rfl⟩, rfl⟩
theorem la115 (l : List Int) (hl : l.length ≤ 100000) : FnU Tryz.prog 96 [.d (intsD l)] [] fun v h' => v = .sl 2000000 1 0 l.length ∧ h' = [(2000000, .arr 1 (.dd (l.map fun (b : Int) => [D.int .i64 b])))] := by
 intro σ Y s
 refine fnC_of mixed tysOk Tryz.func96 rfl (ft := ft96) (args := [.d (intsD l)]) (show fnB ft96 Tryz.f96 1 = true from by decide +kernel) ?_
 conv=>whnf
 refine ⟨fun b hb => ?_⟩
 cases b with
 | true =>
  have hnil : l = [] := by
   cases l with
   | nil => rfl
   | cons x r => cases hb (by simp)
  subst hnil
  conv=>whnf
  refine RetA_wk (l' := [.sl 5 1 0 0]) (h' := [(5, .arr 1 (.dd []))]) (Wk.born 0 5 1 rfl rfl rfl) rfl rfl ?_
  exact RetA_hand [5] [.sl 2000000 1 0 0] [(2000000, .arr 1 (.dd []))] rfl ⟨rfl, trivial⟩ rfl ⟨⟨rfl, rfl⟩, rfl⟩
 | false =>
  conv=>whnf
  refine ownK_whole rfl ?_
  conv=>whnf
  refine chk_i (by
   show (lenAllD 1 (l.map fun (b : Int) => [D.int .i64 b]) && true) = true
   rw [lenAllD_one (D.int .i64) (fun _ => rfl) l]; rfl) ?_
  conv=>whnf
  refine chk_i (decide_eq_true (by
   show (0 + (l.map fun (b : Int) => [D.int .i64 b]).length) * 8 ≤ 140737488355328
   rw [List.length_map]; omega)) ?_
  conv=>whnf
  refine RetA_hand [7] [.sl 2000000 1 0 l.length] [(2000000, .arr 1 (.dd (l.map fun (b : Int) => [D.int .i64 b])))] (by
   show [V.sl 7 1 0 l.length] = [V.sl 7 1 0 (0 + (l.map fun (b : Int) => [D.int .i64 b]).length)]
   rw [List.length_map, Nat.zero_add]) ⟨rfl, trivial⟩ rfl ⟨⟨rfl, rfl⟩, rfl⟩
end Go.PX
