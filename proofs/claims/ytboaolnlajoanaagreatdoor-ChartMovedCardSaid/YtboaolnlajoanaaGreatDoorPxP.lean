import Derived.Test.YtboaolnlajoanaaGreatDoorPxO
import Derived.Test.YtboaolnlajoanaaGreatDoorPxL
import Derived.Test.YtboaolnlajoanaaGreatDoorPxN
import Derived.Test.YtboaolnlajoanaaGreatDoorPxJ
import Derived.Lib.AtoiAllCases
import Derived.Test.YtboaolnlajoanaaGreatDoorPxM
import Derived.Laws.IdiomStrings
set_option linter.all false
set_option maxRecDepth 10000
namespace Go.PX
open Go.Proofs
def nxS (l : List Pt) (i : Nat) : Pt := atP l ((i + 1) % l.length)
def liesR (s : Sand) (m p : Pt) : Bool := (List.range s.corners.length).all fun i => decide (0 ≤ leftF ((nxS s.corners i).sub (atP s.corners i)) ((p.sub m).sub (atP s.corners i)))
def nearR (a b p : Pt) (r : Int) : Bool :=
 if dotF (b.sub a) (p.sub a) ≤ 0 then decide (sqF (p.sub a) < r * r) else if sqF (b.sub a) ≤ dotF (b.sub a) (p.sub a) then decide (sqF (p.sub b) < r * r) else decide (leftF (b.sub a) (p.sub a) * leftF (b.sub a) (p.sub a) < r * r * sqF (b.sub a))
def insR (s : Sand) (m p : Pt) (r : Int) : Bool := (decide (0 < r) && liesR s m p) || (List.range s.corners.length).any fun i => nearR (atP s.corners i) (nxS s.corners i) (p.sub m) r
theorem mem_sides {s : Sand} (h0 : 0 < s.corners.length) (z : Pt × Pt) : z ∈ sidesF s ↔ ∃ i, i < s.corners.length ∧ z = (atP s.corners i, sideF s.corners.length (atP s.corners) i) := by
 have hlast : lastP s.corners = atP s.corners (s.corners.length - 1) := rfl
 unfold sidesF
 rw [sidesL_map, hlast, List.mem_map]
 constructor
 ·rintro ⟨j, hj, rfl⟩
  have hj := List.mem_range.1 hj
  by_cases h : j = 0
  ·subst h
   refine ⟨s.corners.length - 1, by omega, ?_⟩
   simp only [if_true]
   unfold sideF
   rw [Nat.sub_add_cancel (by omega), Nat.mod_self]
  ·refine ⟨j - 1, by omega, ?_⟩
   simp only [if_neg h]
   unfold sideF
   rw [Nat.sub_add_cancel (by omega), Nat.mod_eq_of_lt hj]
 ·rintro ⟨i, hi, rfl⟩
  by_cases h : i + 1 = s.corners.length
  ·refine ⟨0, List.mem_range.2 h0, ?_⟩
   simp only [if_true]
   unfold sideF
   rw [h, Nat.mod_self, show s.corners.length - 1 = i by omega]
  ·refine ⟨i + 1, List.mem_range.2 (by omega), ?_⟩
   simp only [if_neg (Nat.succ_ne_zero i)]
   unfold sideF
   rw [Nat.mod_eq_of_lt (show i + 1 < s.corners.length by omega), Nat.add_sub_cancel]
theorem roundR_iff {l : List Pt} (h3 : 3 ≤ l.length) (h : roundR l = true) : Round l.length (atP l) := by
 refine ⟨h3, fun i k hi hk h1 h2 => ?_⟩
 unfold roundR at h
 have := List.all_eq_true.1 h i (List.mem_range.2 hi)
 unfold rowOk at this
 have := List.all_eq_true.1 this k (List.mem_range.2 hk)
 unfold cornerOk at this
 simpa [h1, h2] using this
theorem SandR.round {s : Sand} (h : SandR s) : Round s.corners.length (atP s.corners) := by
 have h3 := h.len.1
 refine roundR_iff h3 ?_
 rw [← sides_round h3]
 exact List.all_eq_true.2 h.sides
theorem liesR_iff {s : Sand} {m p : Pt} : liesR s m p = true ↔ ∀ i, i < s.corners.length → 0 ≤ farF s.corners.length (atP s.corners) (p.sub m) i := by
 unfold liesR
 rw [List.all_eq_true]
 constructor
 ·intro h i hi
  exact of_decide_eq_true (h i (List.mem_range.2 hi))
 ·intro h i hi
  exact decide_eq_true (h i (List.mem_range.1 hi))
theorem nearR_iff {a b p : Pt} {r : Int} (he : 0 < sqF (b.sub a)) : nearR a b p r = true ↔ Mid (b.sub a) (p.sub a) r := by
 have e : (p.sub a).sub (b.sub a) = p.sub b := by unfold Pt.sub; simp; constructor <;> omega
 unfold nearR
 split
 ·rename_i h1
  rw [decide_eq_true_eq]
  exact ⟨mid_0, mid_lo h1⟩
 ·rename_i h1
  split
  ·rename_i h2
   rw [decide_eq_true_eq, ← e]
   exact ⟨mid_1, mid_hi h2⟩
  ·rename_i h2
   rw [decide_eq_true_eq]
   exact ⟨mid_m he (by omega) (by omega), mid_in he⟩
theorem nearS_iff {p : Pt} {r : Int} {z : Pt × Pt} (he : 0 < sqF z.2) : nearS p r z = true ↔ Mid z.2 (p.sub z.1) r := by
 have hd : ∀ v : Pt, dotF v v = sqF v := fun v => rfl
 unfold nearS distF
 rw [decide_eq_true_eq]
 split
 ·rename_i h1
  simp only [hd, Int.mul_one]
  exact ⟨mid_0, mid_lo (by omega)⟩
 ·rename_i h1
  split
  ·rename_i h2
   simp only [hd, Int.mul_one]
   exact ⟨mid_1, mid_hi (by rw [hd] at h2; omega)⟩
  ·rename_i h2
   rw [hd] at h2
   simp only [hd]
   exact ⟨mid_m he (by omega) (by omega), mid_in he⟩
theorem nearL_iff (p : Pt) (r : Int) : ∀ (l : List (Pt × Pt)) (on : Bool), nearL p r on l = true ↔ (∃ z ∈ l, leftF z.2 (p.sub z.1) < 0 ∧ nearS p r z = true) ∨ (on = true ∧ ∀ z ∈ l, 0 ≤ leftF z.2 (p.sub z.1))
 | [], on => by simp [nearL]
 | z :: l, on => by
  rw [nearL]
  by_cases h1 : 0 ≤ leftF z.2 (p.sub z.1)
  ·rw [if_pos h1, nearL_iff p r l on]
   constructor
   ·rintro (⟨y, hy, h⟩ | ⟨h, h2⟩)
    ·exact .inl ⟨y, by simp [hy], h⟩
    ·refine .inr ⟨h, fun y hy => ?_⟩
     rcases List.mem_cons.1 hy with rfl | hy
     ·exact h1
     ·exact h2 y hy
   ·rintro (⟨y, hy, h, h2⟩ | ⟨h, h2⟩)
    ·rcases List.mem_cons.1 hy with rfl | hy
     ·omega
     ·exact .inl ⟨y, hy, h, h2⟩
    ·exact .inr ⟨h, fun y hy => h2 y (by simp [hy])⟩
  ·rw [if_neg h1]
   by_cases h2 : nearS p r z = true
   ·rw [if_pos h2]
    exact ⟨fun _ => .inl ⟨z, by simp, by omega, h2⟩, fun _ => rfl⟩
   ·rw [if_neg h2, nearL_iff p r l false]
    constructor
    ·rintro (⟨y, hy, h⟩ | ⟨h, _⟩)
     ·exact .inl ⟨y, by simp [hy], h⟩
     ·cases h
    ·rintro (⟨y, hy, h, h3⟩ | ⟨_, h3⟩)
     ·rcases List.mem_cons.1 hy with rfl | hy
      ·exact absurd h3 h2
      ·exact .inl ⟨y, hy, h, h3⟩
     ·exact absurd (h3 z (by simp)) h1
theorem nearX_iff {s : Sand} (h : SandR s) (p : Pt) (r : Int) : nearX s p r = true ↔ (∃ k, k < s.corners.length ∧ farF s.corners.length (atP s.corners) p k < 0 ∧ Mid (sideF s.corners.length (atP s.corners) k) (p.sub (atP s.corners k)) r) ∨ ∀ k, k < s.corners.length → 0 ≤ farF s.corners.length (atP s.corners) p k := by
 have h3 := h.len.1
 have h0 : 0 < s.corners.length := by omega
 have hR := h.round
 have hM : ∀ k, k < s.corners.length → (nearS p r (atP s.corners k, sideF s.corners.length (atP s.corners) k) = true ↔ Mid (sideF s.corners.length (atP s.corners) k) (p.sub (atP s.corners k)) r) := fun k hk => nearS_iff (z := (atP s.corners k, sideF s.corners.length (atP s.corners) k)) (hR.side_pos hk)
 have hL := nearL_iff p r (sidesF s) true
 have hms := mem_sides h0
 unfold nearX
 rw [hL]
 constructor
 ·rintro (⟨z, hz, h1, h2⟩ | ⟨_, h1⟩)
  ·obtain ⟨k, hk, rfl⟩ := (hms z).1 hz
   exact .inl ⟨k, hk, h1, (hM k hk).1 h2⟩
  ·exact .inr fun k hk => h1 _ ((hms _).2 ⟨k, hk, rfl⟩)
 ·rintro (⟨k, hk, h1, h2⟩ | h1)
  ·exact .inl ⟨_, (hms _).2 ⟨k, hk, rfl⟩, h1, (hM k hk).2 h2⟩
  ·refine .inr ⟨rfl, fun z hz => ?_⟩
   obtain ⟨k, hk, rfl⟩ := (hms z).1 hz
   exact h1 k hk
theorem insR_iff {s : Sand} (h : SandR s) (m p : Pt) (r : Int) : insR s m p r = true ↔ (0 < r ∧ ∀ k, k < s.corners.length → 0 ≤ farF s.corners.length (atP s.corners) (p.sub m) k) ∨ ∃ k, k < s.corners.length ∧ Mid (sideF s.corners.length (atP s.corners) k) ((p.sub m).sub (atP s.corners k)) r := by
 have hR := h.round
 unfold insR
 rw [Bool.or_eq_true, Bool.and_eq_true, liesR_iff, decide_eq_true_eq, List.any_eq_true]
 constructor
 ·rintro (h | ⟨k, hk, h⟩)
  ·exact .inl h
  ·have hk := List.mem_range.1 hk
   exact .inr ⟨k, hk, (nearR_iff (hR.side_pos hk)).1 h⟩
 ·rintro (h | ⟨k, hk, h⟩)
  ·exact .inl h
  ·exact .inr ⟨k, List.mem_range.2 hk, (nearR_iff (hR.side_pos hk)).2 h⟩
theorem near_ins {s : Sand} (h : SandR s) (m p : Pt) {r : Int} (hr : 0 < r) : nearX s (p.sub m) r = insR s m p r := by
 rw [Bool.eq_iff_iff, nearX_iff h, insR_iff h]
 constructor
 ·rintro (⟨k, hk, _, h2⟩ | h1)
  ·exact .inr ⟨k, hk, h2⟩
  ·exact .inl ⟨hr, h1⟩
 ·rintro (⟨_, h1⟩ | ⟨k, hk, h2⟩)
  ·exact .inr h1
  ·by_cases h3 : ∃ k, k < s.corners.length ∧ farF s.corners.length (atP s.corners) (p.sub m) k < 0
   ·exact .inl (wayIn_side h.round hk h2 h3)
   ·refine .inr fun k hk => ?_
    rcases Int.lt_or_le (farF s.corners.length (atP s.corners) (p.sub m) k) 0 with h4 | h4
    ·exact absurd ⟨k, hk, h4⟩ h3
    ·exact h4
theorem mid_0r {e t : Pt} : ¬ Mid e t 0 := by
 rintro ⟨u, v, h0, h1, h2, h⟩
 have e1 : v * v * sqF t - 2 * (u * v) * dotF e t + u * u * sqF e = sqF ⟨v * t.x - u * e.x, v * t.y - u * e.y⟩ := by
  unfold sqF dotF; grind
 rw [e1] at h
 have := sqF_nonneg ⟨v * t.x - u * e.x, v * t.y - u * e.y⟩
 simp at h
 omega
theorem ins_0 {s : Sand} (h : SandR s) (m p : Pt) : insR s m p 0 = false := by
 rw [Bool.eq_false_iff]
 intro h1
 rcases (insR_iff h m p 0).1 h1 with ⟨h2, _⟩ | ⟨k, _, h2⟩
 ·omega
 ·exact mid_0r h2
theorem mid_mono {e t : Pt} {r r' : Int} (h0 : 0 ≤ r) (hr : r ≤ r') (h : Mid e t r) : Mid e t r' := by
 obtain ⟨u, v, a, b, c, h⟩ := h
 refine ⟨u, v, a, b, c, ?_⟩
 have h1 : r * r ≤ r' * r' := Int.mul_le_mul hr hr h0 (by omega)
 have h2 := Int.mul_le_mul_of_nonneg_right h1 (show 0 ≤ v * v from sq_nonneg v)
 omega
theorem ins_mono {s : Sand} (h : SandR s) {m p : Pt} {r r' : Int} (h0 : 0 ≤ r) (hr : r ≤ r') (h1 : insR s m p r = true) : insR s m p r' = true := by
 rw [insR_iff h] at h1 ⊢
 rcases h1 with ⟨h2, h3⟩ | ⟨k, hk, h2⟩
 ·exact .inl ⟨by omega, h3⟩
 ·exact .inr ⟨k, hk, mid_mono h0 hr h2⟩
def inSp (l : Span) (y : Int) : Prop := l.lo ≤ y ∧ y ≤ l.hi
theorem cutF_iff (l : Span) (f n y : Int) : inSp (cutF l f n) y ↔ inSp l y ∧ n ≤ f * y := by
 unfold inSp cutF
 by_cases h1 : 0 < f
 ·rw [if_pos h1]
  have h2 : -((-n) / f) ≤ y ↔ n ≤ f * y := by
   have : -((-n) / f) ≤ y ↔ -y ≤ (-n) / f := by omega
   rw [this, Int.le_ediv_iff_mul_le h1, Int.neg_mul, Int.mul_comm y f]; omega
  rw [← h2]
  simp only
  omega
 ·rw [if_neg h1]
  by_cases h2 : f < 0
  ·rw [if_pos h2]
   have h3 : y ≤ (-n) / (-f) ↔ n ≤ f * y := by
    rw [Int.le_ediv_iff_mul_le (by omega), Int.mul_neg, Int.mul_comm y f]; omega
   rw [← h3]
   simp only
   omega
  ·rw [if_neg h2]
   have h3 : f = 0 := by omega
   subst h3
   rw [Int.zero_mul]
   split
   ·simp only; omega
   ·omega
theorem rows_foldl (x : Int) (p : Pt) (y : Int) : ∀ (l : List (Pt × Pt)) (a : Span), inSp (l.foldl (rowStep x p) a) y ↔ inSp a y ∧ ∀ z ∈ l, 0 ≤ leftF z.2 ((p.sub ⟨x, y⟩).sub z.1)
 | [], a => by simp
 | z :: l, a => by
  rw [List.foldl_cons, rows_foldl x p y l]
  have h1 : z.2.y * ((p.x - z.1.x) - x) - z.2.x * (p.y - z.1.y) ≤ (-z.2.x) * y ↔ 0 ≤ leftF z.2 ((p.sub ⟨x, y⟩).sub z.1) := by
   have : leftF z.2 ((p.sub ⟨x, y⟩).sub z.1) = (-z.2.x) * y - (z.2.y * ((p.x - z.1.x) - x) - z.2.x * (p.y - z.1.y)) := by
    unfold leftF Pt.sub; grind
   omega
  unfold rowStep
  rw [cutF_iff, h1]
  constructor
  ·rintro ⟨⟨h2, h3⟩, h4⟩
   refine ⟨h2, fun w hw => ?_⟩
   rcases List.mem_cons.1 hw with rfl | hw
   ·exact h3
   ·exact h4 w hw
  ·rintro ⟨h2, h3⟩
   exact ⟨⟨h2, h3 z (by simp)⟩, fun w hw => h3 w (by simp [hw])⟩
theorem rows_iff {s : Sand} (h : SandR s) (x : Int) (p : Pt) (y : Int) : inSp (rowsX s x p) y ↔ inSp s.moves.y y ∧ liesR s ⟨x, y⟩ p = true := by
 have h3 := h.len.1
 unfold rowsX
 rw [rows_foldl, liesR_iff]
 refine and_congr_right fun _ => ?_
 constructor
 ·intro h i hi
  exact h _ ((mem_sides (by omega) _).2 ⟨i, hi, rfl⟩)
 ·intro h z hz
  obtain ⟨k, hk, rfl⟩ := (mem_sides (by omega) z).1 hz
  exact h k hk
theorem mem_upX : ∀ (k : Nat) (v y : Int), y ∈ upX k v ↔ v ≤ y ∧ y < v + k
 | 0, v, y => by simp [upX]
 | k + 1, v, y => by
  rw [upX, List.mem_cons, mem_upX k]; omega
theorem mem_spanL (b : Span) (y : Int) : y ∈ spanL b ↔ b.lo ≤ y ∧ y ≤ b.hi := by
 unfold spanL
 rw [mem_upX]; omega
theorem mem_movesL (b : Box) (m : Pt) : m ∈ movesL b ↔ (b.x.lo ≤ m.x ∧ m.x ≤ b.x.hi) ∧ (b.y.lo ≤ m.y ∧ m.y ≤ b.y.hi) := by
 unfold movesL
 rw [List.mem_flatMap]
 constructor
 ·rintro ⟨x, hx, h⟩
  obtain ⟨y, hy, rfl⟩ := List.mem_map.1 h
  exact ⟨(mem_spanL _ _).1 hx, (mem_spanL _ _).1 hy⟩
 ·rintro ⟨hx, hy⟩
  exact ⟨m.x, (mem_spanL _ _).2 hx, List.mem_map.2 ⟨m.y, (mem_spanL _ _).2 hy, rfl⟩⟩
def sureS (s : Sand) (p : Pt) : Bool := (movesL s.moves).all fun m => liesR s m p
def someS (s : Sand) (p : Pt) : Bool := (movesL s.moves).any fun m => liesR s m p
theorem any_eq {s : Sand} (h : SandR s) (p : Pt) : anyRow s p = someS s p := by
 have hx := h.x
 rw [Bool.eq_iff_iff]
 unfold anyRow someS xsX
 rw [List.any_eq_true, List.any_eq_true]
 constructor
 ·rintro ⟨x, hx, h1⟩
  have h1 := of_decide_eq_true h1
  rw [mem_upX] at hx
  obtain ⟨hy, hl⟩ := (rows_iff h x p (rowsX s x p).lo).1 ⟨Int.le_refl _, h1⟩
  exact ⟨⟨x, (rowsX s x p).lo⟩, (mem_movesL _ _).2 ⟨by simp only; omega, hy⟩, hl⟩
 ·rintro ⟨m, hm, hl⟩
  obtain ⟨h1, h2⟩ := (mem_movesL _ _).1 hm
  refine ⟨m.x, (mem_upX _ _ _).2 (by omega), decide_eq_true ?_⟩
  have := (rows_iff h m.x p m.y).2 ⟨h2, hl⟩
  unfold inSp at this
  omega
theorem all_eq {s : Sand} (h : SandR s) (p : Pt) : allRow s p = sureS s p := by
 have hx := h.x
 have hy := h.y
 rw [Bool.eq_iff_iff]
 unfold allRow sureS xsX
 rw [List.all_eq_true, List.all_eq_true]
 constructor
 ·rintro h1 m hm
  obtain ⟨h2, h3⟩ := (mem_movesL _ _).1 hm
  have h4 := of_decide_eq_true (h1 m.x ((mem_upX _ _ _).2 (by omega)))
  exact ((rows_iff h m.x p m.y).1 (by rw [h4]; exact h3)).2
 ·rintro h1 x hx
  rw [mem_upX] at hx
  have h2 : ∀ y, inSp s.moves.y y → inSp (rowsX s x p) y := fun y hy => (rows_iff h x p y).2 ⟨hy, h1 _ ((mem_movesL _ _).2 ⟨by simp only; omega, hy⟩)⟩
  have h3 : ∀ y, inSp (rowsX s x p) y → inSp s.moves.y y := fun y hy => ((rows_iff h x p y).1 hy).1
  have a1 := h2 s.moves.y.lo ⟨Int.le_refl _, by omega⟩
  have a2 := h2 s.moves.y.hi ⟨by omega, Int.le_refl _⟩
  unfold inSp at a1 a2 h3
  have a3 := h3 (rowsX s x p).lo ⟨Int.le_refl _, by omega⟩
  have a4 := h3 (rowsX s x p).hi ⟨by omega, Int.le_refl _⟩
  have e1 : (rowsX s x p).lo = s.moves.y.lo := by omega
  have e2 : (rowsX s x p).hi = s.moves.y.hi := by omega
  refine decide_eq_true ?_
  generalize rowsX s x p = R at *
  cases R; cases hs : s.moves.y
  rw [hs] at e1 e2
  simp only at e1 e2
  rw [e1, e2]
end Go.PX
namespace Go.PX
open Go.Proofs
def firstL (p : Pt) (r : Int) : Int → List Sand → Option (Int × Pt)
 | _, [] => none
 | i, s :: l => match (movesL s.moves).find? fun m => insR s m p r with
  | some m => some (i, m)
  | none => firstL p r (i + 1) l
def firstR (c : Cht) (p : Pt) (r : Int) : Option (Int × Pt) := firstL p r 0 c.sands
theorem inCol_find (s : Sand) (p : Pt) (r x : Int) : ∀ l : List Int, inCol s p r x l = (l.map fun y => (⟨x, y⟩ : Pt)).find? fun m => nearX s (p.sub m) r
 | [] => rfl
 | y :: l => by
  rw [inCol, List.map_cons, List.find?_cons, inCol_find s p r x l]
  cases nearX s (p.sub ⟨x, y⟩) r <;> rfl
theorem inCols_find (s : Sand) (p : Pt) (r : Int) : ∀ l : List Int, inCols s p r l = (l.flatMap fun x => (ysX s).map fun y => (⟨x, y⟩ : Pt)).find? fun m => nearX s (p.sub m) r
 | [] => rfl
 | x :: l => by
  rw [inCols, List.flatMap_cons, List.find?_append, ← inCol_find, inCols_find s p r l]
  cases inCol s p r x (ysX s) <;> rfl
theorem cols_moves (s : Sand) (p : Pt) (r : Int) : inCols s p r (xsX s) = (movesL s.moves).find? fun m => nearX s (p.sub m) r := inCols_find s p r (xsX s)
theorem find_congr {α : Type} {f g : α → Bool} : ∀ {l : List α}, (∀ x ∈ l, f x = g x) → l.find? f = l.find? g
 | [], _ => rfl
 | x :: l, h => by
  rw [List.find?_cons, List.find?_cons, h x (by simp), find_congr fun y hy => h y (by simp [hy])]
theorem insL_first {p : Pt} {r : Int} (hr : 0 < r) : ∀ (l : List Sand) (i : Int), (∀ s ∈ l, SandR s) → insL p r i l = firstL p r i l
 | [], _, _ => rfl
 | s :: l, i, h => by
  rw [insL, firstL, cols_moves, find_congr (fun m _ => near_ins (h s (by simp)) m p hr), insL_first hr l (i + 1) fun t ht => h t (by simp [ht])]
  cases (movesL s.moves).find? (fun m => insR s m p r) <;> rfl
theorem first_0 {p : Pt} : ∀ (l : List Sand) (i : Int), (∀ s ∈ l, SandR s) → firstL p 0 i l = none
 | [], _, _ => rfl
 | s :: l, i, h => by
  rw [firstL]
  have : (movesL s.moves).find? (fun m => insR s m p 0) = none := by
   rw [List.find?_eq_none]
   intro m _
   rw [ins_0 (h s (by simp))]; simp
  rw [this]
  exact first_0 l (i + 1) fun t ht => h t (by simp [ht])
theorem ins_first {c : Cht} (hR : ChtR c) (p : Pt) {r : Int} (hr : 0 ≤ r) : insX c p r = firstR c p r := by
 unfold insX firstR
 split
 ·rename_i h; subst h; rw [first_0 _ _ hR.sand]
 ·exact insL_first (by omega) _ _ hR.sand
theorem firstL_none {p : Pt} {r : Int} : ∀ {l : List Sand} {i : Int}, firstL p r i l = none ↔ ∀ s ∈ l, ∀ m ∈ movesL s.moves, insR s m p r = false
 | [], _ => by simp [firstL]
 | s :: l, i => by
  rw [firstL]
  cases h : (movesL s.moves).find? fun m => insR s m p r with
  | some m =>
   refine ⟨fun h => by simp at h, fun h2 => ?_⟩
   have h3 := h2 s (by simp) m (List.mem_of_find?_eq_some h)
   have h4 : insR s m p r = true := by simpa using List.find?_some h
   rw [h3] at h4; cases h4
  | none =>
   simp only
   rw [firstL_none]
   rw [List.find?_eq_none] at h
   constructor
   ·intro h2 t ht m hm
    rcases List.mem_cons.1 ht with rfl | ht
    ·simpa using h m hm
    ·exact h2 t ht m hm
   ·intro h2 t ht
    exact h2 t (by simp [ht])
theorem first_mono {c : Cht} (hR : ChtR c) {p : Pt} {r r' : Int} (h0 : 0 ≤ r) (hr : r ≤ r') (h : firstR c p r' = none) : firstR c p r = none := by
 unfold firstR at h ⊢
 rw [firstL_none] at h ⊢
 intro s hs m hm
 have h1 := h s hs m hm
 rw [Bool.eq_false_iff] at h1 ⊢
 exact fun h2 => h1 (ins_mono (hR.sand s hs) h0 hr h2)
structure GoodRad (c : Cht) (p : Pt) (a : Int) : Prop where
 lo : 0 ≤ a
 hi : a ≤ 5000
 clear : firstR c p a = none
 most : a < 5000 → firstR c p (a + 1) ≠ none
theorem GoodRad.unique {c : Cht} (hR : ChtR c) {p : Pt} {a b : Int} (ha : GoodRad c p a) (hb : GoodRad c p b) : a = b := by
 have h1 := ha.lo
 have h2 := hb.lo
 have h3 := ha.hi
 have h4 := hb.hi
 rcases Int.lt_trichotomy a b with h | h | h
 ·exact absurd (first_mono hR (show 0 ≤ a + 1 by omega) (show a + 1 ≤ b by omega) hb.clear) (ha.most (by omega))
 ·exact h
 ·exact absurd (first_mono hR (show 0 ≤ b + 1 by omega) (show b + 1 ≤ a by omega) ha.clear) (hb.most (by omega))
theorem radL_good {c : Cht} (hR : ChtR c) (p : Pt) : ∀ (n : Nat) (a b : Int), 0 ≤ a → a < b → b ≤ 5001 → b - a ≤ n → firstR c p a = none → (b ≤ 5000 → firstR c p b ≠ none) → GoodRad c p (radL c p n a b)
 | 0, a, b, _, h2, _, h4, _, _ => by omega
 | n + 1, a, b, h1, h2, h3, h4, h5, h6 => by
  rw [radL]
  by_cases h : b - a > 1
  ·rw [if_pos h, ins_first hR p (show 0 ≤ (a + b) / 2 by omega)]
   cases hx : firstR c p ((a + b) / 2) with
   | none =>
    exact radL_good hR p n _ _ (by omega) (by omega) h3 (by omega) hx h6
   | some x =>
    exact radL_good hR p n _ _ h1 (by omega) (by omega) (by omega) h5 (fun _ => by rw [hx]; simp)
  ·rw [if_neg h]
   have : b = a + 1 := by omega
   subst this
   exact ⟨h1, by omega, h5, fun h7 => h6 (by omega)⟩
theorem first_zero {c : Cht} (hR : ChtR c) (p : Pt) : firstR c p 0 = none := first_0 _ _ hR.sand
theorem rad_good {c : Cht} {p : Pt} (h : openX c p = 0) : GoodRad c p (radV c p) := by
 have hR := (openX_ok h).1
 unfold radV
 rw [if_pos h]
 exact radL_good hR p 5001 0 5001 (by omega) (by omega) (by omega) (by omega) (first_zero hR p) (fun h => by omega)
end Go.PX
namespace Go.PX
open Go.Proofs
theorem atP_map {l : List Pt} (f : Pt → Pt) {i : Nat} (h : i < l.length) : atP (l.map f) i = f (atP l i) := by
 unfold atP
 simp [h]
theorem nxS_map {l : List Pt} (f : Pt → Pt) {i : Nat} (h : i < l.length) : nxS (l.map f) i = f (nxS l i) := by
 unfold nxS
 rw [List.length_map, atP_map f (Nat.mod_lt _ (by omega))]
theorem any_congr {α : Type} {f g : α → Bool} {l : List α} (h : ∀ x ∈ l, f x = g x) : l.any f = l.any g := by
 rw [Bool.eq_iff_iff, List.any_eq_true, List.any_eq_true]
 constructor
 ·rintro ⟨x, hx, h1⟩; exact ⟨x, hx, by rw [← h x hx]; exact h1⟩
 ·rintro ⟨x, hx, h1⟩; exact ⟨x, hx, by rw [h x hx]; exact h1⟩
theorem all_congr {α : Type} {f g : α → Bool} {l : List α} (h : ∀ x ∈ l, f x = g x) : l.all f = l.all g := by
 rw [Bool.eq_iff_iff, List.all_eq_true, List.all_eq_true]
 constructor
 ·intro h1 x hx; rw [← h x hx]; exact h1 x hx
 ·intro h1 x hx; rw [h x hx]; exact h1 x hx
end Go.PX
namespace Go.PX
open Go.Proofs
theorem sub_add (a b v : Pt) : (a.add v).sub (b.add v) = a.sub b := by unfold Pt.add Pt.sub; simp; omega
theorem add_sub (a v m : Pt) : (a.add v).sub m = (a.sub m).add v := by unfold Pt.add Pt.sub; simp; omega
def mS (v : Pt) (s : Sand) : Sand := { s with corners := s.corners.map fun p => p.add v }
def mM (v : Pt) (m : Mark) : Mark := { m with at' := m.at'.add v }
def mC (v : Pt) (c : Cht) : Cht := ⟨c.marks.map (mM v), c.sands.map (mS v)⟩
theorem nearR_mov (v a b p : Pt) (r : Int) : nearR (a.add v) (b.add v) (p.add v) r = nearR a b p r := by
 unfold nearR
 simp only [sub_add]
theorem liesR_mov (v : Pt) (s : Sand) (m p : Pt) : liesR (mS v s) m (p.add v) = liesR s m p := by
 unfold liesR mS
 simp only [List.length_map]
 refine all_congr fun i hi => ?_
 have hi := List.mem_range.1 hi
 rw [nxS_map _ hi, atP_map _ hi, add_sub p v m, sub_add, sub_add]
theorem insR_mov (v : Pt) (s : Sand) (m p : Pt) (r : Int) : insR (mS v s) m (p.add v) r = insR s m p r := by
 unfold insR
 rw [liesR_mov]
 have h : (mS v s).corners = s.corners.map fun p => p.add v := rfl
 rw [h, List.length_map, add_sub]
 congr 1
 refine any_congr fun i hi => ?_
 have hi := List.mem_range.1 hi
 rw [nxS_map _ hi, atP_map _ hi, nearR_mov]
theorem firstL_mov (v p : Pt) (r : Int) : ∀ (l : List Sand) (i : Int), firstL (p.add v) r i (l.map (mS v)) = firstL p r i l
 | [], _ => rfl
 | s :: l, i => by
  rw [List.map_cons, firstL, firstL, firstL_mov v p r l]
  show (match (movesL s.moves).find? (fun m => insR (mS v s) m (p.add v) r) with | some m => some (i, m) | none => _) = _
  rw [find_congr fun m _ => insR_mov v s m p r]
  all_goals (cases (movesL s.moves).find? (fun m => insR s m p r) <;> rfl)
theorem first_mov (v : Pt) (c : Cht) (p : Pt) (r : Int) : firstR (mC v c) (p.add v) r = firstR c p r := firstL_mov v p r c.sands 0
theorem rad_mov {v : Pt} {c : Cht} {p : Pt} (h : openX c p = 0) (h' : openX (mC v c) (p.add v) = 0) : radV (mC v c) (p.add v) = radV c p := by
 refine (rad_good h').unique (openX_ok h').1 ?_
 have g := rad_good h
 exact ⟨g.lo, g.hi, by rw [first_mov]; exact g.clear, fun h1 => by rw [first_mov]; exact g.most h1⟩
def sureR (p : Pt) : Int → List Sand → List Int
 | _, [] => []
 | i, s :: r => if sureS s p then i :: sureR p (i + 1) r else sureR p (i + 1) r
def someR (p : Pt) : Int → List Sand → List Int
 | _, [] => []
 | i, s :: r => if someS s p then i :: someR p (i + 1) r else someR p (i + 1) r
def onRA (c : Cht) (p : Pt) : List Int := if openX c p = 0 then sureR p 0 c.sands else []
def onRB (c : Cht) (p : Pt) : List Int := if openX c p = 0 then someR p 0 c.sands else []
theorem sure_eq (p : Pt) : ∀ (l : List Sand) (i : Int), (∀ s ∈ l, SandR s) → sureF p i l = sureR p i l
 | [], _, _ => rfl
 | s :: l, i, h => by rw [sureF, sureR, all_eq (h s (by simp)), sure_eq p l _ fun t ht => h t (by simp [ht])]
theorem some_eq (p : Pt) : ∀ (l : List Sand) (i : Int), (∀ s ∈ l, SandR s) → someF p i l = someR p i l
 | [], _, _ => rfl
 | s :: l, i, h => by rw [someF, someR, any_eq (h s (by simp)), some_eq p l _ fun t ht => h t (by simp [ht])]
theorem onA_eq (c : Cht) (p : Pt) : onA c p = onRA c p := by
 unfold onA onRA
 split
 ·rename_i h; exact sure_eq _ _ _ (openX_ok h).1.sand
 ·rfl
theorem onB_eq (c : Cht) (p : Pt) : onB c p = onRB c p := by
 unfold onB onRB
 split
 ·rename_i h; exact some_eq _ _ _ (openX_ok h).1.sand
 ·rfl
theorem sureR_mov (v p : Pt) : ∀ (l : List Sand) (i : Int), sureR (p.add v) i (l.map (mS v)) = sureR p i l
 | [], _ => rfl
 | s :: l, i => by
  rw [List.map_cons, sureR, sureR, sureR_mov v p l]
  have : sureS (mS v s) (p.add v) = sureS s p := all_congr fun m _ => liesR_mov v s m p
  rw [this]
theorem someR_mov (v p : Pt) : ∀ (l : List Sand) (i : Int), someR (p.add v) i (l.map (mS v)) = someR p i l
 | [], _ => rfl
 | s :: l, i => by
  rw [List.map_cons, someR, someR, someR_mov v p l]
  have : someS (mS v s) (p.add v) = someS s p := any_congr fun m _ => liesR_mov v s m p
  rw [this]
end Go.PX
namespace Go.PX
open Go.Proofs
end Go.PX
namespace Go.PX
open Go.Proofs
end Go.PX
namespace Go.PX
open Go.Proofs
end Go.PX
namespace Go.PX
open Go.Proofs
end Go.PX
namespace Go.PX
open Go.Proofs
theorem sureF_len (p : Pt) : ∀ (l : List Sand) (i : Int), (sureF p i l).length ≤ l.length
 | [], _ => Nat.le_refl _
 | s :: l, i => by
  have := sureF_len p l (i + 1)
  rw [sureF]
  split <;> simp <;> omega
theorem someF_len (p : Pt) : ∀ (l : List Sand) (i : Int), (someF p i l).length ≤ l.length
 | [], _ => Nat.le_refl _
 | s :: l, i => by
  have := someF_len p l (i + 1)
  rw [someF]
  split <;> simp <;> omega
theorem onA_len (c : Cht) (p : Pt) : (onA c p).length < 1000000 := by
 unfold onA
 split
 ·rename_i h
  have := sureF_len p c.sands 0
  have := (openX_ok h).1.sands
  omega
 ·simp
theorem onB_len (c : Cht) (p : Pt) : (onB c p).length < 1000000 := by
 unfold onB
 split
 ·rename_i h
  have := someF_len p c.sands 0
  have := (openX_ok h).1.sands
  omega
 ·simp
end Go.PX
namespace Go.PX
open Go.Proofs
def valL (c : Cht) : Bool := decide ((checkX c).2.2 = 0)
theorem ch43 (c : Cht) : FnV Tryz.prog 43 [c.d] (.bool (valL c)) := by
 refine fnV_of mixed tysOk Tryz.func43 rfl (ft := ft43) 1 (by decide +kernel) (by rfl) fun {σ} Y st => ?_
 conv=>whnf
 refine CallA_v (ch21x c) rfl rfl ?_
 conv=>whnf
 exact RetA_view 1 rfl ⟨⟨rfl, rfl⟩, rfl⟩
def wordsU (l : List Int) : D := .vs (l.map fun b => [.int .u16 b])
def turnF (x : List Int) (n : Nat) : Int := if x = [] then 0 else x.getD (n % x.length) 0
def U16 (x : List Int) : Prop := ∀ b ∈ x, 0 ≤ b ∧ b ≤ 65535
theorem ch49 (x : List Int) (hx : U16 x) (n : Nat) : FnV Tryz.prog 49 [wordsU x, i64 n] (i64 (turnF x n)) := by
 refine fnV_of mixed tysOk Tryz.func49 rfl (ft := ft49) 2 (by decide +kernel) (by rfl) fun {σ} Y st => ?_
 conv=>whnf
 by_cases h : x = []
 ·subst h
  conv=>whnf
  exact RetA_view 0 rfl ⟨⟨rfl, rfl⟩, rfl⟩
 ·have hl : 0 < x.length := List.length_pos_iff.2 h
  refine brk_i (fun h1 => absurd h1 (by simp [h])) (fun _ => ?_)
  conv=>whnf
  refine chk_i (decide_eq_true (by rw [List.length_map]; omega)) ?_
  conv=>whnf
  rw [List.length_map]
  have hm := Nat.mod_lt n hl
  have he : ((n : Int).tmod (x.length : Int)) = ((n % x.length : Nat) : Int) := by
   rw [Int.tmod_eq_emod_of_nonneg (by omega)]; omega
  rw [he]
  have hg : x[n % x.length]? = some (x[n % x.length]) := List.getElem?_eq_getElem hm
  refine elemK_nat hg ?_
  conv=>whnf
  have hb := hx _ (List.mem_of_getElem? hg)
  have ht : turnF x n = x[n % x.length] := by
   unfold turnF
   rw [if_neg h, List.getD_eq_getElem?_getD, hg]; rfl
  rw [← ht] at hb ⊢
  refine arith_in (wrap_i64 (by (try dsimp only); omega)) ?_
  conv=>whnf
  exact RetA_view 0 rfl ⟨⟨rfl, rfl⟩, rfl⟩
theorem turn_bd {x : List Int} (hx : U16 x) (n : Nat) : 0 ≤ turnF x n ∧ turnF x n ≤ 65535 := by
 unfold turnF
 split
 ·omega
 ·rename_i h
  have hm := Nat.mod_lt n (List.length_pos_iff.2 h)
  rw [List.getD_eq_getElem?_getD, List.getElem?_eq_getElem hm]
  exact hx _ (List.getElem_mem _)
def clampF (n : Int) : Int := max (-10000) (min 10000 n)
def clampP (p : Pt) : Pt := ⟨clampF p.x, clampF p.y⟩
def awayP (l : List Int) : Pt := ⟨(turnF l 1).tmod 400 - 200, (turnF l 2).tmod 400 - 200⟩
def atS (l : List Sand) (i : Nat) : Sand := (l[i]?).getD ⟨.empty, [], ⟨⟨0, 0⟩, ⟨0, 0⟩⟩⟩
def sandI (c : Cht) (l : List Int) : Sand := atS c.sands ((turnF l 0).toNat % c.sands.length)
def nearP (c : Cht) (l : List Int) : Pt := if c.sands = [] then clampP (awayP l) else clampP ((awayP l).add (atP (sandI c l).corners ((turnF l 3).toNat % (sandI c l).corners.length)))
theorem clamp_pin (p : Pt) : Pin 10000 (clampP p) := by
 have h : ∀ n, -10000 ≤ clampF n ∧ clampF n ≤ 10000 := fun n => by unfold clampF; omega
 exact ⟨h _, h _⟩
theorem near_pin (c : Cht) (l : List Int) : Pin 10000 (nearP c l) := by
 unfold nearP
 split <;> exact clamp_pin _
theorem tmod_nat {a : Int} {n : Nat} (ha : 0 ≤ a) : a.tmod (n : Int) = ((a.toNat % n : Nat) : Int) := by
 rw [Int.tmod_eq_emod_of_nonneg ha]
 obtain ⟨k, rfl⟩ := Int.eq_ofNat_of_zero_le ha
 simp
set_option maxHeartbeats 1000000 in
theorem ch44 (c : Cht) (hR : ChtR c) (l : List Int) (hl : U16 l) : FnV Tryz.prog 44 [c.d, wordsU l] (nearP c l).d := by
 refine fnV_of mixed tysOk Tryz.func44 rfl (ft := ft44) 2 (by decide +kernel) (by rfl) fun {σ} Y st => ?_
 conv=>whnf
 have h0 := turn_bd hl 0
 have h1 := turn_bd hl 1
 have h2 := turn_bd hl 2
 have h3 := turn_bd hl 3
 have t1 := Int.tmod_nonneg 400 h1.1
 have t2 := Int.tmod_lt_of_pos (turnF l 1) (b := 400) (by omega)
 have t3 := Int.tmod_nonneg 400 h2.1
 have t4 := Int.tmod_lt_of_pos (turnF l 2) (b := 400) (by omega)
 have hsl := hR.sands
 refine CallA_v (ds := [wordsU l, i64 1]) (ch49 l hl 1) rfl rfl ?_
 conv=>whnf
 refine arith_in (wrap_i64 (by (try dsimp only); omega)) ?_
 conv=>whnf
 refine CallA_v (ds := [wordsU l, i64 2]) (ch49 l hl 2) rfl rfl ?_
 conv=>whnf
 refine arith_in (wrap_i64 (by (try dsimp only); omega)) ?_
 conv=>whnf
 refine CallA_v (ch42 _ _) rfl rfl ?_
 conv=>whnf
 refine brk_i (fun h => ?_) (fun h => ?_)
 ·have hn : 0 < c.sands.length := by have := of_decide_eq_true h; simp at this; omega
  have hk := Nat.mod_lt (turnF l 0).toNat hn
  have hne : ¬ c.sands = [] := by rintro h; rw [h] at hn; simp at hn
  have hp : nearP c l = clampP ((awayP l).add (atP (sandI c l).corners ((turnF l 3).toNat % (sandI c l).corners.length))) := by unfold nearP; rw [if_neg hne]
  rw [hp]
  have hg : c.sands[(turnF l 0).toNat % c.sands.length]? = some (sandI c l) := by unfold sandI atS; simp [hk]
  have hS := hR.sand _ (List.mem_of_getElem? hg)
  generalize sandI c l = s at hg hS ⊢
  have hlen := hS.len
  have hj := Nat.mod_lt (turnF l 3).toNat (show 0 < s.corners.length by omega)
  have hq := hS.pin _ (atP_mem hj)
  generalize hjj : (turnF l 3).toNat % s.corners.length = j at hj hq ⊢
  conv=>whnf
  refine DrawCall_v (ds := [wordsU l, i64 0]) (ch49 l hl 0) rfl rfl ?_
  conv=>whnf
  refine chk_i (decide_eq_true (by simp only [List.length_map]; omega)) ?_
  conv=>whnf
  rw [List.length_map, tmod_nat h0.1]
  refine elemK_nat hg ?_
  conv=>whnf
  refine DrawCall_v (ds := [wordsU l, i64 3]) (ch49 l hl 3) rfl rfl ?_
  conv=>whnf
  refine chk_i (decide_eq_true (by simp only [List.length_map]; omega)) ?_
  conv=>whnf
  rw [List.length_map, tmod_nat h3.1, hjj]
  refine elemK_nat (atP_get hj) ?_
  conv=>whnf
  have haw : Pin 1000 (awayP l) := ⟨by show -1000 ≤ (turnF l 1).tmod 400 - 200 ∧ (turnF l 1).tmod 400 - 200 ≤ 1000; omega, by show -1000 ≤ (turnF l 2).tmod 400 - 200 ∧ (turnF l 2).tmod 400 - 200 ≤ 1000; omega⟩
  refine DrawCall_v (ds := [(awayP l).d, (atP s.corners j).d]) (ch54 _ _ (haw.mono (by omega)) (hq.mono (by omega))) rfl rfl ?_
  conv=>whnf
  refine CallA_v (ch42 _ _) rfl rfl ?_
  conv=>whnf
  exact RetA_view 0 rfl ⟨⟨rfl, rfl⟩, rfl⟩
 ·have hne : c.sands = [] := by
   have := of_decide_eq_false h
   simp at this
   exact this
  have hp : nearP c l = clampP (awayP l) := by unfold nearP; rw [if_pos hne]
  rw [hp]
  conv=>whnf
  refine CallA_v (ch42 _ _) rfl rfl ?_
  conv=>whnf
  exact RetA_view 0 rfl ⟨⟨rfl, rfl⟩, rfl⟩
end Go.PX
namespace Go.PX
open Go.Proofs Go.RowKit Go.ChangeShapes
theorem c64 : Tryz.prog.cellsOf 64 = 1 := by kernel_rfl
theorem c82 : Tryz.prog.cellsOf 82 = 1 := by kernel_rfl
theorem u16In {n : Int} (h : (Lit.int .u16 n).wf = true) : 0 ≤ n ∧ n ≤ 65535 := by
 simp only [Lit.wf, Bool.and_eq_true, decide_eq_true_eq] at h
 exact h
theorem Rd.intw {P : Program} {W : World} {t : TypeId} {k : IntKind} (ht : P.underlying t = some (.int k)) : Rd P W t fun ds => ∃ n, ds = [.int k n] ∧ (Lit.int k n).wf = true := by
 refine ⟨?_⟩
 intro H enc sp held fuel cs x h
 obtain ⟨n, rfl, _, hw⟩ := DataW.trod_int ht h
 exact ⟨[.int k n], ⟨n, rfl, hw⟩, _, [], rfl, rfl, rfl⟩
section
variable (W : World)
theorem rdU16 : Rd Tryz.prog W 82 fun ds => ∃ n, ds = [.int .u16 n] ∧ 0 ≤ n ∧ n ≤ 65535 := (Rd.intw Tryz.underlying82).mono fun ds ⟨n, h, w⟩ => ⟨n, h, u16In w⟩
theorem rdU16s : Rd Tryz.prog W 64 fun ds => ∃ l : List Int, ds = [wordsU l] ∧ U16 l :=
 (Rd.slice Tryz.underlying64 c82 (by omega) (rdU16 W)).mono fun ds h => by
  obtain ⟨es, rfl, he⟩ := h
  have : ∃ l : List Int, es = l.map (fun b => [D.int .u16 b]) ∧ U16 l := by
   induction es with
   | nil => exact ⟨[], rfl, fun b h => by cases h⟩
   | cons e r ih =>
    obtain ⟨l, h1, h2⟩ := ih fun x hx => he x (by simp [hx])
    obtain ⟨n, h3, h4⟩ := he e (by simp)
    refine ⟨n :: l, by rw [h3, h1]; rfl, fun b hb => ?_⟩
    rcases List.mem_cons.1 hb with rfl | hb
    ·exact h4
    ·exact h2 b hb
  obtain ⟨l, rfl, h2⟩ := this
  exact ⟨l, rfl, h2⟩
end
end Go.PX
namespace Go.PX
open Go.Proofs Go.RowKit Go.ChangeShapes
end Go.PX
namespace Go.PX
open Go.Proofs
theorem valid_open {c : Cht} (h : (checkX c).2.2 = 0) {p : Pt} (hp : Pin 10000 p) : openX c p = 0 := by
 unfold openX
 rw [if_pos h, if_pos (within_iff.2 hp)]
end Go.PX
namespace Go.PX
open Go.Proofs
end Go.PX
namespace Go.PX
open Go.Proofs Go.RowKit Go.ChangeShapes
theorem c5 : Tryz.prog.cellsOf 5 = 1 := by kernel_rfl
theorem u8In {n : Int} (h : (Lit.int .u8 n).wf = true) : 0 ≤ n ∧ n ≤ 255 := by
 simp only [Lit.wf, Bool.and_eq_true, decide_eq_true_eq] at h
 exact h
theorem rdU8 (W : World) : Rd Tryz.prog W 5 fun ds => ∃ n, ds = [.int .u8 n] ∧ 0 ≤ n ∧ n ≤ 255 := (Rd.intw Tryz.underlying5).mono fun ds ⟨n, h, w⟩ => ⟨n, h, u8In w⟩
end Go.PX
namespace Go.PX
open Go.Proofs
end Go.PX
namespace Go.PX
open Go.Proofs
end Go.PX
namespace Go.PX
open Go.Proofs
end Go.PX
namespace Go.PX
open Go.Proofs
end Go.PX
namespace Go.PX
open Go.Proofs
end Go.PX
namespace Go.PX
open Go.Proofs
open Go.RowKit Go.Proofs
end Go.PX
namespace Go.PX
open Go.Proofs
end Go.PX
namespace Go.PX
open Go.Proofs
end Go.PX
namespace Go.PX
open Go.Proofs
end Go.PX
namespace Go.PX
open Go.Proofs
end Go.PX
namespace Go.PX
open Go.Proofs
end Go.PX
namespace Go.PX
open Go.Proofs
theorem seenE_of {c : Cht} (hv : (checkX c).2.2 = 0) {day : Int} (hd : 0 ≤ day ∧ day ≤ 40000) {k : Nat} {m : Mark} (hm : c.marks[k]? = some m) {p : Pt} (hp : Pin 30000 p) :
  seenE c day k p = (if colB day (backN m.paints m.paints.length) = 0 then 9 else if sameP m.at' p then 8 else 0) ∧ seenV c day k p = (if seenE c day k p = 0 then towF (m.at'.sub p) else 0) := by
 have hk : k < c.marks.length := (List.getElem?_eq_some_iff.1 hm).1
 have h1 : marE c day k = 0 := by
  unfold marE
  rw [if_pos hv, if_pos (inB_iff.2 hd), if_pos (inB_iff.2 (by omega))]
 have h2 : marM c day k = m := by
  unfold marM
  rw [if_pos h1, Int.toNat_natCast, hm]; rfl
 have h3 : marC c day k = colB day (backN m.paints m.paints.length) := by
  unfold marC
  rw [if_pos h1, h2]
 have h4 : stdE c day k = if colB day (backN m.paints m.paints.length) = 0 then 9 else 0 := by
  unfold stdE
  rw [if_pos h1, h3]
 refine ⟨?_, ?_⟩
 ·unfold seenE
  rw [h4, h2]
  by_cases h : colB day (backN m.paints m.paints.length) = 0
  ·rw [if_pos h, if_pos h]; rfl
  ·rw [if_neg h, if_neg h, if_pos rfl, if_pos (within_iff.2 hp)]
 ·unfold seenV
  rw [h2]
structure FromX where
 day : Int
 mark : Int
 a : Int
 b : Int
def FromX.cells (x : FromX) : List D := [.int .u16 x.day, .int .u8 x.mark, .int .i16 x.a, .int .i16 x.b]
def FromX.ok (x : FromX) : Prop := (0 ≤ x.day ∧ x.day ≤ 65535) ∧ (0 ≤ x.mark ∧ x.mark ≤ 255) ∧ (-32768 ≤ x.a ∧ x.a ≤ 32767) ∧ (-32768 ≤ x.b ∧ x.b ≤ 32767)
end Go.PX
namespace Go.PX
open Go.Proofs Go.RowKit Go.ChangeShapes
theorem c83 : Tryz.prog.cellsOf 83 = 1 := by kernel_rfl
theorem c84 : Tryz.prog.cellsOf 84 = 2 * 1 := by kernel_rfl
theorem c86 : Tryz.prog.cellsOf 86 = 4 := by kernel_rfl
theorem i16In {n : Int} (h : (Lit.int .i16 n).wf = true) : -32768 ≤ n ∧ n ≤ 32767 := by
 simp only [Lit.wf, Bool.and_eq_true, decide_eq_true_eq] at h
 exact h
section
variable (W : World)
theorem rdI16 : Rd Tryz.prog W 83 fun ds => ∃ n, ds = [.int .i16 n] ∧ -32768 ≤ n ∧ n ≤ 32767 := (Rd.intw Tryz.underlying83).mono fun ds ⟨n, h, w⟩ => ⟨n, h, i16In w⟩
theorem rdPlaceZ : RdZ Tryz.prog W 84 fun ds => ∃ a b : Int, ds = [.int .i16 a, .int .i16 b] ∧ (-32768 ≤ a ∧ a ≤ 32767) ∧ (-32768 ≤ b ∧ b ≤ 32767) :=
 (RdZ.array Tryz.underlying84 c84 c83 (Rd.z (rdI16 W))).mono fun ds h => by
  obtain ⟨dss, rfl, hl, hd⟩ := h
  match dss, hl with
  | [x, y], _ =>
   obtain ⟨a, rfl, ha⟩ := hd x (by simp)
   obtain ⟨b, rfl, hb⟩ := hd y (by simp)
   exact ⟨a, b, rfl, ha, hb⟩
theorem rdFromZ : RdZ Tryz.prog W 86 fun ds => ∃ x : FromX, ds = x.cells ∧ x.ok :=
 (RdZ.struct Tryz.underlying86 c86 (.cons rfl c82 (rdU16 W).z (.cons rfl c5 (rdU8 W).z (.cons rfl c84 (rdPlaceZ W) (.nil _))))).mono fun ds h => by
  obtain ⟨_, _, rfl, ⟨a, rfl, ha⟩, _, _, rfl, ⟨b, rfl, hb⟩, _, _, rfl, ⟨p, q, rfl, hp, hq⟩, rfl⟩ := h
  exact ⟨⟨a, b, p, q⟩, rfl, ha, hb, hp, hq⟩
end
end Go.PX
namespace Go.PX
open Go.Proofs
theorem onA_mov {v : Pt} {c : Cht} {p : Pt} (h : openX c p = 0) (h' : openX (mC v c) (p.add v) = 0) : onA (mC v c) (p.add v) = onA c p := by
 rw [onA_eq, onA_eq]
 unfold onRA
 rw [if_pos h, if_pos h']
 exact sureR_mov v p c.sands 0
theorem onB_mov {v : Pt} {c : Cht} {p : Pt} (h : openX c p = 0) (h' : openX (mC v c) (p.add v) = 0) : onB (mC v c) (p.add v) = onB c p := by
 rw [onB_eq, onB_eq]
 unfold onRB
 rw [if_pos h, if_pos h']
 exact someR_mov v p c.sands 0
theorem sameP_add (a b v : Pt) : sameP (a.add v) (b.add v) = sameP a b := by
 rw [Bool.eq_iff_iff]
 unfold sameP Pt.add
 simp
theorem seen_mov {v : Pt} {c : Cht} (hv : (checkX c).2.2 = 0) (hv' : (checkX (mC v c)).2.2 = 0) {day : Int} (hd : 0 ≤ day ∧ day ≤ 40000) {k : Nat} (hk : k < c.marks.length) {p : Pt} (hp : Pin 30000 p) (hp' : Pin 30000 (p.add v)) :
  seenE (mC v c) day k (p.add v) = seenE c day k p ∧ seenV (mC v c) day k (p.add v) = seenV c day k p := by
 obtain ⟨m, hm⟩ : ∃ m, c.marks[k]? = some m := ⟨_, List.getElem?_eq_getElem hk⟩
 have hm' : (mC v c).marks[k]? = some (mM v m) := by show (c.marks.map (mM v))[k]? = _; rw [List.getElem?_map, hm]; rfl
 obtain ⟨e1, v1⟩ := seenE_of hv hd hm hp
 obtain ⟨e2, v2⟩ := seenE_of hv' hd hm' hp'
 have he : seenE (mC v c) day k (p.add v) = seenE c day k p := by
  rw [e1, e2]
  show (if colB day (backN m.paints m.paints.length) = 0 then 9 else if sameP (m.at'.add v) (p.add v) then 8 else 0) = _
  rw [sameP_add]
 refine ⟨he, ?_⟩
 rw [v1, v2, he]
 show (if _ then towF ((m.at'.add v).sub (p.add v)) else 0) = _
 rw [sub_add]
theorem get_frz2 {X : Option Obj} {g : Nat → Option DO} {i si ni j sj nj : Nat} {d1 d2 : D} (h1 : X = some (replO g (.box (.vv [.sl i si 0 ni, .sl j sj 0 nj])))) (hv1 : viewV g (.sl i si 0 ni) = some d1) (hv2 : viewV g (.sl j sj 0 nj) = some d2) : X = some (.box (.dd [d1, d2])) := by
 rw [h1]
 simp [replO, replL, repl, hv1, hv2, dsOf]
set_option maxHeartbeats 8000000 in
theorem ch12 (c : Cht) (va vb : Int) (hva : -128 ≤ va ∧ va ≤ 127) (hvb : -128 ≤ vb ∧ vb ≤ 127) (x : FromX) (hx : x.ok) (y : List Int) (hy : U16 y) : FnV Tryz.prog 12 [c.d, .agg [.int .i8 va, .int .i8 vb], .agg (x.cells ++ [wordsU y])] (.bool true) := by
 refine fnV_of mixed tysOk Tryz.func12 rfl (ft := ft12) 3 (by decide +kernel) (by rfl) fun {σ} Y st => ?_
 conv=>whnf
 refine CallA_v (ch43 c) rfl rfl ?_
 conv=>whnf
 by_cases hv : (checkX c).2.2 = 0
 case neg =>
  refine brk_i (fun _ => ?_) (fun h => absurd h (by simp [valL, hv]))
  conv=>whnf
  repeat' (first
   | (refine CallA_v (ch22) rfl rfl ?_; conv=>whnf)
   | (refine CallA_view (ch22) rfl 1 rfl ?_; conv=>whnf)
   | (refine DrawCall_v (ch22) rfl rfl ?_; conv=>whnf)
   | (refine DrawCall_view (ch22) rfl 1 rfl ?_; conv=>whnf)
   | (refine arith_in (wrap_i64 (by (try dsimp only); omega)) ?_; conv=>whnf)
   | (refine elemK_nat (by assumption) ?_; conv=>whnf)
   | (refine ownK_whole (by first | rfl | assumption | (simp [Els.len]; done) | (simp [Els.len]; omega)) ?_; conv=>whnf)
   | (refine chk_i (by first | (exact decide_eq_true (by (try simp only [List.length_map]); omega)) | (simp [Els.len, Els.cons, V.cells, Els.toV, injL]; done) | (simp [Els.len, Els.cons, V.cells, Els.toV, injL]; omega)) ?_; conv=>whnf)
   | fail)
  exact RetA_view 1 rfl ⟨⟨rfl, rfl⟩, rfl⟩
 have hR := checkX_ok hv
 have hml := hR.marks
 have hsl := hR.sands
 refine brk_i (fun h => absurd h (by simp [valL, hv])) (fun _ => ?_)
 conv=>whnf
 refine arith_in (wrap_i64 (by (try dsimp only); omega)) ?_
 conv=>whnf
 refine arith_in (wrap_i64 (by (try dsimp only); omega)) ?_
 conv=>whnf
 refine CallA_v (ch42 _ _) rfl rfl ?_
 have hpv : Pin 128 ⟨va, vb⟩ := ⟨by show -128 ≤ va ∧ va ≤ 128; omega, by show -128 ≤ vb ∧ vb ≤ 128; omega⟩
 generalize hvv : (⟨va, vb⟩ : Pt) = v at hpv ⊢
 clear hvv
 conv=>whnf
 refine LoopA_i (T := tys) tysOk (by exact drawsB_spec mixed tysOk (by decide +kernel)) c.marks (fun i (acc : List Mark) => ⟨[(3, .ptr 3 0), (5, .ptr 5 0), (7, .ptr 7 0), (8, .ptr 8 0), (9, .d (i64 i))], (3, .box (.dd c.cells)) :: (5, .box (.dd (x.cells ++ [wordsU y]))) :: (7, .box (.dd v.cells)) :: chtN 8 900001 900002 ⟨acc, []⟩, st⟩)
  (fun i l acc => acc.length = i ∧ c.marks.map (mM v) = acc ++ l.map (mM v)) [] ?_ ⟨rfl, by simp⟩ ?_ ?_
 ·refine ((Wk.bornAtD 8 900001 4 [] [.nils] rfl rfl rfl rfl rfl).trans (Wk.bornAt 8 900002 6 [.sl 900001 4 0 0] [] rfl rfl ?_ rfl)).trans ?_
  ·rfl
  ·exact Wk.sub ⟨rfl, rfl, rfl, rfl, rfl, trivial⟩ ⟨rfl, rfl, rfl, rfl, rfl, rfl, trivial⟩
 ·rintro i m l acc hmi hi hil ⟨hal, hac⟩
  have hmp := (hR.mark m (List.mem_of_getElem? hmi)).1
  conv=>whnf
  refine brk_i (fun _ => ?_) (fun h => absurd hi (by simpa using h))
  conv=>whnf
  refine elemK_nat hmi ?_
  conv=>whnf
  refine CallA_v (ds := [m.at'.d, v.d]) (ch54 m.at' v (hmp.mono (by omega)) (hpv.mono (by omega))) rfl rfl ?_
  conv=>whnf
  refine ownK_whole rfl ?_
  conv=>whnf
  refine ownK_whole (by simp [Els.len]) ?_
  conv=>whnf
  refine chk_i (decide_eq_true (by show ((acc.map Mark.cells).length + 1) * 56 ≤ _; simp only [List.length_map]; omega)) ?_
  conv=>whnf
  refine arith_in (wrap_i64 (by (try dsimp only); omega)) ?_
  conv=>whnf
  exact ⟨acc ++ [mM v m], ⟨by simp [hal], by rw [hac]; simp⟩, (Wk.move 66 900001 rfl rfl).trans (Wk.sub ⟨rfl, rfl, rfl, rfl, rfl, trivial⟩ ⟨rfl, rfl, rfl, congrArg (fun z : Nat => some (Obj.box (.vv [.sl 900001 4 0 z, .sl 900002 6 0 0]))) (by simp [Els.len]), congrArg (fun z => some (Obj.arr 4 (.dd z))) (by simp [Mark.cells, mM]), rfl, trivial⟩)⟩
 ·rintro ms ⟨hal, hac⟩
  have hac : ms = c.marks.map (mM v) := by rw [hac]; simp
  conv=>whnf
  refine brk_i (fun h => absurd h (by simp)) (fun _ => ?_)
  conv=>whnf
  refine LoopA_i (T := tys) tysOk (by exact drawsB_spec mixed tysOk (by decide +kernel)) c.sands (fun i (acc : List Sand) => ⟨[(3, .ptr 3 0), (5, .ptr 5 0), (7, .ptr 7 0), (8, .ptr 8 0), (11, .d (i64 i))], (3, .box (.dd c.cells)) :: (5, .box (.dd (x.cells ++ [wordsU y]))) :: (7, .box (.dd v.cells)) :: chtN 8 900001 900002 ⟨ms, acc⟩, st⟩)
   (fun i l acc => acc.length = i ∧ c.sands.map (mS v) = acc ++ l.map (mS v)) [] (Wk.sub ⟨(by first | rfl | (simp only [List.length_map]; rfl) | simp [PX.get]), (by first | rfl | (simp only [List.length_map]; rfl) | simp [PX.get]), (by first | rfl | (simp only [List.length_map]; rfl) | simp [PX.get]), (by first | rfl | (simp only [List.length_map]; rfl) | simp [PX.get]), (by first | rfl | (simp only [List.length_map]; rfl) | simp [PX.get]), trivial⟩ ⟨(by first | rfl | (simp only [List.length_map]; rfl) | simp [PX.get]), (by first | rfl | (simp only [List.length_map]; rfl) | simp [PX.get]), (by first | rfl | (simp only [List.length_map]; rfl) | simp [PX.get]), (by first | rfl | (simp only [List.length_map]; rfl) | simp [PX.get]), (by first | rfl | (simp only [List.length_map]; rfl) | simp [PX.get]), (by first | rfl | (simp only [List.length_map]; rfl) | simp [PX.get]), trivial⟩) ⟨rfl, by simp⟩ ?_ ?_
  ·rintro i s l acc hsi hi hil ⟨hal2, hac2⟩
   have hS := hR.sand s (List.mem_of_getElem? hsi)
   have hlen := hS.len
   conv=>whnf
   refine brk_i (fun _ => ?_) (fun h => absurd hi (by simpa using h))
   conv=>whnf
   refine elemK_nat hsi ?_
   conv=>whnf
   refine LoopA_i (T := tys) tysOk (by exact drawsB_spec mixed tysOk (by decide +kernel)) s.corners (fun j (cs : List Pt) => ⟨[(3, .ptr 3 0), (5, .ptr 5 0), (7, .ptr 7 0), (8, .ptr 8 0), (11, .d (i64 i)), (12, .ptr 12 0), (13, .d (i64 j))], (3, .box (.dd c.cells)) :: (5, .box (.dd (x.cells ++ [wordsU y]))) :: (7, .box (.dd v.cells)) :: (12, .box (.vv ([.d (.str s.name)] ++ .sl 900003 2 0 cs.length :: [.d (i64 s.moves.x.lo), .d (i64 s.moves.x.hi), .d (i64 s.moves.y.lo), .d (i64 s.moves.y.hi)]))) :: (900003, .arr 2 (.dd (cs.map Pt.cells))) :: chtN 8 900001 900002 ⟨ms, acc⟩, st⟩)
    (fun j l cs => cs.length = j ∧ s.corners.map (fun p => p.add v) = cs ++ l.map fun p => p.add v) [] ?_ ⟨rfl, by simp⟩ ?_ ?_
   ·exact (Wk.bornAtD 12 900003 2 [.str s.name] [i64 s.moves.x.lo, i64 s.moves.x.hi, i64 s.moves.y.lo, i64 s.moves.y.hi] rfl rfl rfl rfl rfl).trans (Wk.sub ⟨(by first | rfl | (simp only [List.length_map]; rfl) | simp [PX.get]), (by first | rfl | (simp only [List.length_map]; rfl) | simp [PX.get]), (by first | rfl | (simp only [List.length_map]; rfl) | simp [PX.get]), (by first | rfl | (simp only [List.length_map]; rfl) | simp [PX.get]), (by first | rfl | (simp only [List.length_map]; rfl) | simp [PX.get]), (by first | rfl | (simp only [List.length_map]; rfl) | simp [PX.get]), (by first | rfl | (simp only [List.length_map]; rfl) | simp [PX.get]), trivial⟩ ⟨(by first | rfl | (simp only [List.length_map]; rfl) | simp [PX.get]), (by first | rfl | (simp only [List.length_map]; rfl) | simp [PX.get]), (by first | rfl | (simp only [List.length_map]; rfl) | simp [PX.get]), (by first | rfl | (simp only [List.length_map]; rfl) | simp [PX.get]), (by first | rfl | (simp only [List.length_map]; rfl) | simp [PX.get]), (by first | rfl | (simp only [List.length_map]; rfl) | simp [PX.get]), (by first | rfl | (simp only [List.length_map]; rfl) | simp [PX.get]), (by first | rfl | (simp only [List.length_map]; rfl) | simp [PX.get]), trivial⟩)
   ·rintro j p l cs hpj hj hjl ⟨h1, h2⟩
    have hpp := hS.pin p (List.mem_of_getElem? hpj)
    conv=>whnf
    refine elemK_nat hsi ?_
    conv=>whnf
    refine brk_i (fun _ => ?_) (fun h => absurd hj (by simpa using h))
    conv=>whnf
    refine elemK_nat hsi ?_
    conv=>whnf
    refine elemK_nat hpj ?_
    conv=>whnf
    refine DrawCall_v (ds := [p.d, v.d]) (ch54 p v (hpp.mono (by omega)) (hpv.mono (by omega))) rfl rfl ?_
    conv=>whnf
    refine ownK_whole rfl ?_
    conv=>whnf
    refine ownK_whole (by simp [Els.len]) ?_
    conv=>whnf
    refine chk_i (decide_eq_true (by show ((cs.map Pt.cells).length + 1) * 16 ≤ _; simp only [List.length_map]; omega)) ?_
    conv=>whnf
    refine arith_in (wrap_i64 (by (try dsimp only); omega)) ?_
    conv=>whnf
    exact ⟨cs ++ [p.add v], ⟨by simp [h1], by rw [h2]; simp⟩, (Wk.move 106 900003 rfl rfl).trans (Wk.sub ⟨rfl, rfl, rfl, rfl, rfl, rfl, rfl, trivial⟩ ⟨rfl, rfl, rfl, congrArg (fun z : Nat => some (Obj.box (.vv [.d (.str s.name), .sl 900003 2 0 z, .d (i64 s.moves.x.lo), .d (i64 s.moves.x.hi), .d (i64 s.moves.y.lo), .d (i64 s.moves.y.hi)]))) (by simp [Els.len]), congrArg (fun z => some (Obj.arr 2 (.dd z))) (by simp [Pt.cells]), rfl, rfl, rfl, trivial⟩)⟩
   ·rintro cs ⟨h1, h2⟩
    have h2 : cs = s.corners.map fun p => p.add v := by rw [h2]; simp
    conv=>whnf
    refine elemK_nat hsi ?_
    conv=>whnf
    refine brk_i (fun h => absurd h (by simp)) (fun _ => ?_)
    conv=>whnf
    refine ownK_whole rfl ?_
    conv=>whnf
    refine ownK_whole (by simp [Els.len]) ?_
    conv=>whnf
    refine chk_i (by
     show (true && !nameBL 112 ((injL (acc.map Sand.cells) ++ [_]).flatten)) = true
     rw [nameBL_injL]; rfl) ?_
    conv=>whnf
    refine chk_i (decide_eq_true (by show ((acc.map Sand.cells).length + 1) * 72 ≤ _; simp only [List.length_map]; omega)) ?_
    conv=>whnf
    refine arith_in (wrap_i64 (by (try dsimp only); omega)) ?_
    conv=>whnf
    refine ⟨acc ++ [mS v s], ⟨by simp [hal2], by rw [hac2]; simp⟩, (Wk.frzArr 1 [900003] 112 (sz := 6) (vs := injL (acc.map Sand.cells) ++ [[.d (.str s.name), .sl 900003 2 0 cs.length, .d (i64 s.moves.x.lo), .d (i64 s.moves.x.hi), .d (i64 s.moves.y.lo), .d (i64 s.moves.y.hi)]]) (ds := acc.map Sand.cells ++ [(mS v s).cells]) ?_ (viewLL_app (viewLL_one (viewL_app (a := [.str s.name]) (viewL_cons ?_ rfl))) _)).trans ((Wk.move 112 900002 rfl rfl).trans ?_)⟩
    ·rfl
    ·exact viewV_sl' rfl (show _ = (s.corners.map fun p => p.add v).map Pt.cells from by rw [h2]) (by simp [h1, mS])
    ·exact Wk.sub ⟨rfl, rfl, rfl, rfl, rfl, trivial⟩ ⟨rfl, rfl, rfl, congrArg (fun z : Nat => some (Obj.box (.vv [.sl 900001 4 0 ms.length, .sl 900002 6 0 z]))) (by simp [Els.len, Els.toV, injL]), rfl, congrArg (fun z => some (Obj.arr 6 (.dd z))) (by simp), trivial⟩
  ·rintro acc ⟨hal2, hac2⟩
   have hac2 : acc = c.sands.map (mS v) := by rw [hac2]; simp
   have hoc : (mC v c).cells = [marksD ms, sandsD acc] := by rw [hac, hac2]; rfl
   conv=>whnf
   refine brk_i (fun h => absurd h (by simp)) (fun _ => ?_)
   conv=>whnf
   refine CallA_frz 1 [900001, 900002] ?_
   refine CallA_sub (e' := [(3, .ptr 3 0), (5, .ptr 5 0), (7, .ptr 7 0), (8, .ptr 8 0)]) (h' := [(3, .box (.dd c.cells)), (5, .box (.dd (x.cells ++ [wordsU y]))), (7, .box (.dd v.cells)), (8, .box (.dd (mC v c).cells))]) (args' := [.d c.d, .d (wordsU y)]) ⟨rfl, rfl, rfl, rfl, trivial⟩ ⟨rfl, rfl, rfl, ?_, trivial⟩ rfl ?_
   ·rw [hoc]
    exact get_frz2 rfl (viewV_sl rfl (by simp)) (viewV_sl rfl (by simp))
   clear hoc hac hac2 hal hal2
   refine CallA_v (ds := [c.d, wordsU y]) (ch44 c hR y hy) rfl rfl ?_
   have hp := near_pin c y
   generalize nearP c y = p at hp ⊢
   conv=>whnf
   refine CallA_v (ds := [p.d, v.d]) (ch54 p v (hp.mono (by omega)) (hpv.mono (by omega))) rfl rfl ?_
   conv=>whnf
   refine CallA_v (ds := [(mC v c).d]) (ch43 (mC v c)) rfl rfl ?_
   by_cases hv' : (checkX (mC v c)).2.2 = 0
   case neg =>
    rw [show valL (mC v c) = false from decide_eq_false hv']
    conv=>whnf
    repeat' (first
     | (refine CallA_v (ch22) rfl rfl ?_; conv=>whnf)
     | (refine CallA_view (ch22) rfl 1 rfl ?_; conv=>whnf)
     | (refine DrawCall_v (ch22) rfl rfl ?_; conv=>whnf)
     | (refine DrawCall_view (ch22) rfl 1 rfl ?_; conv=>whnf)
     | (refine arith_in (wrap_i64 (by (try dsimp only); omega)) ?_; conv=>whnf)
     | (refine elemK_nat (by assumption) ?_; conv=>whnf)
     | (refine ownK_whole (by first | rfl | assumption | (simp [Els.len]; done) | (simp [Els.len]; omega)) ?_; conv=>whnf)
     | (refine chk_i (by first | (exact decide_eq_true (by (try simp only [List.length_map]); omega)) | (simp [Els.len, Els.cons, V.cells, Els.toV, injL]; done) | (simp [Els.len, Els.cons, V.cells, Els.toV, injL]; omega)) ?_; conv=>whnf)
     | fail)
    exact RetA_view 1 rfl ⟨⟨rfl, rfl⟩, rfl⟩
   rw [show valL (mC v c) = true from decide_eq_true hv']
   conv=>whnf
   refine CallA_v (ds := [(p.add v).d, i64 10000]) (ch55 (p.add v) 10000 (by omega)) rfl rfl ?_
   cases hw : withinB 10000 (p.add v) with
   | false =>
    conv=>whnf
    repeat' (first
     | (refine CallA_v (ch22) rfl rfl ?_; conv=>whnf)
     | (refine CallA_view (ch22) rfl 1 rfl ?_; conv=>whnf)
     | (refine DrawCall_v (ch22) rfl rfl ?_; conv=>whnf)
     | (refine DrawCall_view (ch22) rfl 1 rfl ?_; conv=>whnf)
     | (refine arith_in (wrap_i64 (by (try dsimp only); omega)) ?_; conv=>whnf)
     | (refine elemK_nat (by assumption) ?_; conv=>whnf)
     | (refine ownK_whole (by first | rfl | assumption | (simp [Els.len]; done) | (simp [Els.len]; omega)) ?_; conv=>whnf)
     | (refine chk_i (by first | (exact decide_eq_true (by (try simp only [List.length_map]); omega)) | (simp [Els.len, Els.cons, V.cells, Els.toV, injL]; done) | (simp [Els.len, Els.cons, V.cells, Els.toV, injL]; omega)) ?_; conv=>whnf)
     | fail)
    exact RetA_view 1 rfl ⟨⟨rfl, rfl⟩, rfl⟩
   | true =>
    have hp' := within_iff.1 hw
    have ho := valid_open hv hp
    have ho' := valid_open hv' hp'
    have hla := onA_len c p
    have hlb := onB_len c p
    have hc1 : FnV Tryz.prog 23 [c.d, p.d] (.tup [intsD (onA c p), intsD (onB c p), i64 0]) := FnV.cast (ch23 c p) (by rw [ho])
    have hc2 : FnV Tryz.prog 23 [(mC v c).d, (p.add v).d] (.tup [intsD (onA c p), intsD (onB c p), i64 0]) := FnV.cast (ch23 (mC v c) (p.add v)) (by rw [ho', onA_mov ho ho', onB_mov ho ho'])
    have hc3 : FnV Tryz.prog 28 [c.d, p.d] (.tup [i64 (radV c p), i64 0]) := FnV.cast (ch28 c p) (by rw [ho])
    have hc4 : FnV Tryz.prog 28 [(mC v c).d, (p.add v).d] (.tup [i64 (radV c p), i64 0]) := FnV.cast (ch28 (mC v c) (p.add v)) (by rw [ho', rad_mov ho ho'])
    generalize radV c p = r at hc3 hc4
    generalize onA c p = A1 at hc1 hc2 hla
    generalize onB c p = B1 at hc1 hc2 hlb
    conv=>whnf
    refine CallA_v (ds := [c.d, p.d]) (fun {σ} => hc1) rfl rfl ?_
    conv=>whnf
    refine CallA_v (ds := [(mC v c).d, (p.add v).d]) (fun {σ} => hc2) rfl rfl ?_
    conv=>whnf
    refine CallA_v (ds := [c.d, p.d]) (fun {σ} => hc3) rfl rfl ?_
    conv=>whnf
    refine CallA_v (ds := [(mC v c).d, (p.add v).d]) (fun {σ} => hc4) rfl rfl ?_
    conv=>whnf
    refine CallA_v (a16 A1 hla) rfl rfl ?_
    conv=>whnf
    conv=>whnf
    refine CallA_v (a16 B1 hlb) rfl rfl ?_
    conv=>whnf
    refine brk_i (fun h => absurd h (by simp)) (fun _ => ?_)
    obtain ⟨x1, x2, x3, x4⟩ := hx
    conv=>whnf
    refine arith_in (wrap_i64 (by (try dsimp only); omega)) ?_
    conv=>whnf
    refine arith_in (wrap_i64 (by (try dsimp only); omega)) ?_
    conv=>whnf
    refine CallA_v (ch42 _ _) rfl rfl ?_
    have hpq : Pin 32768 ⟨x.a, x.b⟩ := ⟨by show -32768 ≤ x.a ∧ x.a ≤ 32768; omega, by show -32768 ≤ x.b ∧ x.b ≤ 32768; omega⟩
    generalize hqq : (⟨x.a, x.b⟩ : Pt) = q at hpq ⊢
    conv=>whnf
    refine CallA_v (ds := [q.d, v.d]) (ch54 q v (hpq.mono (by omega)) (hpv.mono (by omega))) rfl rfl ?_
    conv=>whnf
    refine brk_i (fun h0 => ?_) (fun h0 => ?_)
    ·conv=>whnf
     repeat' (first
      | (refine CallA_v (ch22) rfl rfl ?_; conv=>whnf)
      | (refine CallA_view (ch22) rfl 1 rfl ?_; conv=>whnf)
      | (refine DrawCall_v (ch22) rfl rfl ?_; conv=>whnf)
      | (refine DrawCall_view (ch22) rfl 1 rfl ?_; conv=>whnf)
      | (refine arith_in (wrap_i64 (by (try dsimp only); omega)) ?_; conv=>whnf)
      | (refine elemK_nat (by assumption) ?_; conv=>whnf)
      | (refine ownK_whole (by first | rfl | assumption | (simp [Els.len]; done) | (simp [Els.len]; omega)) ?_; conv=>whnf)
      | (refine chk_i (by first | (exact decide_eq_true (by (try simp only [List.length_map]); omega)) | (simp [Els.len, Els.cons, V.cells, Els.toV, injL]; done) | (simp [Els.len, Els.cons, V.cells, Els.toV, injL]; omega)) ?_; conv=>whnf)
      | fail)
     exact RetA_view 1 rfl ⟨⟨rfl, rfl⟩, rfl⟩
    have h0 : 0 < c.marks.length := by
     have := of_decide_eq_false h0
     simp at this
     exact List.length_pos_iff.2 this
    conv=>whnf
    refine CallA_v (ds := [q.d, i64 30000]) (ch55 q 30000 (by omega)) rfl rfl ?_
    cases hw1 : withinB 30000 q with
    | false =>
     conv=>whnf
     repeat' (first
      | (refine CallA_v (ch22) rfl rfl ?_; conv=>whnf)
      | (refine CallA_view (ch22) rfl 1 rfl ?_; conv=>whnf)
      | (refine DrawCall_v (ch22) rfl rfl ?_; conv=>whnf)
      | (refine DrawCall_view (ch22) rfl 1 rfl ?_; conv=>whnf)
      | (refine arith_in (wrap_i64 (by (try dsimp only); omega)) ?_; conv=>whnf)
      | (refine elemK_nat (by assumption) ?_; conv=>whnf)
      | (refine ownK_whole (by first | rfl | assumption | (simp [Els.len]; done) | (simp [Els.len]; omega)) ?_; conv=>whnf)
      | (refine chk_i (by first | (exact decide_eq_true (by (try simp only [List.length_map]); omega)) | (simp [Els.len, Els.cons, V.cells, Els.toV, injL]; done) | (simp [Els.len, Els.cons, V.cells, Els.toV, injL]; omega)) ?_; conv=>whnf)
      | fail)
     exact RetA_view 1 rfl ⟨⟨rfl, rfl⟩, rfl⟩
    | true =>
     conv=>whnf
     refine CallA_v (ds := [(q.add v).d, i64 30000]) (ch55 (q.add v) 30000 (by omega)) rfl rfl ?_
     cases hw2 : withinB 30000 (q.add v) with
     | false =>
      conv=>whnf
      repeat' (first
       | (refine CallA_v (ch22) rfl rfl ?_; conv=>whnf)
       | (refine CallA_view (ch22) rfl 1 rfl ?_; conv=>whnf)
       | (refine DrawCall_v (ch22) rfl rfl ?_; conv=>whnf)
       | (refine DrawCall_view (ch22) rfl 1 rfl ?_; conv=>whnf)
       | (refine arith_in (wrap_i64 (by (try dsimp only); omega)) ?_; conv=>whnf)
       | (refine elemK_nat (by assumption) ?_; conv=>whnf)
       | (refine ownK_whole (by first | rfl | assumption | (simp [Els.len]; done) | (simp [Els.len]; omega)) ?_; conv=>whnf)
       | (refine chk_i (by first | (exact decide_eq_true (by (try simp only [List.length_map]); omega)) | (simp [Els.len, Els.cons, V.cells, Els.toV, injL]; done) | (simp [Els.len, Els.cons, V.cells, Els.toV, injL]; omega)) ?_; conv=>whnf)
       | fail)
      exact RetA_view 1 rfl ⟨⟨rfl, rfl⟩, rfl⟩
     | true =>
      have hq1 := within_iff.1 hw1
      have hq2 := within_iff.1 hw2
      have hd0 := Int.tmod_nonneg 40001 x1.1
      have hd1 := Int.tmod_lt_of_pos x.day (b := 40001) (by omega)
      have hk := Nat.mod_lt x.mark.toNat h0
      conv=>whnf
      refine arith_in (wrap_i64 (by (try dsimp only); omega)) ?_
      conv=>whnf
      refine arith_in (wrap_i64 (by (try dsimp only); omega)) ?_
      conv=>whnf
      refine chk_i (decide_eq_true (by simp only [List.length_map]; omega)) ?_
      conv=>whnf
      rw [List.length_map, tmod_nat x2.1]
      generalize x.day.tmod 40001 = day at hd0 hd1 ⊢
      generalize x.mark.toNat % c.marks.length = k at hk ⊢
      obtain ⟨s1, s2⟩ := seen_mov hv hv' (show 0 ≤ day ∧ day ≤ 40000 by omega) hk hq1 hq2
      have hc5 : FnV Tryz.prog 32 [c.d, i64 day, i64 k, q.d] (.tup [i64 (seenV c day k q), i64 (seenE c day k q)]) := ch32 c day k q
      have hc6 : FnV Tryz.prog 32 [(mC v c).d, i64 day, i64 k, (q.add v).d] (.tup [i64 (seenV c day k q), i64 (seenE c day k q)]) := FnV.cast (ch32 (mC v c) day k (q.add v)) (by rw [s1, s2])
      conv=>whnf
      refine CallA_v (ds := [c.d, i64 day, i64 k, q.d]) (fun {σ} => hc5) rfl rfl ?_
      conv=>whnf
      refine CallA_v (ds := [(mC v c).d, i64 day, i64 k, (q.add v).d]) (fun {σ} => hc6) rfl rfl ?_
      conv=>whnf
      refine brk_i (fun _ => ?_) (fun h => absurd h (by simp))
      conv=>whnf
      refine brk_i (fun _ => ?_) (fun h => absurd h (by simp))
      conv=>whnf
      repeat' (first
       | (refine CallA_v (ch22) rfl rfl ?_; conv=>whnf)
       | (refine CallA_view (ch22) rfl 1 rfl ?_; conv=>whnf)
       | (refine DrawCall_v (ch22) rfl rfl ?_; conv=>whnf)
       | (refine DrawCall_view (ch22) rfl 1 rfl ?_; conv=>whnf)
       | (refine arith_in (wrap_i64 (by (try dsimp only); omega)) ?_; conv=>whnf)
       | (refine elemK_nat (by assumption) ?_; conv=>whnf)
       | (refine ownK_whole (by first | rfl | assumption | (simp [Els.len]; done) | (simp [Els.len]; omega)) ?_; conv=>whnf)
       | (refine chk_i (by first | (exact decide_eq_true (by (try simp only [List.length_map]); omega)) | (simp [Els.len, Els.cons, V.cells, Els.toV, injL]; done) | (simp [Els.len, Els.cons, V.cells, Els.toV, injL]; omega)) ?_; conv=>whnf)
       | fail)
      exact RetA_view 1 rfl ⟨⟨rfl, rfl⟩, rfl⟩
end Go.PX
namespace Go.PX
open Go.Proofs Go.RowKit Go.ChangeShapes
theorem c89 : Tryz.prog.cellsOf 89 = 1 := by kernel_rfl
theorem c90 : Tryz.prog.cellsOf 90 = 2 * 1 := by kernel_rfl
theorem c92 : Tryz.prog.cellsOf 92 = 5 := by kernel_rfl
theorem i8In {n : Int} (h : (Lit.int .i8 n).wf = true) : -128 ≤ n ∧ n ≤ 127 := by
 simp only [Lit.wf, Bool.and_eq_true, decide_eq_true_eq] at h
 exact h
section
variable (W : World)
theorem rdI8 : Rd Tryz.prog W 89 fun ds => ∃ n, ds = [.int .i8 n] ∧ -128 ≤ n ∧ n ≤ 127 := (Rd.intw Tryz.underlying89).mono fun ds ⟨n, h, w⟩ => ⟨n, h, i8In w⟩
theorem rdI8sZ : RdZ Tryz.prog W 90 fun ds => ∃ a b : Int, ds = [.int .i8 a, .int .i8 b] ∧ (-128 ≤ a ∧ a ≤ 127) ∧ (-128 ≤ b ∧ b ≤ 127) :=
 (RdZ.array Tryz.underlying90 c90 c89 (Rd.z (rdI8 W))).mono fun ds h => by
  obtain ⟨dss, rfl, hl, hd⟩ := h
  match dss, hl with
  | [x, y], _ =>
   obtain ⟨a, rfl, ha⟩ := hd x (by simp)
   obtain ⟨b, rfl, hb⟩ := hd y (by simp)
   exact ⟨a, b, rfl, ha, hb⟩
theorem rdBothZ : RdZ Tryz.prog W 92 fun ds => ∃ (x : FromX) (y : List Int), ds = x.cells ++ [wordsU y] ∧ x.ok ∧ U16 y :=
 (RdZ.struct Tryz.underlying92 c92 (.cons rfl c86 (rdFromZ W) (.cons rfl c64 (rdU16s W).z (.nil _)))).mono fun ds h => by
  obtain ⟨_, _, rfl, ⟨x, rfl, hx⟩, _, _, rfl, ⟨y, rfl, hy⟩, rfl⟩ := h
  exact ⟨x, y, rfl, hx, hy⟩
end
end Go.PX
