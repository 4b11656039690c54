import Derived.Test.YtboaolnlajoanaaGreatDoorPxO
import Derived.Test.YtboaolnlajoanaaGreatDoorPxL
set_option linter.all false
set_option maxRecDepth 10000
namespace Go.PX
open Go.Proofs
def nxS (l : List Pt) (i : Nat) : Pt := atP l ((i + 1) % l.length)
def liesR (s : Sand) (m p : Pt) : Bool := (List.range s.corners.length).all fun i => decide (0 ≤ leftF ((nxS s.corners i).sub (atP s.corners i)) ((p.sub m).sub (atP s.corners i)))
def nearR (a b p : Pt) (r : Int) : Bool :=
 if dotF (b.sub a) (p.sub a) ≤ 0 then decide (sqF (p.sub a) < r * r) else if sqF (b.sub a) ≤ dotF (b.sub a) (p.sub a) then decide (sqF (p.sub b) < r * r) else decide (leftF (b.sub a) (p.sub a) * leftF (b.sub a) (p.sub a) < r * r * sqF (b.sub a))
def insR (s : Sand) (m p : Pt) (r : Int) : Bool := (decide (0 < r) && liesR s m p) || (List.range s.corners.length).any fun i => nearR (atP s.corners i) (nxS s.corners i) (p.sub m) r
theorem mem_sides {s : Sand} (h0 : 0 < s.corners.length) (z : Pt × Pt) : z ∈ sidesF s ↔ ∃ i, i < s.corners.length ∧ z = (atP s.corners i, sideF s.corners.length (atP s.corners) i) := by
 have hlast : lastP s.corners = atP s.corners (s.corners.length - 1) := rfl
 unfold sidesF
 rw [sidesL_map, hlast, List.mem_map]
 constructor
 ·rintro ⟨j, hj, rfl⟩
  have hj := List.mem_range.1 hj
  by_cases h : j = 0
  ·subst h
   refine ⟨s.corners.length - 1, by omega, ?_⟩
   simp only [if_true]
   unfold sideF
   rw [Nat.sub_add_cancel (by omega), Nat.mod_self]
  ·refine ⟨j - 1, by omega, ?_⟩
   simp only [if_neg h]
   unfold sideF
   rw [Nat.sub_add_cancel (by omega), Nat.mod_eq_of_lt hj]
 ·rintro ⟨i, hi, rfl⟩
  by_cases h : i + 1 = s.corners.length
  ·refine ⟨0, List.mem_range.2 h0, ?_⟩
   simp only [if_true]
   unfold sideF
   rw [h, Nat.mod_self, show s.corners.length - 1 = i by omega]
  ·refine ⟨i + 1, List.mem_range.2 (by omega), ?_⟩
   simp only [if_neg (Nat.succ_ne_zero i)]
   unfold sideF
   rw [Nat.mod_eq_of_lt (show i + 1 < s.corners.length by omega), Nat.add_sub_cancel]
theorem roundR_iff {l : List Pt} (h3 : 3 ≤ l.length) (h : roundR l = true) : Round l.length (atP l) := by
 refine ⟨h3, fun i k hi hk h1 h2 => ?_⟩
 unfold roundR at h
 have := List.all_eq_true.1 h i (List.mem_range.2 hi)
 unfold rowOk at this
 have := List.all_eq_true.1 this k (List.mem_range.2 hk)
 unfold cornerOk at this
 simpa [h1, h2] using this
theorem SandR.round {s : Sand} (h : SandR s) : Round s.corners.length (atP s.corners) := by
 have h3 := h.len.1
 refine roundR_iff h3 ?_
 rw [← sides_round h3]
 exact List.all_eq_true.2 h.sides
theorem liesR_iff {s : Sand} {m p : Pt} : liesR s m p = true ↔ ∀ i, i < s.corners.length → 0 ≤ farF s.corners.length (atP s.corners) (p.sub m) i := by
 unfold liesR
 rw [List.all_eq_true]
 constructor
 ·intro h i hi
  exact of_decide_eq_true (h i (List.mem_range.2 hi))
 ·intro h i hi
  exact decide_eq_true (h i (List.mem_range.1 hi))
theorem nearR_iff {a b p : Pt} {r : Int} (he : 0 < sqF (b.sub a)) : nearR a b p r = true ↔ Mid (b.sub a) (p.sub a) r := by
 have e : (p.sub a).sub (b.sub a) = p.sub b := by unfold Pt.sub; simp; constructor <;> omega
 unfold nearR
 split
 ·rename_i h1
  rw [decide_eq_true_eq]
  exact ⟨mid_0, mid_lo h1⟩
 ·rename_i h1
  split
  ·rename_i h2
   rw [decide_eq_true_eq, ← e]
   exact ⟨mid_1, mid_hi h2⟩
  ·rename_i h2
   rw [decide_eq_true_eq]
   exact ⟨mid_m he (by omega) (by omega), mid_in he⟩
theorem nearS_iff {p : Pt} {r : Int} {z : Pt × Pt} (he : 0 < sqF z.2) : nearS p r z = true ↔ Mid z.2 (p.sub z.1) r := by
 have hd : ∀ v : Pt, dotF v v = sqF v := fun v => rfl
 unfold nearS distF
 rw [decide_eq_true_eq]
 split
 ·rename_i h1
  simp only [hd, Int.mul_one]
  exact ⟨mid_0, mid_lo (by omega)⟩
 ·rename_i h1
  split
  ·rename_i h2
   simp only [hd, Int.mul_one]
   exact ⟨mid_1, mid_hi (by rw [hd] at h2; omega)⟩
  ·rename_i h2
   rw [hd] at h2
   simp only [hd]
   exact ⟨mid_m he (by omega) (by omega), mid_in he⟩
theorem nearL_iff (p : Pt) (r : Int) : ∀ (l : List (Pt × Pt)) (on : Bool), nearL p r on l = true ↔ (∃ z ∈ l, leftF z.2 (p.sub z.1) < 0 ∧ nearS p r z = true) ∨ (on = true ∧ ∀ z ∈ l, 0 ≤ leftF z.2 (p.sub z.1))
 | [], on => by simp [nearL]
 | z :: l, on => by
  rw [nearL]
  by_cases h1 : 0 ≤ leftF z.2 (p.sub z.1)
  ·rw [if_pos h1, nearL_iff p r l on]
   constructor
   ·rintro (⟨y, hy, h⟩ | ⟨h, h2⟩)
    ·exact .inl ⟨y, by simp [hy], h⟩
    ·refine .inr ⟨h, fun y hy => ?_⟩
     rcases List.mem_cons.1 hy with rfl | hy
     ·exact h1
     ·exact h2 y hy
   ·rintro (⟨y, hy, h, h2⟩ | ⟨h, h2⟩)
    ·rcases List.mem_cons.1 hy with rfl | hy
     ·omega
     ·exact .inl ⟨y, hy, h, h2⟩
    ·exact .inr ⟨h, fun y hy => h2 y (by simp [hy])⟩
  ·rw [if_neg h1]
   by_cases h2 : nearS p r z = true
   ·rw [if_pos h2]
    exact ⟨fun _ => .inl ⟨z, by simp, by omega, h2⟩, fun _ => rfl⟩
   ·rw [if_neg h2, nearL_iff p r l false]
    constructor
    ·rintro (⟨y, hy, h⟩ | ⟨h, _⟩)
     ·exact .inl ⟨y, by simp [hy], h⟩
     ·cases h
    ·rintro (⟨y, hy, h, h3⟩ | ⟨_, h3⟩)
     ·rcases List.mem_cons.1 hy with rfl | hy
      ·exact absurd h3 h2
      ·exact .inl ⟨y, hy, h, h3⟩
     ·exact absurd (h3 z (by simp)) h1
theorem nearX_iff {s : Sand} (h : SandR s) (p : Pt) (r : Int) : nearX s p r = true ↔ (∃ k, k < s.corners.length ∧ farF s.corners.length (atP s.corners) p k < 0 ∧ Mid (sideF s.corners.length (atP s.corners) k) (p.sub (atP s.corners k)) r) ∨ ∀ k, k < s.corners.length → 0 ≤ farF s.corners.length (atP s.corners) p k := by
 have h3 := h.len.1
 have h0 : 0 < s.corners.length := by omega
 have hR := h.round
 have hM : ∀ k, k < s.corners.length → (nearS p r (atP s.corners k, sideF s.corners.length (atP s.corners) k) = true ↔ Mid (sideF s.corners.length (atP s.corners) k) (p.sub (atP s.corners k)) r) := fun k hk => nearS_iff (z := (atP s.corners k, sideF s.corners.length (atP s.corners) k)) (hR.side_pos hk)
 have hL := nearL_iff p r (sidesF s) true
 have hms := mem_sides h0
 unfold nearX
 rw [hL]
 constructor
 ·rintro (⟨z, hz, h1, h2⟩ | ⟨_, h1⟩)
  ·obtain ⟨k, hk, rfl⟩ := (hms z).1 hz
   exact .inl ⟨k, hk, h1, (hM k hk).1 h2⟩
  ·exact .inr fun k hk => h1 _ ((hms _).2 ⟨k, hk, rfl⟩)
 ·rintro (⟨k, hk, h1, h2⟩ | h1)
  ·exact .inl ⟨_, (hms _).2 ⟨k, hk, rfl⟩, h1, (hM k hk).2 h2⟩
  ·refine .inr ⟨rfl, fun z hz => ?_⟩
   obtain ⟨k, hk, rfl⟩ := (hms z).1 hz
   exact h1 k hk
theorem insR_iff {s : Sand} (h : SandR s) (m p : Pt) (r : Int) : insR s m p r = true ↔ (0 < r ∧ ∀ k, k < s.corners.length → 0 ≤ farF s.corners.length (atP s.corners) (p.sub m) k) ∨ ∃ k, k < s.corners.length ∧ Mid (sideF s.corners.length (atP s.corners) k) ((p.sub m).sub (atP s.corners k)) r := by
 have hR := h.round
 unfold insR
 rw [Bool.or_eq_true, Bool.and_eq_true, liesR_iff, decide_eq_true_eq, List.any_eq_true]
 constructor
 ·rintro (h | ⟨k, hk, h⟩)
  ·exact .inl h
  ·have hk := List.mem_range.1 hk
   exact .inr ⟨k, hk, (nearR_iff (hR.side_pos hk)).1 h⟩
 ·rintro (h | ⟨k, hk, h⟩)
  ·exact .inl h
  ·exact .inr ⟨k, List.mem_range.2 hk, (nearR_iff (hR.side_pos hk)).2 h⟩
theorem near_ins {s : Sand} (h : SandR s) (m p : Pt) {r : Int} (hr : 0 < r) : nearX s (p.sub m) r = insR s m p r := by
 rw [Bool.eq_iff_iff, nearX_iff h, insR_iff h]
 constructor
 ·rintro (⟨k, hk, _, h2⟩ | h1)
  ·exact .inr ⟨k, hk, h2⟩
  ·exact .inl ⟨hr, h1⟩
 ·rintro (⟨_, h1⟩ | ⟨k, hk, h2⟩)
  ·exact .inr h1
  ·by_cases h3 : ∃ k, k < s.corners.length ∧ farF s.corners.length (atP s.corners) (p.sub m) k < 0
   ·exact .inl (enter_side h.round hk h2 h3)
   ·refine .inr fun k hk => ?_
    rcases Int.lt_or_le (farF s.corners.length (atP s.corners) (p.sub m) k) 0 with h4 | h4
    ·exact absurd ⟨k, hk, h4⟩ h3
    ·exact h4
theorem mid_0r {e t : Pt} : ¬ Mid e t 0 := by
 rintro ⟨u, v, h0, h1, h2, h⟩
 have e1 : v * v * sqF t - 2 * (u * v) * dotF e t + u * u * sqF e = sqF ⟨v * t.x - u * e.x, v * t.y - u * e.y⟩ := by
  unfold sqF dotF; grind
 rw [e1] at h
 have := sqF_nonneg ⟨v * t.x - u * e.x, v * t.y - u * e.y⟩
 simp at h
 omega
theorem ins_0 {s : Sand} (h : SandR s) (m p : Pt) : insR s m p 0 = false := by
 rw [Bool.eq_false_iff]
 intro h1
 rcases (insR_iff h m p 0).1 h1 with ⟨h2, _⟩ | ⟨k, _, h2⟩
 ·omega
 ·exact mid_0r h2
theorem mid_mono {e t : Pt} {r r' : Int} (h0 : 0 ≤ r) (hr : r ≤ r') (h : Mid e t r) : Mid e t r' := by
 obtain ⟨u, v, a, b, c, h⟩ := h
 refine ⟨u, v, a, b, c, ?_⟩
 have h1 : r * r ≤ r' * r' := Int.mul_le_mul hr hr h0 (by omega)
 have h2 := Int.mul_le_mul_of_nonneg_right h1 (show 0 ≤ v * v from sq_nonneg v)
 omega
theorem ins_mono {s : Sand} (h : SandR s) {m p : Pt} {r r' : Int} (h0 : 0 ≤ r) (hr : r ≤ r') (h1 : insR s m p r = true) : insR s m p r' = true := by
 rw [insR_iff h] at h1 ⊢
 rcases h1 with ⟨h2, h3⟩ | ⟨k, hk, h2⟩
 ·exact .inl ⟨by omega, h3⟩
 ·exact .inr ⟨k, hk, mid_mono h0 hr h2⟩
def inSp (l : Span) (y : Int) : Prop := l.lo ≤ y ∧ y ≤ l.hi
theorem cutF_iff (l : Span) (f n y : Int) : inSp (cutF l f n) y ↔ inSp l y ∧ n ≤ f * y := by
 unfold inSp cutF
 by_cases h1 : 0 < f
 ·rw [if_pos h1]
  have h2 : -((-n) / f) ≤ y ↔ n ≤ f * y := by
   have : -((-n) / f) ≤ y ↔ -y ≤ (-n) / f := by omega
   rw [this, Int.le_ediv_iff_mul_le h1, Int.neg_mul, Int.mul_comm y f]; omega
  rw [← h2]
  simp only
  omega
 ·rw [if_neg h1]
  by_cases h2 : f < 0
  ·rw [if_pos h2]
   have h3 : y ≤ (-n) / (-f) ↔ n ≤ f * y := by
    rw [Int.le_ediv_iff_mul_le (by omega), Int.mul_neg, Int.mul_comm y f]; omega
   rw [← h3]
   simp only
   omega
  ·rw [if_neg h2]
   have h3 : f = 0 := by omega
   subst h3
   rw [Int.zero_mul]
   split
   ·simp only; omega
   ·omega
theorem rows_foldl (x : Int) (p : Pt) (y : Int) : ∀ (l : List (Pt × Pt)) (a : Span), inSp (l.foldl (rowStep x p) a) y ↔ inSp a y ∧ ∀ z ∈ l, 0 ≤ leftF z.2 ((p.sub ⟨x, y⟩).sub z.1)
 | [], a => by simp
 | z :: l, a => by
  rw [List.foldl_cons, rows_foldl x p y l]
  have h1 : z.2.y * ((p.x - z.1.x) - x) - z.2.x * (p.y - z.1.y) ≤ (-z.2.x) * y ↔ 0 ≤ leftF z.2 ((p.sub ⟨x, y⟩).sub z.1) := by
   have : leftF z.2 ((p.sub ⟨x, y⟩).sub z.1) = (-z.2.x) * y - (z.2.y * ((p.x - z.1.x) - x) - z.2.x * (p.y - z.1.y)) := by
    unfold leftF Pt.sub; grind
   omega
  unfold rowStep
  rw [cutF_iff, h1]
  constructor
  ·rintro ⟨⟨h2, h3⟩, h4⟩
   refine ⟨h2, fun w hw => ?_⟩
   rcases List.mem_cons.1 hw with rfl | hw
   ·exact h3
   ·exact h4 w hw
  ·rintro ⟨h2, h3⟩
   exact ⟨⟨h2, h3 z (by simp)⟩, fun w hw => h3 w (by simp [hw])⟩
theorem rows_iff {s : Sand} (h : SandR s) (x : Int) (p : Pt) (y : Int) : inSp (rowsX s x p) y ↔ inSp s.moves.y y ∧ liesR s ⟨x, y⟩ p = true := by
 have h3 := h.len.1
 unfold rowsX
 rw [rows_foldl, liesR_iff]
 refine and_congr_right fun _ => ?_
 constructor
 ·intro h i hi
  exact h _ ((mem_sides (by omega) _).2 ⟨i, hi, rfl⟩)
 ·intro h z hz
  obtain ⟨k, hk, rfl⟩ := (mem_sides (by omega) z).1 hz
  exact h k hk
theorem mem_upX : ∀ (k : Nat) (v y : Int), y ∈ upX k v ↔ v ≤ y ∧ y < v + k
 | 0, v, y => by simp [upX]
 | k + 1, v, y => by
  rw [upX, List.mem_cons, mem_upX k]; omega
theorem mem_spanL (b : Span) (y : Int) : y ∈ spanL b ↔ b.lo ≤ y ∧ y ≤ b.hi := by
 unfold spanL
 rw [mem_upX]; omega
theorem mem_movesL (b : Box) (m : Pt) : m ∈ movesL b ↔ (b.x.lo ≤ m.x ∧ m.x ≤ b.x.hi) ∧ (b.y.lo ≤ m.y ∧ m.y ≤ b.y.hi) := by
 unfold movesL
 rw [List.mem_flatMap]
 constructor
 ·rintro ⟨x, hx, h⟩
  obtain ⟨y, hy, rfl⟩ := List.mem_map.1 h
  exact ⟨(mem_spanL _ _).1 hx, (mem_spanL _ _).1 hy⟩
 ·rintro ⟨hx, hy⟩
  exact ⟨m.x, (mem_spanL _ _).2 hx, List.mem_map.2 ⟨m.y, (mem_spanL _ _).2 hy, rfl⟩⟩
def sureS (s : Sand) (p : Pt) : Bool := (movesL s.moves).all fun m => liesR s m p
def someS (s : Sand) (p : Pt) : Bool := (movesL s.moves).any fun m => liesR s m p
theorem any_eq {s : Sand} (h : SandR s) (p : Pt) : anyRow s p = someS s p := by
 have hx := h.x
 rw [Bool.eq_iff_iff]
 unfold anyRow someS xsX
 rw [List.any_eq_true, List.any_eq_true]
 constructor
 ·rintro ⟨x, hx, h1⟩
  have h1 := of_decide_eq_true h1
  rw [mem_upX] at hx
  obtain ⟨hy, hl⟩ := (rows_iff h x p (rowsX s x p).lo).1 ⟨Int.le_refl _, h1⟩
  exact ⟨⟨x, (rowsX s x p).lo⟩, (mem_movesL _ _).2 ⟨by simp only; omega, hy⟩, hl⟩
 ·rintro ⟨m, hm, hl⟩
  obtain ⟨h1, h2⟩ := (mem_movesL _ _).1 hm
  refine ⟨m.x, (mem_upX _ _ _).2 (by omega), decide_eq_true ?_⟩
  have := (rows_iff h m.x p m.y).2 ⟨h2, hl⟩
  unfold inSp at this
  omega
theorem all_eq {s : Sand} (h : SandR s) (p : Pt) : allRow s p = sureS s p := by
 have hx := h.x
 have hy := h.y
 rw [Bool.eq_iff_iff]
 unfold allRow sureS xsX
 rw [List.all_eq_true, List.all_eq_true]
 constructor
 ·rintro h1 m hm
  obtain ⟨h2, h3⟩ := (mem_movesL _ _).1 hm
  have h4 := of_decide_eq_true (h1 m.x ((mem_upX _ _ _).2 (by omega)))
  exact ((rows_iff h m.x p m.y).1 (by rw [h4]; exact h3)).2
 ·rintro h1 x hx
  rw [mem_upX] at hx
  have h2 : ∀ y, inSp s.moves.y y → inSp (rowsX s x p) y := fun y hy => (rows_iff h x p y).2 ⟨hy, h1 _ ((mem_movesL _ _).2 ⟨by simp only; omega, hy⟩)⟩
  have h3 : ∀ y, inSp (rowsX s x p) y → inSp s.moves.y y := fun y hy => ((rows_iff h x p y).1 hy).1
  have a1 := h2 s.moves.y.lo ⟨Int.le_refl _, by omega⟩
  have a2 := h2 s.moves.y.hi ⟨by omega, Int.le_refl _⟩
  unfold inSp at a1 a2 h3
  have a3 := h3 (rowsX s x p).lo ⟨Int.le_refl _, by omega⟩
  have a4 := h3 (rowsX s x p).hi ⟨by omega, Int.le_refl _⟩
  have e1 : (rowsX s x p).lo = s.moves.y.lo := by omega
  have e2 : (rowsX s x p).hi = s.moves.y.hi := by omega
  refine decide_eq_true ?_
  generalize rowsX s x p = R at *
  cases R; cases hs : s.moves.y
  rw [hs] at e1 e2
  simp only at e1 e2
  rw [e1, e2]
end Go.PX
namespace Go.PX
open Go.Proofs
def firstL (p : Pt) (r : Int) : Int → List Sand → Option (Int × Pt)
 | _, [] => none
 | i, s :: l => match (movesL s.moves).find? fun m => insR s m p r with
  | some m => some (i, m)
  | none => firstL p r (i + 1) l
def firstR (c : Cht) (p : Pt) (r : Int) : Option (Int × Pt) := firstL p r 0 c.sands
theorem inCol_find (s : Sand) (p : Pt) (r x : Int) : ∀ l : List Int, inCol s p r x l = (l.map fun y => (⟨x, y⟩ : Pt)).find? fun m => nearX s (p.sub m) r
 | [] => rfl
 | y :: l => by
  rw [inCol, List.map_cons, List.find?_cons, inCol_find s p r x l]
  cases nearX s (p.sub ⟨x, y⟩) r <;> rfl
theorem inCols_find (s : Sand) (p : Pt) (r : Int) : ∀ l : List Int, inCols s p r l = (l.flatMap fun x => (ysX s).map fun y => (⟨x, y⟩ : Pt)).find? fun m => nearX s (p.sub m) r
 | [] => rfl
 | x :: l => by
  rw [inCols, List.flatMap_cons, List.find?_append, ← inCol_find, inCols_find s p r l]
  cases inCol s p r x (ysX s) <;> rfl
theorem cols_moves (s : Sand) (p : Pt) (r : Int) : inCols s p r (xsX s) = (movesL s.moves).find? fun m => nearX s (p.sub m) r := inCols_find s p r (xsX s)
theorem find_congr {α : Type} {f g : α → Bool} : ∀ {l : List α}, (∀ x ∈ l, f x = g x) → l.find? f = l.find? g
 | [], _ => rfl
 | x :: l, h => by
  rw [List.find?_cons, List.find?_cons, h x (by simp), find_congr fun y hy => h y (by simp [hy])]
theorem insL_first {p : Pt} {r : Int} (hr : 0 < r) : ∀ (l : List Sand) (i : Int), (∀ s ∈ l, SandR s) → insL p r i l = firstL p r i l
 | [], _, _ => rfl
 | s :: l, i, h => by
  rw [insL, firstL, cols_moves, find_congr (fun m _ => near_ins (h s (by simp)) m p hr), insL_first hr l (i + 1) fun t ht => h t (by simp [ht])]
  cases (movesL s.moves).find? (fun m => insR s m p r) <;> rfl
theorem first_0 {p : Pt} : ∀ (l : List Sand) (i : Int), (∀ s ∈ l, SandR s) → firstL p 0 i l = none
 | [], _, _ => rfl
 | s :: l, i, h => by
  rw [firstL]
  have : (movesL s.moves).find? (fun m => insR s m p 0) = none := by
   rw [List.find?_eq_none]
   intro m _
   rw [ins_0 (h s (by simp))]; simp
  rw [this]
  exact first_0 l (i + 1) fun t ht => h t (by simp [ht])
theorem ins_first {c : Cht} (hR : ChtR c) (p : Pt) {r : Int} (hr : 0 ≤ r) : insX c p r = firstR c p r := by
 unfold insX firstR
 split
 ·rename_i h; subst h; rw [first_0 _ _ hR.sand]
 ·exact insL_first (by omega) _ _ hR.sand
theorem firstL_none {p : Pt} {r : Int} : ∀ {l : List Sand} {i : Int}, firstL p r i l = none ↔ ∀ s ∈ l, ∀ m ∈ movesL s.moves, insR s m p r = false
 | [], _ => by simp [firstL]
 | s :: l, i => by
  rw [firstL]
  cases h : (movesL s.moves).find? fun m => insR s m p r with
  | some m =>
   refine ⟨fun h => by simp at h, fun h2 => ?_⟩
   have h3 := h2 s (by simp) m (List.mem_of_find?_eq_some h)
   have h4 : insR s m p r = true := by simpa using List.find?_some h
   rw [h3] at h4; cases h4
  | none =>
   simp only
   rw [firstL_none]
   rw [List.find?_eq_none] at h
   constructor
   ·intro h2 t ht m hm
    rcases List.mem_cons.1 ht with rfl | ht
    ·simpa using h m hm
    ·exact h2 t ht m hm
   ·intro h2 t ht
    exact h2 t (by simp [ht])
theorem first_mono {c : Cht} (hR : ChtR c) {p : Pt} {r r' : Int} (h0 : 0 ≤ r) (hr : r ≤ r') (h : firstR c p r' = none) : firstR c p r = none := by
 unfold firstR at h ⊢
 rw [firstL_none] at h ⊢
 intro s hs m hm
 have h1 := h s hs m hm
 rw [Bool.eq_false_iff] at h1 ⊢
 exact fun h2 => h1 (ins_mono (hR.sand s hs) h0 hr h2)
def halfF (c : Cht) (p : Pt) : Nat → Int → Int → Int
 | 0, lo, _ => lo
 | f + 1, lo, hi => if lo < hi then (if (firstR c p ((lo + hi + 1) / 2)).isSome then halfF c p f lo ((lo + hi + 1) / 2 - 1) else halfF c p f ((lo + hi + 1) / 2) hi) else lo
def radR (c : Cht) (p : Pt) : Int := if openX c p = 0 then halfF c p 5000 0 5000 else 0
structure GoodRad (c : Cht) (p : Pt) (a : Int) : Prop where
 lo : 0 ≤ a
 hi : a ≤ 5000
 clear : firstR c p a = none
 most : a < 5000 → firstR c p (a + 1) ≠ none
theorem GoodRad.unique {c : Cht} (hR : ChtR c) {p : Pt} {a b : Int} (ha : GoodRad c p a) (hb : GoodRad c p b) : a = b := by
 have h1 := ha.lo
 have h2 := hb.lo
 have h3 := ha.hi
 have h4 := hb.hi
 rcases Int.lt_trichotomy a b with h | h | h
 ·exact absurd (first_mono hR (show 0 ≤ a + 1 by omega) (show a + 1 ≤ b by omega) hb.clear) (ha.most (by omega))
 ·exact h
 ·exact absurd (first_mono hR (show 0 ≤ b + 1 by omega) (show b + 1 ≤ a by omega) ha.clear) (hb.most (by omega))
theorem radL_good {c : Cht} (hR : ChtR c) (p : Pt) : ∀ (n : Nat) (a b : Int), 0 ≤ a → a < b → b ≤ 5001 → b - a ≤ n → firstR c p a = none → (b ≤ 5000 → firstR c p b ≠ none) → GoodRad c p (radL c p n a b)
 | 0, a, b, _, h2, _, h4, _, _ => by omega
 | n + 1, a, b, h1, h2, h3, h4, h5, h6 => by
  rw [radL]
  by_cases h : b - a > 1
  ·rw [if_pos h, ins_first hR p (show 0 ≤ (a + b) / 2 by omega)]
   cases hx : firstR c p ((a + b) / 2) with
   | none =>
    exact radL_good hR p n _ _ (by omega) (by omega) h3 (by omega) hx h6
   | some x =>
    exact radL_good hR p n _ _ h1 (by omega) (by omega) (by omega) h5 (fun _ => by rw [hx]; simp)
  ·rw [if_neg h]
   have : b = a + 1 := by omega
   subst this
   exact ⟨h1, by omega, h5, fun h7 => h6 (by omega)⟩
theorem halfF_good {c : Cht} (hR : ChtR c) (p : Pt) : ∀ (n : Nat) (a b : Int), 0 ≤ a → a ≤ b → b ≤ 5000 → b - a ≤ n → firstR c p a = none → (b < 5000 → firstR c p (b + 1) ≠ none) → GoodRad c p (halfF c p n a b)
 | 0, a, b, h1, h2, h3, h4, h5, h6 => by
  have : b = a := by omega
  subst this
  exact ⟨h1, h3, h5, h6⟩
 | n + 1, a, b, h1, h2, h3, h4, h5, h6 => by
  rw [halfF]
  by_cases h : a < b
  ·rw [if_pos h]
   cases hx : firstR c p ((a + b + 1) / 2) with
   | none =>
    exact halfF_good hR p n _ _ (by omega) (by omega) h3 (by omega) hx h6
   | some x =>
    refine halfF_good hR p n _ _ h1 (by omega) (by omega) (by omega) h5 (fun _ => ?_)
    rw [show (a + b + 1) / 2 - 1 + 1 = (a + b + 1) / 2 by omega, hx]; simp
  ·rw [if_neg h]
   have : b = a := by omega
   subst this
   exact ⟨h1, h3, h5, h6⟩
theorem first_zero {c : Cht} (hR : ChtR c) (p : Pt) : firstR c p 0 = none := first_0 _ _ hR.sand
theorem rad_good {c : Cht} {p : Pt} (h : openX c p = 0) : GoodRad c p (radV c p) := by
 have hR := (openX_ok h).1
 unfold radV
 rw [if_pos h]
 exact radL_good hR p 5001 0 5001 (by omega) (by omega) (by omega) (by omega) (first_zero hR p) (fun h => by omega)
theorem rad_eq (c : Cht) (p : Pt) : radV c p = radR c p := by
 by_cases h : openX c p = 0
 ·have hR := (openX_ok h).1
  refine (rad_good h).unique hR ?_
  unfold radR
  rw [if_pos h]
  exact halfF_good hR p 5000 0 5000 (by omega) (by omega) (by omega) (by omega) (first_zero hR p) (fun h => by omega)
 ·unfold radV radR
  rw [if_neg h, if_neg h]
end Go.PX
namespace Go.PX
open Go.Proofs
end Go.PX
namespace Go.PX
open Go.Proofs
def sureR (p : Pt) : Int → List Sand → List Int
 | _, [] => []
 | i, s :: r => if sureS s p then i :: sureR p (i + 1) r else sureR p (i + 1) r
def someR (p : Pt) : Int → List Sand → List Int
 | _, [] => []
 | i, s :: r => if someS s p then i :: someR p (i + 1) r else someR p (i + 1) r
def onRA (c : Cht) (p : Pt) : List Int := if openX c p = 0 then sureR p 0 c.sands else []
def onRB (c : Cht) (p : Pt) : List Int := if openX c p = 0 then someR p 0 c.sands else []
theorem sure_eq (p : Pt) : ∀ (l : List Sand) (i : Int), (∀ s ∈ l, SandR s) → sureF p i l = sureR p i l
 | [], _, _ => rfl
 | s :: l, i, h => by rw [sureF, sureR, all_eq (h s (by simp)), sure_eq p l _ fun t ht => h t (by simp [ht])]
theorem some_eq (p : Pt) : ∀ (l : List Sand) (i : Int), (∀ s ∈ l, SandR s) → someF p i l = someR p i l
 | [], _, _ => rfl
 | s :: l, i, h => by rw [someF, someR, any_eq (h s (by simp)), some_eq p l _ fun t ht => h t (by simp [ht])]
theorem onA_eq (c : Cht) (p : Pt) : onA c p = onRA c p := by
 unfold onA onRA
 split
 ·rename_i h; exact sure_eq _ _ _ (openX_ok h).1.sand
 ·rfl
theorem onB_eq (c : Cht) (p : Pt) : onB c p = onRB c p := by
 unfold onB onRB
 split
 ·rename_i h; exact some_eq _ _ _ (openX_ok h).1.sand
 ·rfl
end Go.PX
namespace Go.PX
open Go.Proofs
theorem ch121 (v : Pt) (hv : Pin 1000000 v) : FnV Tryz.prog 121 [v.d] (i64 (sqF v)) := by
 refine fnV_of mixed tysOk Tryz.func121 rfl (ft := ft121) 1 (by decide +kernel) (by rfl) fun {σ} Y st => ?_
 conv=>whnf
 have h1 := mul_b 1000000 1000000 hv.x hv.x
 have h2 := mul_b 1000000 1000000 hv.y hv.y
 refine arith_in (wrap_i64 (by (try dsimp only); omega)) ?_
 conv=>whnf
 refine arith_in (wrap_i64 (by (try dsimp only); omega)) ?_
 conv=>whnf
 refine arith_in (wrap_i64 (by (try dsimp only); omega)) ?_
 conv=>whnf
 exact RetA_view 0 rfl ⟨⟨rfl, rfl⟩, rfl⟩
set_option maxHeartbeats 1000000 in
theorem ch96 (a b p : Pt) (ha : Pin 10000 a) (hb : Pin 10000 b) (hp : Pin 10500 p) (r : Int) (hr : 0 ≤ r ∧ r ≤ 5001) : FnV Tryz.prog 96 [a.d, b.d, p.d, i64 r] (.bool (nearR a b p r)) := by
 refine fnV_of mixed tysOk Tryz.func96 rfl (ft := ft96) 4 (by decide +kernel) (by rfl) fun {σ} Y st => ?_
 conv=>whnf
 have hs : Pin 20000 (b.sub a) := hb.sub ha
 have ht : Pin 20500 (p.sub a) := hp.sub ha
 have hu : Pin 20500 (p.sub b) := hp.sub hb
 have b1 := leftF_bd hs ht
 have b2 := mul_b 20000 20500 hs.x ht.x
 have b3 := mul_b 20000 20500 hs.y ht.y
 have b4 := dotF_bd hs hs
 have b6 := mul_b (a := r) (b := r) 5001 5001 (by omega) (by omega)
 have b7 := mul_b (a := leftF (b.sub a) (p.sub a)) (b := leftF (b.sub a) (p.sub a)) 820000000 820000000 (by omega) (by omega)
 have b4' : -800000000 ≤ sqF (b.sub a) ∧ sqF (b.sub a) ≤ 800000000 := b4
 have b8 := mul_b (a := r * r) (b := sqF (b.sub a)) 25010001 800000000 (by omega) (by omega)
 have hn : nearR a b p r = if dotF (b.sub a) (p.sub a) ≤ 0 then decide (sqF (p.sub a) < r * r) else if sqF (b.sub a) ≤ dotF (b.sub a) (p.sub a) then decide (sqF (p.sub b) < r * r) else decide (leftF (b.sub a) (p.sub a) * leftF (b.sub a) (p.sub a) < r * r * sqF (b.sub a)) := rfl
 refine DrawCall_v (ds := [b.d, a.d]) (ch84 b a (hb.mono (by omega)) (ha.mono (by omega))) rfl rfl ?_
 conv=>whnf
 refine DrawCall_v (ds := [p.d, a.d]) (ch84 p a (hp.mono (by omega)) (ha.mono (by omega))) rfl rfl ?_
 conv=>whnf
 refine arith_in (wrap_i64 (by (try dsimp only); omega)) ?_
 conv=>whnf
 refine arith_in (wrap_i64 (by (try dsimp only); omega)) ?_
 conv=>whnf
 have b9 := dotF_bd hs ht
 refine arith_to (dotF (b.sub a) (p.sub a)) rfl (wrap_i64 (by omega)) ?_
 conv=>whnf
 refine brk_i (fun h1 => ?_) (fun h1 => ?_)
 ·rw [if_pos (of_decide_eq_true h1)] at hn
  rw [hn]
  conv=>whnf
  refine CallA_v (ds := [(p.sub a).d]) (ch121 _ (ht.mono (by omega))) rfl rfl ?_
  conv=>whnf
  refine arith_in (wrap_i64 (by (try dsimp only); omega)) ?_
  conv=>whnf
  exact RetA_view 0 rfl ⟨⟨rfl, rfl⟩, rfl⟩
 ·rw [if_neg (of_decide_eq_false h1)] at hn
  conv=>whnf
  refine CallA_v (ds := [(b.sub a).d]) (ch121 _ (hs.mono (by omega))) rfl rfl ?_
  conv=>whnf
  refine brk_i (fun h2 => ?_) (fun h2 => ?_)
  ·rw [if_pos (of_decide_eq_true h2)] at hn
   rw [hn]
   conv=>whnf
   refine CallA_v (ds := [p.d, b.d]) (ch84 p b (hp.mono (by omega)) (hb.mono (by omega))) rfl rfl ?_
   conv=>whnf
   refine CallA_v (ds := [(p.sub b).d]) (ch121 _ (hu.mono (by omega))) rfl rfl ?_
   conv=>whnf
   refine arith_in (wrap_i64 (by (try dsimp only); omega)) ?_
   conv=>whnf
   exact RetA_view 0 rfl ⟨⟨rfl, rfl⟩, rfl⟩
  ·rw [if_neg (of_decide_eq_false h2)] at hn
   rw [hn]
   conv=>whnf
   refine CallA_v (ds := [(b.sub a).d, (p.sub a).d]) (ch95 _ _ (hs.mono (by omega)) (ht.mono (by omega))) rfl rfl ?_
   conv=>whnf
   refine arith_in (wrap_i64 (by (try dsimp only); omega)) ?_
   conv=>whnf
   refine arith_in (wrap_i64 (by (try dsimp only); omega)) ?_
   conv=>whnf
   refine CallA_v (ds := [(b.sub a).d]) (ch121 _ (hs.mono (by omega))) rfl rfl ?_
   conv=>whnf
   refine arith_in (wrap_i64 (by (try dsimp only); omega)) ?_
   conv=>whnf
   exact RetA_view 0 rfl ⟨⟨rfl, rfl⟩, rfl⟩
theorem mod_i {l q : Nat} (hl : 0 < l) : ((q : Int) + 1).tmod (l : Int) = (((q + 1) % l : Nat) : Int) := by
 rw [Int.tmod_eq_emod_of_nonneg (by omega)]
 first | exact (Int.natCast_mod _ _).symm | exact (Int.natCast_emod _ _).symm | norm_cast
def lieAt (s : Sand) (m p : Pt) (i : Nat) : Bool := decide (0 ≤ leftF ((nxS s.corners i).sub (atP s.corners i)) ((p.sub m).sub (atP s.corners i)))
set_option maxHeartbeats 1000000 in
theorem ch46 (s : Sand) (hR : SandR s) (m p : Pt) (hm : Pin 1000 m) (hp : Pin 10000 p) : FnV Tryz.prog 46 [s.d, m.d, p.d] (.bool (liesR s m p)) := by
 refine fnV_of mixed tysOk Tryz.func46 rfl (ft := ft46) 3 (by decide +kernel) (by rfl) fun {σ} Y st => ?_
 conv=>whnf
 have hlen := hR.len
 have hl : liesR s m p = (List.range s.corners.length).all (lieAt s m p) := rfl
 refine LoopA_i (T := tys) tysOk (by exact drawsB_spec mixed tysOk (by decide +kernel)) (List.range s.corners.length) (fun i (_ : Unit) => ⟨[(4, .ptr 4 0), (5, .ptr 5 0), (7, .d (ptsD s.corners)), (8, .d (i64 i))], [(4, .box (.dd m.cells)), (5, .box (.dd p.cells))], st⟩) (fun i r _ => liesR s m p = r.all (lieAt s m p)) () (Wk.sub ⟨(by first | rfl | (simp only [List.length_map]; rfl) | simp [PX.get]), (by first | rfl | (simp only [List.length_map]; rfl) | simp [PX.get]), (by first | rfl | (simp only [List.length_map]; rfl) | simp [PX.get]), (by first | rfl | (simp only [List.length_map]; rfl) | simp [PX.get]), trivial⟩ ⟨(by first | rfl | (simp only [List.length_map]; rfl) | simp [PX.get]), (by first | rfl | (simp only [List.length_map]; rfl) | simp [PX.get]), trivial⟩) hl ?_ ?_
 ·rintro i q r _ hqi hi hr hk
  have hq := range_get hqi
  subst hq
  have hil : q < s.corners.length := by simpa using hi
  rw [List.all_cons] at hk
  conv=>whnf
  refine brk_i (fun _ => ?_) (fun h => absurd h (by simp; omega))
  conv=>whnf
  refine arith_in (wrap_i64 (by (try dsimp only); omega)) ?_
  conv=>whnf
  have hk0 : ((q : Int) + 1).tmod (((s.corners.map Pt.cells).length : Nat) : Int) = (((q + 1) % s.corners.length : Nat) : Int) := by
   rw [List.length_map]; exact mod_i (by omega)
  rw [hk0]
  have hkl : (q + 1) % s.corners.length < s.corners.length := Nat.mod_lt _ (by omega)
  have hlie : lieAt s m p q = decide (0 ≤ leftF ((atP s.corners ((q + 1) % s.corners.length)).sub (atP s.corners q)) ((p.sub m).sub (atP s.corners q))) := rfl
  generalize hkk : (q + 1) % s.corners.length = k at hkl hlie
  refine brk_i (fun _ => ?_) (fun h => absurd h (by simp; rintro h; rw [h] at hlen; simp at hlen))
  conv=>whnf
  have hpk := hR.pin _ (atP_mem hkl)
  have hpq := hR.pin _ (atP_mem hil)
  refine elemK_nat (atP_get hkl) ?_
  conv=>whnf
  refine elemK_nat (atP_get hil) ?_
  conv=>whnf
  refine DrawCall_v (ds := [(atP s.corners k).d, (atP s.corners q).d]) (ch84 _ _ (hpk.mono (by omega)) (hpq.mono (by omega))) rfl rfl ?_
  conv=>whnf
  refine DrawCall_v (ds := [p.d, m.d]) (ch84 _ _ (hp.mono (by omega)) (hm.mono (by omega))) rfl rfl ?_
  conv=>whnf
  refine elemK_nat (atP_get hil) ?_
  conv=>whnf
  refine DrawCall_v (ds := [(p.sub m).d, (atP s.corners q).d]) (ch84 _ _ ((hp.sub hm).mono (by omega)) (hpq.mono (by omega))) rfl rfl ?_
  conv=>whnf
  refine DrawCall_v (ds := [((atP s.corners k).sub (atP s.corners q)).d, ((p.sub m).sub (atP s.corners q)).d]) (ch95 _ _ ((hpk.sub hpq).mono (by omega)) (((hp.sub hm).sub hpq).mono (by omega))) rfl rfl ?_
  conv=>whnf
  refine brk_i (fun h3 => ?_) (fun h3 => ?_)
  ·have h3 : leftF ((atP s.corners k).sub (atP s.corners q)) ((p.sub m).sub (atP s.corners q)) < 0 := of_decide_eq_true h3
   rw [decide_eq_false (by omega)] at hlie
   rw [hlie, Bool.false_and] at hk
   rw [hk]
   conv=>whnf
   exact RetA_view 0 rfl ⟨⟨rfl, rfl⟩, rfl⟩
  ·have h3 : ¬ leftF ((atP s.corners k).sub (atP s.corners q)) ((p.sub m).sub (atP s.corners q)) < 0 := of_decide_eq_false h3
   rw [decide_eq_true (by omega)] at hlie
   rw [hlie, Bool.true_and] at hk
   conv=>whnf
   refine arith_in (wrap_i64 (by (try dsimp only); omega)) ?_
   conv=>whnf
   exact ⟨(), hk, Wk.sub ⟨rfl, rfl, rfl, congrArg (fun z => some (V.d (i64 z))) (by omega), trivial⟩ ⟨rfl, rfl, trivial⟩⟩
 ·rintro _ hk
  conv=>whnf
  refine brk_i (fun h => absurd h (by simp)) (fun _ => ?_)
  conv=>whnf
  rw [hk]
  exact RetA_view 0 rfl ⟨⟨rfl, rfl⟩, rfl⟩
def nearAt (s : Sand) (m p : Pt) (r : Int) (i : Nat) : Bool := nearR (atP s.corners i) (nxS s.corners i) (p.sub m) r
set_option maxHeartbeats 2000000 in
theorem ch51 (s : Sand) (hR : SandR s) (m p : Pt) (hm : Pin 500 m) (hp : Pin 10000 p) (r : Int) (hr : 0 ≤ r ∧ r ≤ 5001) : FnV Tryz.prog 51 [s.d, m.d, p.d, i64 r] (.bool (insR s m p r)) := by
 refine fnV_of mixed tysOk Tryz.func51 rfl (ft := ft51) 4 (by decide +kernel) (by rfl) fun {σ} Y st => ?_
 conv=>whnf
 have hlen := hR.len
 have hl : insR s m p r = ((decide (0 < r) && liesR s m p) || (List.range s.corners.length).any (nearAt s m p r)) := rfl
 refine brk_i (fun h0 => ?_) (fun h0 => ?_)
 ·have h0 : 0 < r := by have := of_decide_eq_true h0; omega
  rw [decide_eq_true h0, Bool.true_and] at hl
  conv=>whnf
  refine CallA_v (ds := [s.d, m.d, p.d]) (ch46 s hR m p (hm.mono (by omega)) hp) rfl rfl ?_
  cases h1 : liesR s m p with
  | true =>
   rw [h1, Bool.true_or] at hl
   rw [hl]
   conv=>whnf
   exact RetA_view 0 rfl ⟨⟨rfl, rfl⟩, rfl⟩
  | false =>
   rw [h1, Bool.false_or] at hl
   conv=>whnf
   refine LoopA_i (T := tys) tysOk (by exact drawsB_spec mixed tysOk (by decide +kernel)) (List.range s.corners.length) (fun i (_ : Unit) => ⟨[(3, .d (i64 r)), (5, .ptr 5 0), (6, .ptr 6 0), (9, .d (ptsD s.corners)), (10, .d (i64 i))], [(5, .box (.dd m.cells)), (6, .box (.dd p.cells))], st⟩) (fun i l _ => insR s m p r = l.any (nearAt s m p r)) () (Wk.sub ⟨(by first | rfl | (simp only [List.length_map]; rfl) | simp [PX.get]), (by first | rfl | (simp only [List.length_map]; rfl) | simp [PX.get]), (by first | rfl | (simp only [List.length_map]; rfl) | simp [PX.get]), (by first | rfl | (simp only [List.length_map]; rfl) | simp [PX.get]), (by first | rfl | (simp only [List.length_map]; rfl) | simp [PX.get]), trivial⟩ ⟨(by first | rfl | (simp only [List.length_map]; rfl) | simp [PX.get]), (by first | rfl | (simp only [List.length_map]; rfl) | simp [PX.get]), trivial⟩) hl ?_ ?_
   ·rintro i q l _ hqi hi hil0 hk
    have hq := range_get hqi
    subst hq
    have hil : q < s.corners.length := by simpa using hi
    rw [List.any_cons] at hk
    conv=>whnf
    refine brk_i (fun _ => ?_) (fun h => absurd h (by simp; omega))
    conv=>whnf
    refine elemK_nat (atP_get hil) ?_
    conv=>whnf
    refine arith_in (wrap_i64 (by (try dsimp only); omega)) ?_
    conv=>whnf
    have hk0 : ((q : Int) + 1).tmod (((s.corners.map Pt.cells).length : Nat) : Int) = (((q + 1) % s.corners.length : Nat) : Int) := by
     rw [List.length_map]; exact mod_i (by omega)
    rw [hk0]
    have hkl : (q + 1) % s.corners.length < s.corners.length := Nat.mod_lt _ (by omega)
    have hnr : nearAt s m p r q = nearR (atP s.corners q) (atP s.corners ((q + 1) % s.corners.length)) (p.sub m) r := rfl
    generalize hkk : (q + 1) % s.corners.length = k at hkl hnr
    refine brk_i (fun _ => ?_) (fun h => absurd h (by simp; rintro h; rw [h] at hlen; simp at hlen))
    conv=>whnf
    have hpk := hR.pin _ (atP_mem hkl)
    have hpq := hR.pin _ (atP_mem hil)
    refine elemK_nat (atP_get hkl) ?_
    conv=>whnf
    refine DrawCall_v (ds := [p.d, m.d]) (ch84 _ _ (hp.mono (by omega)) (hm.mono (by omega))) rfl rfl ?_
    conv=>whnf
    refine DrawCall_v (ds := [(atP s.corners q).d, (atP s.corners k).d, (p.sub m).d, i64 r]) (ch96 _ _ _ hpq hpk (hp.sub hm) r hr) rfl rfl ?_
    rw [← hnr]
    cases hn : nearAt s m p r q with
    | true =>
     rw [hn, Bool.true_or] at hk
     rw [hk]
     conv=>whnf
     exact RetA_view 0 rfl ⟨⟨rfl, rfl⟩, rfl⟩
    | false =>
     rw [hn, Bool.false_or] at hk
     conv=>whnf
     refine arith_in (wrap_i64 (by (try dsimp only); omega)) ?_
     conv=>whnf
     exact ⟨(), hk, Wk.sub ⟨rfl, rfl, rfl, rfl, congrArg (fun z => some (V.d (i64 z))) (by omega), trivial⟩ ⟨rfl, rfl, trivial⟩⟩
   ·rintro _ hk
    conv=>whnf
    refine brk_i (fun h => absurd h (by simp)) (fun _ => ?_)
    conv=>whnf
    rw [hk]
    exact RetA_view 0 rfl ⟨⟨rfl, rfl⟩, rfl⟩
 ·have h0 : ¬ 0 < r := by have := of_decide_eq_false h0; omega
  rw [decide_eq_false h0, Bool.false_and, Bool.false_or] at hl
  conv=>whnf
  refine LoopA_i (T := tys) tysOk (by exact drawsB_spec mixed tysOk (by decide +kernel)) (List.range s.corners.length) (fun i (_ : Unit) => ⟨[(3, .d (i64 r)), (5, .ptr 5 0), (6, .ptr 6 0), (9, .d (ptsD s.corners)), (10, .d (i64 i))], [(5, .box (.dd m.cells)), (6, .box (.dd p.cells))], st⟩) (fun i l _ => insR s m p r = l.any (nearAt s m p r)) () (Wk.sub ⟨(by first | rfl | (simp only [List.length_map]; rfl) | simp [PX.get]), (by first | rfl | (simp only [List.length_map]; rfl) | simp [PX.get]), (by first | rfl | (simp only [List.length_map]; rfl) | simp [PX.get]), (by first | rfl | (simp only [List.length_map]; rfl) | simp [PX.get]), (by first | rfl | (simp only [List.length_map]; rfl) | simp [PX.get]), trivial⟩ ⟨(by first | rfl | (simp only [List.length_map]; rfl) | simp [PX.get]), (by first | rfl | (simp only [List.length_map]; rfl) | simp [PX.get]), trivial⟩) hl ?_ ?_
  ·rintro i q l _ hqi hi hil0 hk
   have hq := range_get hqi
   subst hq
   have hil : q < s.corners.length := by simpa using hi
   rw [List.any_cons] at hk
   conv=>whnf
   refine brk_i (fun _ => ?_) (fun h => absurd h (by simp; omega))
   conv=>whnf
   refine elemK_nat (atP_get hil) ?_
   conv=>whnf
   refine arith_in (wrap_i64 (by (try dsimp only); omega)) ?_
   conv=>whnf
   have hk0 : ((q : Int) + 1).tmod (((s.corners.map Pt.cells).length : Nat) : Int) = (((q + 1) % s.corners.length : Nat) : Int) := by
    rw [List.length_map]; exact mod_i (by omega)
   rw [hk0]
   have hkl : (q + 1) % s.corners.length < s.corners.length := Nat.mod_lt _ (by omega)
   have hnr : nearAt s m p r q = nearR (atP s.corners q) (atP s.corners ((q + 1) % s.corners.length)) (p.sub m) r := rfl
   generalize hkk : (q + 1) % s.corners.length = k at hkl hnr
   refine brk_i (fun _ => ?_) (fun h => absurd h (by simp; rintro h; rw [h] at hlen; simp at hlen))
   conv=>whnf
   have hpk := hR.pin _ (atP_mem hkl)
   have hpq := hR.pin _ (atP_mem hil)
   refine elemK_nat (atP_get hkl) ?_
   conv=>whnf
   refine DrawCall_v (ds := [p.d, m.d]) (ch84 _ _ (hp.mono (by omega)) (hm.mono (by omega))) rfl rfl ?_
   conv=>whnf
   refine DrawCall_v (ds := [(atP s.corners q).d, (atP s.corners k).d, (p.sub m).d, i64 r]) (ch96 _ _ _ hpq hpk (hp.sub hm) r hr) rfl rfl ?_
   rw [← hnr]
   cases hn : nearAt s m p r q with
   | true =>
    rw [hn, Bool.true_or] at hk
    rw [hk]
    conv=>whnf
    exact RetA_view 0 rfl ⟨⟨rfl, rfl⟩, rfl⟩
   | false =>
    rw [hn, Bool.false_or] at hk
    conv=>whnf
    refine arith_in (wrap_i64 (by (try dsimp only); omega)) ?_
    conv=>whnf
    exact ⟨(), hk, Wk.sub ⟨rfl, rfl, rfl, rfl, congrArg (fun z => some (V.d (i64 z))) (by omega), trivial⟩ ⟨rfl, rfl, trivial⟩⟩
  ·rintro _ hk
   conv=>whnf
   refine brk_i (fun h => absurd h (by simp)) (fun _ => ?_)
   conv=>whnf
   rw [hk]
   exact RetA_view 0 rfl ⟨⟨rfl, rfl⟩, rfl⟩
theorem ch72 (c : Cht) (p : Pt) : FnV Tryz.prog 72 [c.d, p.d] (i64 (openX c p)) := by
 refine fnV_of mixed tysOk Tryz.func72 rfl (ft := ft72) 2 (by decide +kernel) (by rfl) fun {σ} Y st => ?_
 conv=>whnf
 refine CallA_v (ch21x c) rfl rfl ?_
 conv=>whnf
 by_cases h0 : (checkX c).2.2 = 0
 case neg =>
  have he : openX c p = (checkX c).2.2 := by unfold openX; rw [if_neg h0]
  rw [he, decide_eq_false h0]
  conv=>whnf
  exact RetA_view 0 rfl ⟨⟨rfl, rfl⟩, rfl⟩
 have he : openX c p = if withinB 10000 p then 0 else 7 := by unfold openX; rw [if_pos h0]
 rw [he, decide_eq_true h0]
 conv=>whnf
 refine CallA_v (ds := [p.d, i64 10000]) (ch55 p 10000 (by omega)) rfl rfl ?_
 cases withinB 10000 p with
 | true =>
  conv=>whnf
  rw [h0]
  exact RetA_view 0 rfl ⟨⟨rfl, rfl⟩, rfl⟩
 | false =>
  conv=>whnf
  exact RetA_view 0 rfl ⟨⟨rfl, rfl⟩, rfl⟩
end Go.PX
namespace Go.PX
open Go.Proofs
theorem SandR.smallB {s : Sand} (h : SandR s) : SmallB s.moves := by
 have hx := h.x
 have hy := h.y
 exact ⟨by omega, by omega⟩
theorem move_pin {s : Sand} (h : SandR s) {m : Pt} (hm : m ∈ movesL s.moves) : Pin 500 m := by
 have hx := h.x
 have hy := h.y
 have := (mem_movesL _ _).1 hm
 exact ⟨by omega, by omega⟩
theorem movesL_len (b : Box) (hb : SmallB b) : (movesL b).length ≤ 1681 := by
 have hx := hb.x
 have hy := hb.y
 have hlenx : (spanL b.x).length = (b.x.hi - b.x.lo + 1).toNat := upX_len _ _
 have hleny : (spanL b.y).length = (b.y.hi - b.y.lo + 1).toNat := upX_len _ _
 have h : ∀ l : List Int, (l.flatMap fun x => (spanL b.y).map fun y => (⟨x, y⟩ : Pt)).length = l.length * (spanL b.y).length := by
  intro l
  induction l with
  | nil => simp
  | cons a l ih => rw [List.flatMap_cons, List.length_append, ih, List.length_map, List.length_cons, Nat.succ_mul]; omega
 unfold movesL
 rw [h, hlenx, hleny]
 have h1 : (b.x.hi - b.x.lo + 1).toNat ≤ 41 := by omega
 have h2 : (b.y.hi - b.y.lo + 1).toNat ≤ 41 := by omega
 exact Nat.mul_le_mul h1 h2
set_option maxHeartbeats 4000000 in
theorem ch75 (c : Cht) (hR : ChtR c) (p : Pt) (hp : Pin 10000 p) (r : Int) (hr : 0 ≤ r ∧ r ≤ 5001) : FnV Tryz.prog 75 [c.d, p.d, i64 r] (insD (firstR c p r)) := by
 refine fnV_of mixed tysOk Tryz.func75 rfl (ft := ft75) 3 (by decide +kernel) (by rfl) fun {σ} Y st => ?_
 conv=>whnf
 have hsl := hR.sands
 have he : firstR c p r = firstL p r 0 c.sands := rfl
 rw [he]
 refine LoopA_i (T := tys) tysOk (by exact drawsB_spec mixed tysOk (by decide +kernel)) c.sands (fun i (_ : Unit) => ⟨[(2, .d (i64 r)), (3, .ptr 3 0), (4, .ptr 4 0), (7, .ptr 7 0), (9, .d (i64 i))], [(3, .box (.dd c.cells)), (4, .box (.dd p.cells)), (7, .box (.dd [i64 0, i64 0]))], st⟩)
  (fun i l _ => firstL p r 0 c.sands = firstL p r i l) () (Wk.sub ⟨(by first | rfl | (simp only [List.length_map]; rfl) | simp [PX.get]), (by first | rfl | (simp only [List.length_map]; rfl) | simp [PX.get]), (by first | rfl | (simp only [List.length_map]; rfl) | simp [PX.get]), (by first | rfl | (simp only [List.length_map]; rfl) | simp [PX.get]), (by first | rfl | (simp only [List.length_map]; rfl) | simp [PX.get]), trivial⟩ ⟨(by first | rfl | (simp only [List.length_map]; rfl) | simp [PX.get]), (by first | rfl | (simp only [List.length_map]; rfl) | simp [PX.get]), (by first | rfl | (simp only [List.length_map]; rfl) | simp [PX.get]), trivial⟩) rfl ?_ ?_
 ·rintro i s l _ hsi hi hil hk
  rw [firstL] at hk
  have hS := hR.sand s (List.mem_of_getElem? hsi)
  have hml := movesL_len _ hS.smallB
  conv=>whnf
  refine brk_i (fun _ => ?_) (fun h => absurd hi (by simpa using h))
  conv=>whnf
  refine elemK_nat hsi ?_
  conv=>whnf
  refine CallA_v (ds := [s.moves.d]) (ch73 s.moves hS.smallB) rfl rfl ?_
  conv=>whnf
  refine LoopA_i (T := tys) tysOk (by exact drawsB_spec mixed tysOk (by decide +kernel)) (movesL s.moves) (fun j (_ : Unit) => ⟨[(2, .d (i64 r)), (3, .ptr 3 0), (4, .ptr 4 0), (7, .ptr 7 0), (9, .d (i64 i)), (10, .d (ptsD (movesL s.moves))), (11, .d (i64 j))], [(3, .box (.dd c.cells)), (4, .box (.dd p.cells)), (7, .box (.dd [i64 0, i64 0]))], st⟩)
   (fun j ms _ => (movesL s.moves).find? (fun m => insR s m p r) = ms.find? fun m => insR s m p r) () (Wk.sub ⟨(by first | rfl | (simp only [List.length_map]; rfl) | simp [PX.get]), (by first | rfl | (simp only [List.length_map]; rfl) | simp [PX.get]), (by first | rfl | (simp only [List.length_map]; rfl) | simp [PX.get]), (by first | rfl | (simp only [List.length_map]; rfl) | simp [PX.get]), (by first | rfl | (simp only [List.length_map]; rfl) | simp [PX.get]), (by first | rfl | (simp only [List.length_map]; rfl) | simp [PX.get]), (by first | rfl | (simp only [List.length_map]; rfl) | simp [PX.get]), trivial⟩ ⟨(by first | rfl | (simp only [List.length_map]; rfl) | simp [PX.get]), (by first | rfl | (simp only [List.length_map]; rfl) | simp [PX.get]), (by first | rfl | (simp only [List.length_map]; rfl) | simp [PX.get]), trivial⟩) rfl ?_ ?_
  ·rintro j m ms _ hmj hj hjr hk2
   rw [List.find?_cons] at hk2
   have hm := move_pin hS (List.mem_of_getElem? hmj)
   conv=>whnf
   refine brk_i (fun _ => ?_) (fun h => absurd hj (by simpa using h))
   conv=>whnf
   refine elemK_nat hsi ?_
   conv=>whnf
   refine elemK_nat hmj ?_
   conv=>whnf
   refine DrawCall_v (ds := [s.d, m.d, p.d, i64 r]) (ch51 s hS m p hm hp r hr) rfl rfl ?_
   cases hn : insR s m p r with
   | true =>
    rw [hn] at hk2
    simp only at hk2
    rw [hk2] at hk
    simp only at hk
    rw [hk]
    conv=>whnf
    refine elemK_nat hmj ?_
    conv=>whnf
    exact RetA_view 0 rfl ⟨⟨rfl, rfl⟩, rfl⟩
   | false =>
    rw [hn] at hk2
    simp only at hk2
    conv=>whnf
    refine arith_in (wrap_i64 (by (try dsimp only); omega)) ?_
    conv=>whnf
    exact ⟨(), hk2, (Wk.sub ⟨(by first | rfl | (simp only [List.length_map]; rfl) | simp [PX.get]), (by first | rfl | (simp only [List.length_map]; rfl) | simp [PX.get]), (by first | rfl | (simp only [List.length_map]; rfl) | simp [PX.get]), (by first | rfl | (simp only [List.length_map]; rfl) | simp [PX.get]), (by first | rfl | (simp only [List.length_map]; rfl) | simp [PX.get]), (by first | rfl | (simp only [List.length_map]; rfl) | simp [PX.get]), (by first | rfl | (simp only [List.length_map]; rfl) | simp [PX.get]), trivial⟩ ⟨(by first | rfl | (simp only [List.length_map]; rfl) | simp [PX.get]), (by first | rfl | (simp only [List.length_map]; rfl) | simp [PX.get]), (by first | rfl | (simp only [List.length_map]; rfl) | simp [PX.get]), trivial⟩)⟩
  ·rintro _ hk2
   rw [List.find?_nil] at hk2
   rw [hk2] at hk
   simp only at hk
   conv=>whnf
   refine brk_i (fun h => absurd h (by simp)) (fun _ => ?_)
   conv=>whnf
   refine arith_in (wrap_i64 (by (try dsimp only); omega)) ?_
   conv=>whnf
   exact ⟨(), hk, (Wk.sub ⟨(by first | rfl | (simp only [List.length_map]; rfl) | simp [PX.get]), (by first | rfl | (simp only [List.length_map]; rfl) | simp [PX.get]), (by first | rfl | (simp only [List.length_map]; rfl) | simp [PX.get]), (by first | rfl | (simp only [List.length_map]; rfl) | simp [PX.get]), (by first | rfl | (simp only [List.length_map]; rfl) | simp [PX.get]), trivial⟩ ⟨(by first | rfl | (simp only [List.length_map]; rfl) | simp [PX.get]), (by first | rfl | (simp only [List.length_map]; rfl) | simp [PX.get]), (by first | rfl | (simp only [List.length_map]; rfl) | simp [PX.get]), trivial⟩)⟩
 ·rintro _ hk
  rw [firstL] at hk
  rw [hk]
  conv=>whnf
  refine brk_i (fun h => absurd h (by simp)) (fun _ => ?_)
  conv=>whnf
  exact RetA_view 0 rfl ⟨⟨rfl, rfl⟩, rfl⟩
theorem ch75x (c : Cht) (hR : ChtR c) (p : Pt) (hp : Pin 10000 p) (r : Int) (hr : 0 ≤ r ∧ r ≤ 5001) : FnV Tryz.prog 75 [c.d, p.d, i64 r] (insD (insX c p r)) := FnV.cast (ch75 c hR p hp r hr) (by rw [ins_first hR p hr.1])
set_option maxHeartbeats 1000000 in
theorem ch27 (c : Cht) (p : Pt) (r : Int) : FnV Tryz.prog 27 [c.d, p.d, i64 r] (.tup [i64 (clearV c p r).1, (clearV c p r).2.d, i64 (clearE c p r)]) := by
 refine fnV_of mixed tysOk Tryz.func27 rfl (ft := ft27) 3 (by decide +kernel) (by rfl) fun {σ} Y st => ?_
 conv=>whnf
 refine CallA_v (ch72 c p) rfl rfl ?_
 conv=>whnf
 by_cases h0 : openX c p = 0
 case neg =>
  have he : clearE c p r = openX c p := by unfold clearE; rw [if_neg h0]
  have hv : clearV c p r = (0, ⟨0, 0⟩) := by unfold clearV; rw [if_neg (fun h => h0 h.1)]
  rw [he, hv]
  refine brk_i (fun h1 => absurd h1 (by simp [h0])) (fun _ => ?_)
  conv=>whnf
  refine brk_i (fun _ => ?_) (fun h1 => absurd h1 (by simp [h0]))
  conv=>whnf
  exact RetA_view 0 rfl ⟨⟨rfl, rfl⟩, rfl⟩
 obtain ⟨hR, hp⟩ := openX_ok h0
 refine brk_i (fun _ => ?_) (fun h1 => absurd h1 (by simp [h0]))
 conv=>whnf
 refine CallA_v (ds := [i64 r, i64 0, i64 5000]) (fn118 r 0 5000) rfl rfl ?_
 by_cases h1 : inB r 0 5000 = true
 case neg =>
  have he : clearE c p r = 7 := by unfold clearE; rw [if_pos h0, if_neg h1]
  have hv : clearV c p r = (0, ⟨0, 0⟩) := by unfold clearV; rw [if_neg (fun h => h1 h.2)]
  have h1 : inB r 0 5000 = false := by simpa using h1
  rw [he, hv, h1]
  conv=>whnf
  exact RetA_view 0 rfl ⟨⟨rfl, rfl⟩, rfl⟩
 have he : clearE c p r = if (insX c p r).isSome then 0 else 4 := by unfold clearE; rw [if_pos h0, if_pos h1]
 have hv : clearV c p r = (insX c p r).getD (0, ⟨0, 0⟩) := by unfold clearV; rw [if_pos ⟨h0, h1⟩]
 rw [he, hv, h1]
 rw [inB_iff] at h1
 conv=>whnf
 refine brk_i (fun h1 => absurd h1 (by simp [h0])) (fun _ => ?_)
 conv=>whnf
 refine CallA_v (ch75x c hR p hp r (by omega)) rfl rfl ?_
 conv=>whnf
 cases insX c p r with
 | none =>
  conv=>whnf
  exact RetA_view 0 rfl ⟨⟨rfl, rfl⟩, rfl⟩
 | some x =>
  obtain ⟨i, m⟩ := x
  conv=>whnf
  exact RetA_view 0 rfl ⟨⟨rfl, rfl⟩, rfl⟩
set_option maxHeartbeats 1000000 in
theorem ch29 (c : Cht) (p : Pt) : FnV Tryz.prog 29 [c.d, p.d] (.tup [i64 (radR c p), i64 (openX c p)]) := by
 refine fnV_of mixed tysOk Tryz.func29 rfl (ft := ft29) 2 (by decide +kernel) (by rfl) fun {σ} Y st => ?_
 conv=>whnf
 refine CallA_v (ch72 c p) rfl rfl ?_
 conv=>whnf
 by_cases h0 : openX c p = 0
 case neg =>
  have hv : radR c p = 0 := by unfold radR; rw [if_neg h0]
  rw [hv]
  refine brk_i (fun _ => ?_) (fun h1 => absurd h1 (by simp [h0]))
  conv=>whnf
  exact RetA_view 0 rfl ⟨⟨rfl, rfl⟩, rfl⟩
 obtain ⟨hR, hp⟩ := openX_ok h0
 have hv : radR c p = halfF c p 5000 0 5000 := by unfold radR; rw [if_pos h0]
 rw [hv]
 refine brk_i (fun h1 => absurd h1 (by simp [h0])) (fun _ => ?_)
 conv=>whnf
 refine LoopA_p (T := tys) tysOk (by exact drawsB_spec mixed tysOk (by decide +kernel)) (α := Nat × Int × Int)
  (fun x => ⟨[(2, .ptr 2 0), (3, .ptr 3 0), (7, .d (i64 x.2.1)), (8, .d (i64 x.2.2))], [(2, .box (.dd c.cells)), (3, .box (.dd p.cells))], st⟩)
  (fun x => 0 ≤ x.2.1 ∧ x.2.1 ≤ x.2.2 ∧ x.2.2 ≤ 5000 ∧ x.2.2 - x.2.1 ≤ x.1 ∧ halfF c p 5000 0 5000 = halfF c p x.1 x.2.1 x.2.2) (fun x => x.1) (5000, 0, 5000) (Wk.sub ⟨(by first | rfl | (simp only [List.length_map]; rfl) | simp [PX.get]), (by first | rfl | (simp only [List.length_map]; rfl) | simp [PX.get]), (by first | rfl | (simp only [List.length_map]; rfl) | simp [PX.get]), (by first | rfl | (simp only [List.length_map]; rfl) | simp [PX.get]), trivial⟩ ⟨(by first | rfl | (simp only [List.length_map]; rfl) | simp [PX.get]), (by first | rfl | (simp only [List.length_map]; rfl) | simp [PX.get]), trivial⟩) ⟨by simp, by simp, by simp, by simp, rfl⟩ ?_
 rintro ⟨n, a, b⟩ ⟨h1, h2, h3, h4, hk⟩
 simp only at h1 h2 h3 h4 hk
 conv=>whnf
 refine brk_i (fun h5 => ?_) (fun h5 => ?_)
 ·have h6 : a < b := by have := of_decide_eq_true h5; omega
  clear h5
  obtain ⟨n, rfl⟩ : ∃ k, n = k + 1 := ⟨n - 1, by omega⟩
  have hrl : halfF c p (n + 1) a b = if a < b then (if (firstR c p ((a + b + 1) / 2)).isSome then halfF c p n a ((a + b + 1) / 2 - 1) else halfF c p n ((a + b + 1) / 2) b) else a := rfl
  rw [hrl, if_pos h6] at hk
  clear hrl
  have hm : (a + b + 1).tdiv 2 = (a + b + 1) / 2 := Int.tdiv_eq_ediv_of_nonneg (by omega)
  have hm1 : a < (a + b + 1) / 2 := by omega
  have hm2 : (a + b + 1) / 2 ≤ b := by omega
  conv=>whnf
  refine arith_in (wrap_i64 (by (try dsimp only); omega)) ?_
  conv=>whnf
  refine arith_in (wrap_i64 (by (try dsimp only); omega)) ?_
  conv=>whnf
  refine arith_to (((a + b + 1) / 2)) (by (try dsimp only); omega) (wrap_i64 (by (try dsimp only); omega)) ?_
  conv=>whnf
  refine CallA_v (ch75 c hR p hp ((a + b + 1) / 2) (by omega)) rfl rfl ?_
  conv=>whnf
  cases hx : firstR c p ((a + b + 1) / 2) with
  | none =>
   rw [hx] at hk
   conv=>whnf
   exact ⟨(n, (a + b + 1) / 2, b), by simp only; omega, ⟨by simp only; omega, by simp only; omega, by simp only; omega, by simp only; omega, hk⟩, (Wk.sub ⟨(by first | rfl | (simp only [List.length_map]; rfl) | simp [PX.get]), (by first | rfl | (simp only [List.length_map]; rfl) | simp [PX.get]), (by first | rfl | (simp only [List.length_map]; rfl) | simp [PX.get]), (by first | rfl | (simp only [List.length_map]; rfl) | simp [PX.get]), trivial⟩ ⟨(by first | rfl | (simp only [List.length_map]; rfl) | simp [PX.get]), (by first | rfl | (simp only [List.length_map]; rfl) | simp [PX.get]), trivial⟩)⟩
  | some x =>
   obtain ⟨i, m⟩ := x
   rw [hx] at hk
   conv=>whnf
   refine arith_in (wrap_i64 (by (try dsimp only); omega)) ?_
   conv=>whnf
   exact ⟨(n, a, (a + b + 1) / 2 - 1), by simp only; omega, ⟨by simp only; omega, by simp only; omega, by simp only; omega, by simp only; omega, hk⟩, (Wk.sub ⟨(by first | rfl | (simp only [List.length_map]; rfl) | simp [PX.get]), (by first | rfl | (simp only [List.length_map]; rfl) | simp [PX.get]), (by first | rfl | (simp only [List.length_map]; rfl) | simp [PX.get]), (by first | rfl | (simp only [List.length_map]; rfl) | simp [PX.get]), trivial⟩ ⟨(by first | rfl | (simp only [List.length_map]; rfl) | simp [PX.get]), (by first | rfl | (simp only [List.length_map]; rfl) | simp [PX.get]), trivial⟩)⟩
 ·have h6 : ¬ a < b := by have := of_decide_eq_false h5; omega
  clear h5
  have hend : halfF c p n a b = a := by
   cases n with
   | zero => rfl
   | succ n => rw [halfF, if_neg h6]
  rw [hend] at hk
  rw [hk, h0]
  conv=>whnf
  exact RetA_view 0 rfl ⟨⟨rfl, rfl⟩, rfl⟩
theorem ch29x (c : Cht) (p : Pt) : FnV Tryz.prog 29 [c.d, p.d] (.tup [i64 (radV c p), i64 (openX c p)]) := FnV.cast (ch29 c p) (by rw [rad_eq])
end Go.PX
namespace Go.PX
open Go.Proofs
end Go.PX
namespace Go.PX
open Go.Proofs
end Go.PX
namespace Go.PX
open Go.Proofs
set_option maxHeartbeats 4000000 in
theorem ch24 (c : Cht) (p : Pt) : FnV Tryz.prog 24 [c.d, p.d] (.tup [intsD (onRA c p), intsD (onRB c p), i64 (openX c p)]) := by
 refine fnV_of mixed tysOk Tryz.func24 rfl (ft := ft24) 2 (by decide +kernel) (by rfl) fun {σ} Y st => ?_
 conv=>whnf
 refine CallA_v (ch72 c p) rfl rfl ?_
 conv=>whnf
 by_cases h0 : openX c p = 0
 case neg =>
  have ha : onRA c p = [] := by unfold onRA; rw [if_neg h0]
  have hb : onRB c p = [] := by unfold onRB; rw [if_neg h0]
  rw [ha, hb]
  refine brk_i (fun _ => ?_) (fun h1 => absurd h1 (by simp [h0]))
  conv=>whnf
  exact RetA_viewR 0 rfl rfl ⟨⟨rfl, rfl⟩, rfl⟩
 obtain ⟨hR, hp⟩ := openX_ok h0
 have hsl := hR.sands
 have ha : onRA c p = sureR p 0 c.sands := by unfold onRA; rw [if_pos h0]
 have hb : onRB c p = someR p 0 c.sands := by unfold onRB; rw [if_pos h0]
 rw [ha, hb]
 refine brk_i (fun h1 => absurd h1 (by simp [h0])) (fun _ => ?_)
 conv=>whnf
 refine LoopA_i (T := tys) tysOk (by exact drawsB_spec mixed tysOk (by decide +kernel)) c.sands (fun i (g : List Int × List Int) => ⟨[(2, .ptr 2 0), (3, .ptr 3 0), (8, .sl 65 1 0 g.1.length), (9, .sl 70 1 0 g.2.length), (10, .d (i64 i))], [(2, .box (.dd c.cells)), (3, .box (.dd p.cells)), (65, .arr 1 (.dd (g.1.map fun n => [i64 n]))), (70, .arr 1 (.dd (g.2.map fun n => [i64 n])))], st⟩)
  (fun i r g => sureR p 0 c.sands = g.1 ++ sureR p i r ∧ someR p 0 c.sands = g.2 ++ someR p i r ∧ g.1.length ≤ i ∧ g.2.length ≤ i) ([], []) ((Wk.born 8 65 1 rfl rfl rfl).trans ((Wk.born 9 70 1 rfl rfl rfl).trans (Wk.sub ⟨(by first | rfl | (simp only [List.length_map]; rfl) | simp [PX.get]), (by first | rfl | (simp only [List.length_map]; rfl) | simp [PX.get]), (by first | rfl | (simp only [List.length_map]; rfl) | simp [PX.get]), (by first | rfl | (simp only [List.length_map]; rfl) | simp [PX.get]), (by first | rfl | (simp only [List.length_map]; rfl) | simp [PX.get]), trivial⟩ ⟨(by first | rfl | (simp only [List.length_map]; rfl) | simp [PX.get]), (by first | rfl | (simp only [List.length_map]; rfl) | simp [PX.get]), (by first | rfl | (simp only [List.length_map]; rfl) | simp [PX.get]), (by first | rfl | (simp only [List.length_map]; rfl) | simp [PX.get]), trivial⟩))) ⟨rfl, rfl, by simp, by simp⟩ ?_ ?_
 ·rintro i s r ⟨A, B⟩ hsi hi hr ⟨hA, hB, hlA, hlB⟩
  simp only at hA hB hlA hlB
  rw [sureR] at hA
  rw [someR] at hB
  have hS := hR.sand s (List.mem_of_getElem? hsi)
  have hml := movesL_len _ hS.smallB
  conv=>whnf
  refine brk_i (fun _ => ?_) (fun h => absurd hi (by simpa using h))
  conv=>whnf
  refine elemK_nat hsi ?_
  conv=>whnf
  refine CallA_v (ds := [s.moves.d]) (ch73 s.moves hS.smallB) rfl rfl ?_
  conv=>whnf
  refine LoopA_i (T := tys) tysOk (by exact drawsB_spec mixed tysOk (by decide +kernel)) (movesL s.moves) (fun j (g : Bool × Bool) => ⟨[(2, .ptr 2 0), (3, .ptr 3 0), (8, .sl 65 1 0 A.length), (9, .sl 70 1 0 B.length), (10, .d (i64 i)), (11, .d (.bool g.1)), (12, .d (.bool g.2)), (13, .d (ptsD (movesL s.moves))), (14, .d (i64 j))], [(2, .box (.dd c.cells)), (3, .box (.dd p.cells)), (65, .arr 1 (.dd (A.map fun n => [i64 n]))), (70, .arr 1 (.dd (B.map fun n => [i64 n])))], st⟩)
   (fun j ms g => sureS s p = (g.1 && ms.all fun m => liesR s m p) ∧ someS s p = (g.2 || ms.any fun m => liesR s m p)) (true, false) (Wk.sub ⟨(by first | rfl | (simp only [List.length_map]; rfl) | simp [PX.get]), (by first | rfl | (simp only [List.length_map]; rfl) | simp [PX.get]), (by first | rfl | (simp only [List.length_map]; rfl) | simp [PX.get]), (by first | rfl | (simp only [List.length_map]; rfl) | simp [PX.get]), (by first | rfl | (simp only [List.length_map]; rfl) | simp [PX.get]), (by first | rfl | (simp only [List.length_map]; rfl) | simp [PX.get]), (by first | rfl | (simp only [List.length_map]; rfl) | simp [PX.get]), (by first | rfl | (simp only [List.length_map]; rfl) | simp [PX.get]), (by first | rfl | (simp only [List.length_map]; rfl) | simp [PX.get]), trivial⟩ ⟨(by first | rfl | (simp only [List.length_map]; rfl) | simp [PX.get]), (by first | rfl | (simp only [List.length_map]; rfl) | simp [PX.get]), (by first | rfl | (simp only [List.length_map]; rfl) | simp [PX.get]), (by first | rfl | (simp only [List.length_map]; rfl) | simp [PX.get]), trivial⟩) ⟨rfl, rfl⟩ ?_ ?_
  ·rintro j m ms ⟨ga, gb⟩ hmj hj hjr ⟨ka, kb⟩
   simp only at ka kb
   rw [List.all_cons] at ka
   rw [List.any_cons] at kb
   have hm := move_pin hS (List.mem_of_getElem? hmj)
   conv=>whnf
   refine brk_i (fun _ => ?_) (fun h => absurd hj (by simpa using h))
   conv=>whnf
   refine elemK_nat hsi ?_
   conv=>whnf
   refine elemK_nat hmj ?_
   conv=>whnf
   refine DrawCall_v (ds := [s.d, m.d, p.d]) (ch46 s hS m p (hm.mono (by omega)) hp) rfl rfl ?_
   cases hz : liesR s m p with
   | true =>
    rw [hz, Bool.true_and] at ka
    rw [hz, Bool.true_or, Bool.or_true] at kb
    cases ga with
    | true =>
     cases gb with
     | true =>
      conv=>whnf
      refine arith_in (wrap_i64 (by (try dsimp only); omega)) ?_
      conv=>whnf
      exact ⟨(true, true), ⟨ka, by rw [kb]; simp⟩, (Wk.sub ⟨(by first | rfl | (simp only [List.length_map]; rfl) | simp [PX.get]), (by first | rfl | (simp only [List.length_map]; rfl) | simp [PX.get]), (by first | rfl | (simp only [List.length_map]; rfl) | simp [PX.get]), (by first | rfl | (simp only [List.length_map]; rfl) | simp [PX.get]), (by first | rfl | (simp only [List.length_map]; rfl) | simp [PX.get]), (by first | rfl | (simp only [List.length_map]; rfl) | simp [PX.get]), (by first | rfl | (simp only [List.length_map]; rfl) | simp [PX.get]), (by first | rfl | (simp only [List.length_map]; rfl) | simp [PX.get]), (by first | rfl | (simp only [List.length_map]; rfl) | simp [PX.get]), trivial⟩ ⟨(by first | rfl | (simp only [List.length_map]; rfl) | simp [PX.get]), (by first | rfl | (simp only [List.length_map]; rfl) | simp [PX.get]), (by first | rfl | (simp only [List.length_map]; rfl) | simp [PX.get]), (by first | rfl | (simp only [List.length_map]; rfl) | simp [PX.get]), trivial⟩)⟩
     | false =>
      conv=>whnf
      refine arith_in (wrap_i64 (by (try dsimp only); omega)) ?_
      conv=>whnf
      exact ⟨(true, true), ⟨ka, by rw [kb]; simp⟩, (Wk.sub ⟨(by first | rfl | (simp only [List.length_map]; rfl) | simp [PX.get]), (by first | rfl | (simp only [List.length_map]; rfl) | simp [PX.get]), (by first | rfl | (simp only [List.length_map]; rfl) | simp [PX.get]), (by first | rfl | (simp only [List.length_map]; rfl) | simp [PX.get]), (by first | rfl | (simp only [List.length_map]; rfl) | simp [PX.get]), (by first | rfl | (simp only [List.length_map]; rfl) | simp [PX.get]), (by first | rfl | (simp only [List.length_map]; rfl) | simp [PX.get]), (by first | rfl | (simp only [List.length_map]; rfl) | simp [PX.get]), (by first | rfl | (simp only [List.length_map]; rfl) | simp [PX.get]), trivial⟩ ⟨(by first | rfl | (simp only [List.length_map]; rfl) | simp [PX.get]), (by first | rfl | (simp only [List.length_map]; rfl) | simp [PX.get]), (by first | rfl | (simp only [List.length_map]; rfl) | simp [PX.get]), (by first | rfl | (simp only [List.length_map]; rfl) | simp [PX.get]), trivial⟩)⟩
    | false =>
     cases gb with
     | true =>
      conv=>whnf
      refine arith_in (wrap_i64 (by (try dsimp only); omega)) ?_
      conv=>whnf
      exact ⟨(false, true), ⟨ka, by rw [kb]; simp⟩, (Wk.sub ⟨(by first | rfl | (simp only [List.length_map]; rfl) | simp [PX.get]), (by first | rfl | (simp only [List.length_map]; rfl) | simp [PX.get]), (by first | rfl | (simp only [List.length_map]; rfl) | simp [PX.get]), (by first | rfl | (simp only [List.length_map]; rfl) | simp [PX.get]), (by first | rfl | (simp only [List.length_map]; rfl) | simp [PX.get]), (by first | rfl | (simp only [List.length_map]; rfl) | simp [PX.get]), (by first | rfl | (simp only [List.length_map]; rfl) | simp [PX.get]), (by first | rfl | (simp only [List.length_map]; rfl) | simp [PX.get]), (by first | rfl | (simp only [List.length_map]; rfl) | simp [PX.get]), trivial⟩ ⟨(by first | rfl | (simp only [List.length_map]; rfl) | simp [PX.get]), (by first | rfl | (simp only [List.length_map]; rfl) | simp [PX.get]), (by first | rfl | (simp only [List.length_map]; rfl) | simp [PX.get]), (by first | rfl | (simp only [List.length_map]; rfl) | simp [PX.get]), trivial⟩)⟩
     | false =>
      conv=>whnf
      refine arith_in (wrap_i64 (by (try dsimp only); omega)) ?_
      conv=>whnf
      exact ⟨(false, true), ⟨ka, by rw [kb]; simp⟩, (Wk.sub ⟨(by first | rfl | (simp only [List.length_map]; rfl) | simp [PX.get]), (by first | rfl | (simp only [List.length_map]; rfl) | simp [PX.get]), (by first | rfl | (simp only [List.length_map]; rfl) | simp [PX.get]), (by first | rfl | (simp only [List.length_map]; rfl) | simp [PX.get]), (by first | rfl | (simp only [List.length_map]; rfl) | simp [PX.get]), (by first | rfl | (simp only [List.length_map]; rfl) | simp [PX.get]), (by first | rfl | (simp only [List.length_map]; rfl) | simp [PX.get]), (by first | rfl | (simp only [List.length_map]; rfl) | simp [PX.get]), (by first | rfl | (simp only [List.length_map]; rfl) | simp [PX.get]), trivial⟩ ⟨(by first | rfl | (simp only [List.length_map]; rfl) | simp [PX.get]), (by first | rfl | (simp only [List.length_map]; rfl) | simp [PX.get]), (by first | rfl | (simp only [List.length_map]; rfl) | simp [PX.get]), (by first | rfl | (simp only [List.length_map]; rfl) | simp [PX.get]), trivial⟩)⟩
   | false =>
    rw [hz, Bool.false_and, Bool.and_false] at ka
    rw [hz, Bool.false_or] at kb
    cases ga with
    | true =>
     cases gb with
     | true =>
      conv=>whnf
      refine arith_in (wrap_i64 (by (try dsimp only); omega)) ?_
      conv=>whnf
      exact ⟨(false, true), ⟨by rw [ka]; simp, kb⟩, (Wk.sub ⟨(by first | rfl | (simp only [List.length_map]; rfl) | simp [PX.get]), (by first | rfl | (simp only [List.length_map]; rfl) | simp [PX.get]), (by first | rfl | (simp only [List.length_map]; rfl) | simp [PX.get]), (by first | rfl | (simp only [List.length_map]; rfl) | simp [PX.get]), (by first | rfl | (simp only [List.length_map]; rfl) | simp [PX.get]), (by first | rfl | (simp only [List.length_map]; rfl) | simp [PX.get]), (by first | rfl | (simp only [List.length_map]; rfl) | simp [PX.get]), (by first | rfl | (simp only [List.length_map]; rfl) | simp [PX.get]), (by first | rfl | (simp only [List.length_map]; rfl) | simp [PX.get]), trivial⟩ ⟨(by first | rfl | (simp only [List.length_map]; rfl) | simp [PX.get]), (by first | rfl | (simp only [List.length_map]; rfl) | simp [PX.get]), (by first | rfl | (simp only [List.length_map]; rfl) | simp [PX.get]), (by first | rfl | (simp only [List.length_map]; rfl) | simp [PX.get]), trivial⟩)⟩
     | false =>
      conv=>whnf
      refine arith_in (wrap_i64 (by (try dsimp only); omega)) ?_
      conv=>whnf
      exact ⟨(false, false), ⟨by rw [ka]; simp, kb⟩, (Wk.sub ⟨(by first | rfl | (simp only [List.length_map]; rfl) | simp [PX.get]), (by first | rfl | (simp only [List.length_map]; rfl) | simp [PX.get]), (by first | rfl | (simp only [List.length_map]; rfl) | simp [PX.get]), (by first | rfl | (simp only [List.length_map]; rfl) | simp [PX.get]), (by first | rfl | (simp only [List.length_map]; rfl) | simp [PX.get]), (by first | rfl | (simp only [List.length_map]; rfl) | simp [PX.get]), (by first | rfl | (simp only [List.length_map]; rfl) | simp [PX.get]), (by first | rfl | (simp only [List.length_map]; rfl) | simp [PX.get]), (by first | rfl | (simp only [List.length_map]; rfl) | simp [PX.get]), trivial⟩ ⟨(by first | rfl | (simp only [List.length_map]; rfl) | simp [PX.get]), (by first | rfl | (simp only [List.length_map]; rfl) | simp [PX.get]), (by first | rfl | (simp only [List.length_map]; rfl) | simp [PX.get]), (by first | rfl | (simp only [List.length_map]; rfl) | simp [PX.get]), trivial⟩)⟩
    | false =>
     cases gb with
     | true =>
      conv=>whnf
      refine arith_in (wrap_i64 (by (try dsimp only); omega)) ?_
      conv=>whnf
      exact ⟨(false, true), ⟨by rw [ka]; simp, kb⟩, (Wk.sub ⟨(by first | rfl | (simp only [List.length_map]; rfl) | simp [PX.get]), (by first | rfl | (simp only [List.length_map]; rfl) | simp [PX.get]), (by first | rfl | (simp only [List.length_map]; rfl) | simp [PX.get]), (by first | rfl | (simp only [List.length_map]; rfl) | simp [PX.get]), (by first | rfl | (simp only [List.length_map]; rfl) | simp [PX.get]), (by first | rfl | (simp only [List.length_map]; rfl) | simp [PX.get]), (by first | rfl | (simp only [List.length_map]; rfl) | simp [PX.get]), (by first | rfl | (simp only [List.length_map]; rfl) | simp [PX.get]), (by first | rfl | (simp only [List.length_map]; rfl) | simp [PX.get]), trivial⟩ ⟨(by first | rfl | (simp only [List.length_map]; rfl) | simp [PX.get]), (by first | rfl | (simp only [List.length_map]; rfl) | simp [PX.get]), (by first | rfl | (simp only [List.length_map]; rfl) | simp [PX.get]), (by first | rfl | (simp only [List.length_map]; rfl) | simp [PX.get]), trivial⟩)⟩
     | false =>
      conv=>whnf
      refine arith_in (wrap_i64 (by (try dsimp only); omega)) ?_
      conv=>whnf
      exact ⟨(false, false), ⟨by rw [ka]; simp, kb⟩, (Wk.sub ⟨(by first | rfl | (simp only [List.length_map]; rfl) | simp [PX.get]), (by first | rfl | (simp only [List.length_map]; rfl) | simp [PX.get]), (by first | rfl | (simp only [List.length_map]; rfl) | simp [PX.get]), (by first | rfl | (simp only [List.length_map]; rfl) | simp [PX.get]), (by first | rfl | (simp only [List.length_map]; rfl) | simp [PX.get]), (by first | rfl | (simp only [List.length_map]; rfl) | simp [PX.get]), (by first | rfl | (simp only [List.length_map]; rfl) | simp [PX.get]), (by first | rfl | (simp only [List.length_map]; rfl) | simp [PX.get]), (by first | rfl | (simp only [List.length_map]; rfl) | simp [PX.get]), trivial⟩ ⟨(by first | rfl | (simp only [List.length_map]; rfl) | simp [PX.get]), (by first | rfl | (simp only [List.length_map]; rfl) | simp [PX.get]), (by first | rfl | (simp only [List.length_map]; rfl) | simp [PX.get]), (by first | rfl | (simp only [List.length_map]; rfl) | simp [PX.get]), trivial⟩)⟩
  ·rintro ⟨ga, gb⟩ ⟨ka, kb⟩
   simp only at ka kb
   rw [List.all_nil, Bool.and_true] at ka
   rw [List.any_nil, Bool.or_false] at kb
   rw [ka] at hA
   rw [kb] at hB
   conv=>whnf
   refine brk_i (fun h => absurd h (by simp)) (fun _ => ?_)
   conv=>whnf
   cases ga with
   | true =>
    rw [if_pos rfl] at hA
    conv=>whnf
    refine ownK_whole rfl ?_
    conv=>whnf
    refine ownK_whole (by simp [Els.len]) ?_
    conv=>whnf
    refine chk_i (decide_eq_true (by
     show ((A.map fun n => [i64 n]).length + 1) * 8 ≤ 140737488355328
     rw [List.length_map]; omega)) ?_
    conv=>whnf
    cases gb with
    | true =>
     rw [if_pos rfl] at hB
     conv=>whnf
     refine ownK_whole rfl ?_
     conv=>whnf
     refine ownK_whole (by simp [Els.len]) ?_
     conv=>whnf
     refine chk_i (decide_eq_true (by
      show ((B.map fun n => [i64 n]).length + 1) * 8 ≤ 140737488355328
      rw [List.length_map]; omega)) ?_
     conv=>whnf
     refine arith_in (wrap_i64 (by (try dsimp only); omega)) ?_
     conv=>whnf
     exact ⟨(A ++ [(i : Int)], B ++ [(i : Int)]), ⟨by rw [hA]; try simp, by rw [hB]; try simp, by simp <;> omega, by simp <;> omega⟩, Wk.sub ⟨rfl, rfl, (by first | rfl | simp [PX.get, Els.len]), (by first | rfl | simp [PX.get, Els.len]), (by first | rfl | simp [PX.get, Els.len]), trivial⟩ ⟨rfl, rfl, (by first | rfl | simp [PX.get, Els.len]), (by first | rfl | simp [PX.get, Els.len]), trivial⟩⟩
    | false =>
     rw [if_neg (by simp)] at hB
     conv=>whnf
     refine arith_in (wrap_i64 (by (try dsimp only); omega)) ?_
     conv=>whnf
     exact ⟨(A ++ [(i : Int)], B), ⟨by rw [hA]; try simp, by rw [hB]; try simp, by simp <;> omega, by simp <;> omega⟩, Wk.sub ⟨rfl, rfl, (by first | rfl | simp [PX.get, Els.len]), (by first | rfl | simp [PX.get, Els.len]), (by first | rfl | simp [PX.get, Els.len]), trivial⟩ ⟨rfl, rfl, (by first | rfl | simp [PX.get, Els.len]), (by first | rfl | simp [PX.get, Els.len]), trivial⟩⟩
   | false =>
    rw [if_neg (by simp)] at hA
    conv=>whnf
    cases gb with
    | true =>
     rw [if_pos rfl] at hB
     conv=>whnf
     refine ownK_whole rfl ?_
     conv=>whnf
     refine ownK_whole (by simp [Els.len]) ?_
     conv=>whnf
     refine chk_i (decide_eq_true (by
      show ((B.map fun n => [i64 n]).length + 1) * 8 ≤ 140737488355328
      rw [List.length_map]; omega)) ?_
     conv=>whnf
     refine arith_in (wrap_i64 (by (try dsimp only); omega)) ?_
     conv=>whnf
     exact ⟨(A, B ++ [(i : Int)]), ⟨by rw [hA]; try simp, by rw [hB]; try simp, by simp <;> omega, by simp <;> omega⟩, Wk.sub ⟨rfl, rfl, (by first | rfl | simp [PX.get, Els.len]), (by first | rfl | simp [PX.get, Els.len]), (by first | rfl | simp [PX.get, Els.len]), trivial⟩ ⟨rfl, rfl, (by first | rfl | simp [PX.get, Els.len]), (by first | rfl | simp [PX.get, Els.len]), trivial⟩⟩
    | false =>
     rw [if_neg (by simp)] at hB
     conv=>whnf
     refine arith_in (wrap_i64 (by (try dsimp only); omega)) ?_
     conv=>whnf
     exact ⟨(A, B), ⟨by rw [hA]; try simp, by rw [hB]; try simp, by simp <;> omega, by simp <;> omega⟩, Wk.sub ⟨rfl, rfl, (by first | rfl | simp [PX.get, Els.len]), (by first | rfl | simp [PX.get, Els.len]), (by first | rfl | simp [PX.get, Els.len]), trivial⟩ ⟨rfl, rfl, (by first | rfl | simp [PX.get, Els.len]), (by first | rfl | simp [PX.get, Els.len]), trivial⟩⟩
 ·rintro ⟨A, B⟩ ⟨hA, hB, hlA, hlB⟩
  simp only at hA hB hlA hlB
  rw [sureR, List.append_nil] at hA
  rw [someR, List.append_nil] at hB
  rw [hA, hB]
  conv=>whnf
  refine brk_i (fun h => absurd h (by simp)) (fun _ => ?_)
  conv=>whnf
  rw [h0]
  exact RetA_view 2 (ds := [intsD A, intsD B, i64 0]) (viewL_cons (viewV_sl rfl (by simp)) (viewL_cons (viewV_sl rfl (by simp)) rfl)) ⟨⟨rfl, rfl⟩, rfl⟩
theorem ch24x (c : Cht) (p : Pt) : FnV Tryz.prog 24 [c.d, p.d] (.tup [intsD (onA c p), intsD (onB c p), i64 (openX c p)]) := FnV.cast (ch24 c p) (by rw [onA_eq, onB_eq])
end Go.PX
namespace Go.PX
open Go.Proofs
end Go.PX
namespace Go.PX
open Go.Proofs
theorem sureF_len (p : Pt) : ∀ (l : List Sand) (i : Int), (sureF p i l).length ≤ l.length
 | [], _ => Nat.le_refl _
 | s :: l, i => by
  have := sureF_len p l (i + 1)
  rw [sureF]
  split <;> simp <;> omega
theorem someF_len (p : Pt) : ∀ (l : List Sand) (i : Int), (someF p i l).length ≤ l.length
 | [], _ => Nat.le_refl _
 | s :: l, i => by
  have := someF_len p l (i + 1)
  rw [someF]
  split <;> simp <;> omega
theorem onA_len (c : Cht) (p : Pt) : (onA c p).length < 1000000 := by
 unfold onA
 split
 ·rename_i h
  have := sureF_len p c.sands 0
  have := (openX_ok h).1.sands
  omega
 ·simp
theorem onB_len (c : Cht) (p : Pt) : (onB c p).length < 1000000 := by
 unfold onB
 split
 ·rename_i h
  have := someF_len p c.sands 0
  have := (openX_ok h).1.sands
  omega
 ·simp
set_option maxHeartbeats 4000000 in
theorem ch4 (c : Cht) (p : Pt) (r : Int) : FnV Tryz.prog 4 [c.d, p.d, i64 r] (.bool true) := by
 refine fnV_of mixed tysOk Tryz.func4 rfl (ft := ft4) 3 (by decide +kernel) (by rfl) fun {σ} Y st => ?_
 conv=>whnf
 refine CallA_v (ds := [c.d, p.d]) (ch23 c p) rfl rfl ?_
 conv=>whnf
 refine CallA_v (ds := [c.d, p.d]) (ch24x c p) rfl rfl ?_
 conv=>whnf
 refine CallA_v (a16 (onA c p) (onA_len c p)) rfl rfl ?_
 conv=>whnf
 conv=>whnf
 refine CallA_v (a16 (onB c p) (onB_len c p)) rfl rfl ?_
 conv=>whnf
 refine brk_i (fun h => absurd h (by simp)) (fun _ => ?_)
 conv=>whnf
 refine CallA_v (ds := [c.d, p.d, i64 r]) (ch26 c p r) rfl rfl ?_
 conv=>whnf
 refine CallA_v (ds := [c.d, p.d, i64 r]) (ch27 c p r) rfl rfl ?_
 conv=>whnf
 repeat' (refine brk_i (fun h => absurd h (by simp)) (fun _ => ?_); conv=>whnf)
 refine CallA_v (ds := [c.d, p.d]) (ch28 c p) rfl rfl ?_
 conv=>whnf
 refine CallA_v (ds := [c.d, p.d]) (ch29x c p) rfl rfl ?_
 conv=>whnf
 repeat' (refine brk_i (fun _ => ?_) (fun h => absurd h (by simp)); conv=>whnf)
 repeat' (first
  | (refine CallA_v (ch22) rfl rfl ?_; conv=>whnf)
  | (refine CallA_view (ch22) rfl 1 rfl ?_; conv=>whnf)
  | (refine DrawCall_v (ch22) rfl rfl ?_; conv=>whnf)
  | (refine DrawCall_view (ch22) rfl 1 rfl ?_; conv=>whnf)
  | (refine arith_in (wrap_i64 (by (try dsimp only); omega)) ?_; conv=>whnf)
  | (refine elemK_nat (by assumption) ?_; conv=>whnf)
  | (refine ownK_whole (by first | rfl | assumption | (simp [Els.len]; done) | (simp [Els.len]; omega)) ?_; conv=>whnf)
  | (refine chk_i (by first | (exact decide_eq_true (by (try simp only [List.length_map]); omega)) | (simp [Els.len, Els.cons, V.cells, Els.toV, injL]; done) | (simp [Els.len, Els.cons, V.cells, Els.toV, injL]; omega)) ?_; conv=>whnf)
  | fail)
 exact RetA_view 1 rfl ⟨⟨rfl, rfl⟩, rfl⟩
end Go.PX
