import Derived.Test.YtboaolnlajoanaaGreatDoorPxO
import Derived.Test.YtboaolnlajoanaaGreatDoorPxL
set_option linter.all false
set_option maxRecDepth 10000
namespace Go.PX
open Go.Proofs
def nxS (l : List Pt) (i : Nat) : Pt := atP l ((i + 1) % l.length)
def liesR (s : Sand) (m p : Pt) : Bool := (List.range s.corners.length).all fun i => decide (0 ≤ leftF ((nxS s.corners i).sub (atP s.corners i)) ((p.sub m).sub (atP s.corners i)))
def nearR (a b p : Pt) (r : Int) : Bool :=
 if dotF (b.sub a) (p.sub a) ≤ 0 then decide (sqF (p.sub a) < r * r) else if sqF (b.sub a) ≤ dotF (b.sub a) (p.sub a) then decide (sqF (p.sub b) < r * r) else decide (leftF (b.sub a) (p.sub a) * leftF (b.sub a) (p.sub a) < r * r * sqF (b.sub a))
def insR (s : Sand) (m p : Pt) (r : Int) : Bool := (decide (0 < r) && liesR s m p) || (List.range s.corners.length).any fun i => nearR (atP s.corners i) (nxS s.corners i) (p.sub m) r
theorem mem_sides {s : Sand} (h0 : 0 < s.corners.length) (z : Pt × Pt) : z ∈ sidesF s ↔ ∃ i, i < s.corners.length ∧ z = (atP s.corners i, sideF s.corners.length (atP s.corners) i) := by
 have hlast : lastP s.corners = atP s.corners (s.corners.length - 1) := rfl
 unfold sidesF
 rw [sidesL_map, hlast, List.mem_map]
 constructor
 ·rintro ⟨j, hj, rfl⟩
  have hj := List.mem_range.1 hj
  by_cases h : j = 0
  ·subst h
   refine ⟨s.corners.length - 1, by omega, ?_⟩
   simp only [if_true]
   unfold sideF
   rw [Nat.sub_add_cancel (by omega), Nat.mod_self]
  ·refine ⟨j - 1, by omega, ?_⟩
   simp only [if_neg h]
   unfold sideF
   rw [Nat.sub_add_cancel (by omega), Nat.mod_eq_of_lt hj]
 ·rintro ⟨i, hi, rfl⟩
  by_cases h : i + 1 = s.corners.length
  ·refine ⟨0, List.mem_range.2 h0, ?_⟩
   simp only [if_true]
   unfold sideF
   rw [h, Nat.mod_self, show s.corners.length - 1 = i by omega]
  ·refine ⟨i + 1, List.mem_range.2 (by omega), ?_⟩
   simp only [if_neg (Nat.succ_ne_zero i)]
   unfold sideF
   rw [Nat.mod_eq_of_lt (show i + 1 < s.corners.length by omega), Nat.add_sub_cancel]
theorem roundR_iff {l : List Pt} (h3 : 3 ≤ l.length) (h : roundR l = true) : Round l.length (atP l) := by
 refine ⟨h3, fun i k hi hk h1 h2 => ?_⟩
 unfold roundR at h
 have := List.all_eq_true.1 h i (List.mem_range.2 hi)
 unfold rowOk at this
 have := List.all_eq_true.1 this k (List.mem_range.2 hk)
 unfold cornerOk at this
 simpa [h1, h2] using this
theorem SandR.round {s : Sand} (h : SandR s) : Round s.corners.length (atP s.corners) := by
 have h3 := h.len.1
 refine roundR_iff h3 ?_
 rw [← sides_round h3]
 exact List.all_eq_true.2 h.sides
theorem liesR_iff {s : Sand} {m p : Pt} : liesR s m p = true ↔ ∀ i, i < s.corners.length → 0 ≤ farF s.corners.length (atP s.corners) (p.sub m) i := by
 unfold liesR
 rw [List.all_eq_true]
 constructor
 ·intro h i hi
  exact of_decide_eq_true (h i (List.mem_range.2 hi))
 ·intro h i hi
  exact decide_eq_true (h i (List.mem_range.1 hi))
theorem nearR_iff {a b p : Pt} {r : Int} (he : 0 < sqF (b.sub a)) : nearR a b p r = true ↔ Mid (b.sub a) (p.sub a) r := by
 have e : (p.sub a).sub (b.sub a) = p.sub b := by unfold Pt.sub; simp; constructor <;> omega
 unfold nearR
 split
 ·rename_i h1
  rw [decide_eq_true_eq]
  exact ⟨mid_0, mid_lo h1⟩
 ·rename_i h1
  split
  ·rename_i h2
   rw [decide_eq_true_eq, ← e]
   exact ⟨mid_1, mid_hi h2⟩
  ·rename_i h2
   rw [decide_eq_true_eq]
   exact ⟨mid_m he (by omega) (by omega), mid_in he⟩
theorem nearS_iff {p : Pt} {r : Int} {z : Pt × Pt} (he : 0 < sqF z.2) : nearS p r z = true ↔ Mid z.2 (p.sub z.1) r := by
 have hd : ∀ v : Pt, dotF v v = sqF v := fun v => rfl
 unfold nearS distF
 rw [decide_eq_true_eq]
 split
 ·rename_i h1
  simp only [hd, Int.mul_one]
  exact ⟨mid_0, mid_lo (by omega)⟩
 ·rename_i h1
  split
  ·rename_i h2
   simp only [hd, Int.mul_one]
   exact ⟨mid_1, mid_hi (by rw [hd] at h2; omega)⟩
  ·rename_i h2
   rw [hd] at h2
   simp only [hd]
   exact ⟨mid_m he (by omega) (by omega), mid_in he⟩
theorem nearL_iff (p : Pt) (r : Int) : ∀ (l : List (Pt × Pt)) (on : Bool), nearL p r on l = true ↔ (∃ z ∈ l, leftF z.2 (p.sub z.1) < 0 ∧ nearS p r z = true) ∨ (on = true ∧ ∀ z ∈ l, 0 ≤ leftF z.2 (p.sub z.1))
 | [], on => by simp [nearL]
 | z :: l, on => by
  rw [nearL]
  by_cases h1 : 0 ≤ leftF z.2 (p.sub z.1)
  ·rw [if_pos h1, nearL_iff p r l on]
   constructor
   ·rintro (⟨y, hy, h⟩ | ⟨h, h2⟩)
    ·exact .inl ⟨y, by simp [hy], h⟩
    ·refine .inr ⟨h, fun y hy => ?_⟩
     rcases List.mem_cons.1 hy with rfl | hy
     ·exact h1
     ·exact h2 y hy
   ·rintro (⟨y, hy, h, h2⟩ | ⟨h, h2⟩)
    ·rcases List.mem_cons.1 hy with rfl | hy
     ·omega
     ·exact .inl ⟨y, hy, h, h2⟩
    ·exact .inr ⟨h, fun y hy => h2 y (by simp [hy])⟩
  ·rw [if_neg h1]
   by_cases h2 : nearS p r z = true
   ·rw [if_pos h2]
    exact ⟨fun _ => .inl ⟨z, by simp, by omega, h2⟩, fun _ => rfl⟩
   ·rw [if_neg h2, nearL_iff p r l false]
    constructor
    ·rintro (⟨y, hy, h⟩ | ⟨h, _⟩)
     ·exact .inl ⟨y, by simp [hy], h⟩
     ·cases h
    ·rintro (⟨y, hy, h, h3⟩ | ⟨_, h3⟩)
     ·rcases List.mem_cons.1 hy with rfl | hy
      ·exact absurd h3 h2
      ·exact .inl ⟨y, hy, h, h3⟩
     ·exact absurd (h3 z (by simp)) h1
theorem nearX_iff {s : Sand} (h : SandR s) (p : Pt) (r : Int) : nearX s p r = true ↔ (∃ k, k < s.corners.length ∧ farF s.corners.length (atP s.corners) p k < 0 ∧ Mid (sideF s.corners.length (atP s.corners) k) (p.sub (atP s.corners k)) r) ∨ ∀ k, k < s.corners.length → 0 ≤ farF s.corners.length (atP s.corners) p k := by
 have h3 := h.len.1
 have h0 : 0 < s.corners.length := by omega
 have hR := h.round
 have hM : ∀ k, k < s.corners.length → (nearS p r (atP s.corners k, sideF s.corners.length (atP s.corners) k) = true ↔ Mid (sideF s.corners.length (atP s.corners) k) (p.sub (atP s.corners k)) r) := fun k hk => nearS_iff (z := (atP s.corners k, sideF s.corners.length (atP s.corners) k)) (hR.side_pos hk)
 have hL := nearL_iff p r (sidesF s) true
 have hms := mem_sides h0
 unfold nearX
 rw [hL]
 constructor
 ·rintro (⟨z, hz, h1, h2⟩ | ⟨_, h1⟩)
  ·obtain ⟨k, hk, rfl⟩ := (hms z).1 hz
   exact .inl ⟨k, hk, h1, (hM k hk).1 h2⟩
  ·exact .inr fun k hk => h1 _ ((hms _).2 ⟨k, hk, rfl⟩)
 ·rintro (⟨k, hk, h1, h2⟩ | h1)
  ·exact .inl ⟨_, (hms _).2 ⟨k, hk, rfl⟩, h1, (hM k hk).2 h2⟩
  ·refine .inr ⟨rfl, fun z hz => ?_⟩
   obtain ⟨k, hk, rfl⟩ := (hms z).1 hz
   exact h1 k hk
theorem insR_iff {s : Sand} (h : SandR s) (m p : Pt) (r : Int) : insR s m p r = true ↔ (0 < r ∧ ∀ k, k < s.corners.length → 0 ≤ farF s.corners.length (atP s.corners) (p.sub m) k) ∨ ∃ k, k < s.corners.length ∧ Mid (sideF s.corners.length (atP s.corners) k) ((p.sub m).sub (atP s.corners k)) r := by
 have hR := h.round
 unfold insR
 rw [Bool.or_eq_true, Bool.and_eq_true, liesR_iff, decide_eq_true_eq, List.any_eq_true]
 constructor
 ·rintro (h | ⟨k, hk, h⟩)
  ·exact .inl h
  ·have hk := List.mem_range.1 hk
   exact .inr ⟨k, hk, (nearR_iff (hR.side_pos hk)).1 h⟩
 ·rintro (h | ⟨k, hk, h⟩)
  ·exact .inl h
  ·exact .inr ⟨k, List.mem_range.2 hk, (nearR_iff (hR.side_pos hk)).2 h⟩
theorem near_ins {s : Sand} (h : SandR s) (m p : Pt) {r : Int} (hr : 0 < r) : nearX s (p.sub m) r = insR s m p r := by
 rw [Bool.eq_iff_iff, nearX_iff h, insR_iff h]
 constructor
 ·rintro (⟨k, hk, _, h2⟩ | h1)
  ·exact .inr ⟨k, hk, h2⟩
  ·exact .inl ⟨hr, h1⟩
 ·rintro (⟨_, h1⟩ | ⟨k, hk, h2⟩)
  ·exact .inr h1
  ·by_cases h3 : ∃ k, k < s.corners.length ∧ farF s.corners.length (atP s.corners) (p.sub m) k < 0
   ·exact .inl (wayIn_side h.round hk h2 h3)
   ·refine .inr fun k hk => ?_
    rcases Int.lt_or_le (farF s.corners.length (atP s.corners) (p.sub m) k) 0 with h4 | h4
    ·exact absurd ⟨k, hk, h4⟩ h3
    ·exact h4
theorem mid_0r {e t : Pt} : ¬ Mid e t 0 := by
 rintro ⟨u, v, h0, h1, h2, h⟩
 have e1 : v * v * sqF t - 2 * (u * v) * dotF e t + u * u * sqF e = sqF ⟨v * t.x - u * e.x, v * t.y - u * e.y⟩ := by
  unfold sqF dotF; grind
 rw [e1] at h
 have := sqF_nonneg ⟨v * t.x - u * e.x, v * t.y - u * e.y⟩
 simp at h
 omega
theorem ins_0 {s : Sand} (h : SandR s) (m p : Pt) : insR s m p 0 = false := by
 rw [Bool.eq_false_iff]
 intro h1
 rcases (insR_iff h m p 0).1 h1 with ⟨h2, _⟩ | ⟨k, _, h2⟩
 ·omega
 ·exact mid_0r h2
theorem mid_mono {e t : Pt} {r r' : Int} (h0 : 0 ≤ r) (hr : r ≤ r') (h : Mid e t r) : Mid e t r' := by
 obtain ⟨u, v, a, b, c, h⟩ := h
 refine ⟨u, v, a, b, c, ?_⟩
 have h1 : r * r ≤ r' * r' := Int.mul_le_mul hr hr h0 (by omega)
 have h2 := Int.mul_le_mul_of_nonneg_right h1 (show 0 ≤ v * v from sq_nonneg v)
 omega
theorem ins_mono {s : Sand} (h : SandR s) {m p : Pt} {r r' : Int} (h0 : 0 ≤ r) (hr : r ≤ r') (h1 : insR s m p r = true) : insR s m p r' = true := by
 rw [insR_iff h] at h1 ⊢
 rcases h1 with ⟨h2, h3⟩ | ⟨k, hk, h2⟩
 ·exact .inl ⟨by omega, h3⟩
 ·exact .inr ⟨k, hk, mid_mono h0 hr h2⟩
def inSp (l : Span) (y : Int) : Prop := l.lo ≤ y ∧ y ≤ l.hi
theorem cutF_iff (l : Span) (f n y : Int) : inSp (cutF l f n) y ↔ inSp l y ∧ n ≤ f * y := by
 unfold inSp cutF
 by_cases h1 : 0 < f
 ·rw [if_pos h1]
  have h2 : -((-n) / f) ≤ y ↔ n ≤ f * y := by
   have : -((-n) / f) ≤ y ↔ -y ≤ (-n) / f := by omega
   rw [this, Int.le_ediv_iff_mul_le h1, Int.neg_mul, Int.mul_comm y f]; omega
  rw [← h2]
  simp only
  omega
 ·rw [if_neg h1]
  by_cases h2 : f < 0
  ·rw [if_pos h2]
   have h3 : y ≤ (-n) / (-f) ↔ n ≤ f * y := by
    rw [Int.le_ediv_iff_mul_le (by omega), Int.mul_neg, Int.mul_comm y f]; omega
   rw [← h3]
   simp only
   omega
  ·rw [if_neg h2]
   have h3 : f = 0 := by omega
   subst h3
   rw [Int.zero_mul]
   split
   ·simp only; omega
   ·omega
theorem rows_foldl (x : Int) (p : Pt) (y : Int) : ∀ (l : List (Pt × Pt)) (a : Span), inSp (l.foldl (rowStep x p) a) y ↔ inSp a y ∧ ∀ z ∈ l, 0 ≤ leftF z.2 ((p.sub ⟨x, y⟩).sub z.1)
 | [], a => by simp
 | z :: l, a => by
  rw [List.foldl_cons, rows_foldl x p y l]
  have h1 : z.2.y * ((p.x - z.1.x) - x) - z.2.x * (p.y - z.1.y) ≤ (-z.2.x) * y ↔ 0 ≤ leftF z.2 ((p.sub ⟨x, y⟩).sub z.1) := by
   have : leftF z.2 ((p.sub ⟨x, y⟩).sub z.1) = (-z.2.x) * y - (z.2.y * ((p.x - z.1.x) - x) - z.2.x * (p.y - z.1.y)) := by
    unfold leftF Pt.sub; grind
   omega
  unfold rowStep
  rw [cutF_iff, h1]
  constructor
  ·rintro ⟨⟨h2, h3⟩, h4⟩
   refine ⟨h2, fun w hw => ?_⟩
   rcases List.mem_cons.1 hw with rfl | hw
   ·exact h3
   ·exact h4 w hw
  ·rintro ⟨h2, h3⟩
   exact ⟨⟨h2, h3 z (by simp)⟩, fun w hw => h3 w (by simp [hw])⟩
theorem rows_iff {s : Sand} (h : SandR s) (x : Int) (p : Pt) (y : Int) : inSp (rowsX s x p) y ↔ inSp s.moves.y y ∧ liesR s ⟨x, y⟩ p = true := by
 have h3 := h.len.1
 unfold rowsX
 rw [rows_foldl, liesR_iff]
 refine and_congr_right fun _ => ?_
 constructor
 ·intro h i hi
  exact h _ ((mem_sides (by omega) _).2 ⟨i, hi, rfl⟩)
 ·intro h z hz
  obtain ⟨k, hk, rfl⟩ := (mem_sides (by omega) z).1 hz
  exact h k hk
theorem mem_upX : ∀ (k : Nat) (v y : Int), y ∈ upX k v ↔ v ≤ y ∧ y < v + k
 | 0, v, y => by simp [upX]
 | k + 1, v, y => by
  rw [upX, List.mem_cons, mem_upX k]; omega
theorem mem_spanL (b : Span) (y : Int) : y ∈ spanL b ↔ b.lo ≤ y ∧ y ≤ b.hi := by
 unfold spanL
 rw [mem_upX]; omega
theorem mem_movesL (b : Box) (m : Pt) : m ∈ movesL b ↔ (b.x.lo ≤ m.x ∧ m.x ≤ b.x.hi) ∧ (b.y.lo ≤ m.y ∧ m.y ≤ b.y.hi) := by
 unfold movesL
 rw [List.mem_flatMap]
 constructor
 ·rintro ⟨x, hx, h⟩
  obtain ⟨y, hy, rfl⟩ := List.mem_map.1 h
  exact ⟨(mem_spanL _ _).1 hx, (mem_spanL _ _).1 hy⟩
 ·rintro ⟨hx, hy⟩
  exact ⟨m.x, (mem_spanL _ _).2 hx, List.mem_map.2 ⟨m.y, (mem_spanL _ _).2 hy, rfl⟩⟩
def sureS (s : Sand) (p : Pt) : Bool := (movesL s.moves).all fun m => liesR s m p
def someS (s : Sand) (p : Pt) : Bool := (movesL s.moves).any fun m => liesR s m p
theorem any_eq {s : Sand} (h : SandR s) (p : Pt) : anyRow s p = someS s p := by
 have hx := h.x
 rw [Bool.eq_iff_iff]
 unfold anyRow someS xsX
 rw [List.any_eq_true, List.any_eq_true]
 constructor
 ·rintro ⟨x, hx, h1⟩
  have h1 := of_decide_eq_true h1
  rw [mem_upX] at hx
  obtain ⟨hy, hl⟩ := (rows_iff h x p (rowsX s x p).lo).1 ⟨Int.le_refl _, h1⟩
  exact ⟨⟨x, (rowsX s x p).lo⟩, (mem_movesL _ _).2 ⟨by simp only; omega, hy⟩, hl⟩
 ·rintro ⟨m, hm, hl⟩
  obtain ⟨h1, h2⟩ := (mem_movesL _ _).1 hm
  refine ⟨m.x, (mem_upX _ _ _).2 (by omega), decide_eq_true ?_⟩
  have := (rows_iff h m.x p m.y).2 ⟨h2, hl⟩
  unfold inSp at this
  omega
theorem all_eq {s : Sand} (h : SandR s) (p : Pt) : allRow s p = sureS s p := by
 have hx := h.x
 have hy := h.y
 rw [Bool.eq_iff_iff]
 unfold allRow sureS xsX
 rw [List.all_eq_true, List.all_eq_true]
 constructor
 ·rintro h1 m hm
  obtain ⟨h2, h3⟩ := (mem_movesL _ _).1 hm
  have h4 := of_decide_eq_true (h1 m.x ((mem_upX _ _ _).2 (by omega)))
  exact ((rows_iff h m.x p m.y).1 (by rw [h4]; exact h3)).2
 ·rintro h1 x hx
  rw [mem_upX] at hx
  have h2 : ∀ y, inSp s.moves.y y → inSp (rowsX s x p) y := fun y hy => (rows_iff h x p y).2 ⟨hy, h1 _ ((mem_movesL _ _).2 ⟨by simp only; omega, hy⟩)⟩
  have h3 : ∀ y, inSp (rowsX s x p) y → inSp s.moves.y y := fun y hy => ((rows_iff h x p y).1 hy).1
  have a1 := h2 s.moves.y.lo ⟨Int.le_refl _, by omega⟩
  have a2 := h2 s.moves.y.hi ⟨by omega, Int.le_refl _⟩
  unfold inSp at a1 a2 h3
  have a3 := h3 (rowsX s x p).lo ⟨Int.le_refl _, by omega⟩
  have a4 := h3 (rowsX s x p).hi ⟨by omega, Int.le_refl _⟩
  have e1 : (rowsX s x p).lo = s.moves.y.lo := by omega
  have e2 : (rowsX s x p).hi = s.moves.y.hi := by omega
  refine decide_eq_true ?_
  generalize rowsX s x p = R at *
  cases R; cases hs : s.moves.y
  rw [hs] at e1 e2
  simp only at e1 e2
  rw [e1, e2]
end Go.PX
namespace Go.PX
open Go.Proofs
def firstL (p : Pt) (r : Int) : Int → List Sand → Option (Int × Pt)
 | _, [] => none
 | i, s :: l => match (movesL s.moves).find? fun m => insR s m p r with
  | some m => some (i, m)
  | none => firstL p r (i + 1) l
def firstR (c : Cht) (p : Pt) (r : Int) : Option (Int × Pt) := firstL p r 0 c.sands
theorem inCol_find (s : Sand) (p : Pt) (r x : Int) : ∀ l : List Int, inCol s p r x l = (l.map fun y => (⟨x, y⟩ : Pt)).find? fun m => nearX s (p.sub m) r
 | [] => rfl
 | y :: l => by
  rw [inCol, List.map_cons, List.find?_cons, inCol_find s p r x l]
  cases nearX s (p.sub ⟨x, y⟩) r <;> rfl
theorem inCols_find (s : Sand) (p : Pt) (r : Int) : ∀ l : List Int, inCols s p r l = (l.flatMap fun x => (ysX s).map fun y => (⟨x, y⟩ : Pt)).find? fun m => nearX s (p.sub m) r
 | [] => rfl
 | x :: l => by
  rw [inCols, List.flatMap_cons, List.find?_append, ← inCol_find, inCols_find s p r l]
  cases inCol s p r x (ysX s) <;> rfl
theorem cols_moves (s : Sand) (p : Pt) (r : Int) : inCols s p r (xsX s) = (movesL s.moves).find? fun m => nearX s (p.sub m) r := inCols_find s p r (xsX s)
theorem find_congr {α : Type} {f g : α → Bool} : ∀ {l : List α}, (∀ x ∈ l, f x = g x) → l.find? f = l.find? g
 | [], _ => rfl
 | x :: l, h => by
  rw [List.find?_cons, List.find?_cons, h x (by simp), find_congr fun y hy => h y (by simp [hy])]
theorem insL_first {p : Pt} {r : Int} (hr : 0 < r) : ∀ (l : List Sand) (i : Int), (∀ s ∈ l, SandR s) → insL p r i l = firstL p r i l
 | [], _, _ => rfl
 | s :: l, i, h => by
  rw [insL, firstL, cols_moves, find_congr (fun m _ => near_ins (h s (by simp)) m p hr), insL_first hr l (i + 1) fun t ht => h t (by simp [ht])]
  cases (movesL s.moves).find? (fun m => insR s m p r) <;> rfl
theorem first_0 {p : Pt} : ∀ (l : List Sand) (i : Int), (∀ s ∈ l, SandR s) → firstL p 0 i l = none
 | [], _, _ => rfl
 | s :: l, i, h => by
  rw [firstL]
  have : (movesL s.moves).find? (fun m => insR s m p 0) = none := by
   rw [List.find?_eq_none]
   intro m _
   rw [ins_0 (h s (by simp))]; simp
  rw [this]
  exact first_0 l (i + 1) fun t ht => h t (by simp [ht])
theorem ins_first {c : Cht} (hR : ChtR c) (p : Pt) {r : Int} (hr : 0 ≤ r) : insX c p r = firstR c p r := by
 unfold insX firstR
 split
 ·rename_i h; subst h; rw [first_0 _ _ hR.sand]
 ·exact insL_first (by omega) _ _ hR.sand
theorem firstL_none {p : Pt} {r : Int} : ∀ {l : List Sand} {i : Int}, firstL p r i l = none ↔ ∀ s ∈ l, ∀ m ∈ movesL s.moves, insR s m p r = false
 | [], _ => by simp [firstL]
 | s :: l, i => by
  rw [firstL]
  cases h : (movesL s.moves).find? fun m => insR s m p r with
  | some m =>
   refine ⟨fun h => by simp at h, fun h2 => ?_⟩
   have h3 := h2 s (by simp) m (List.mem_of_find?_eq_some h)
   have h4 : insR s m p r = true := by simpa using List.find?_some h
   rw [h3] at h4; cases h4
  | none =>
   simp only
   rw [firstL_none]
   rw [List.find?_eq_none] at h
   constructor
   ·intro h2 t ht m hm
    rcases List.mem_cons.1 ht with rfl | ht
    ·simpa using h m hm
    ·exact h2 t ht m hm
   ·intro h2 t ht
    exact h2 t (by simp [ht])
theorem first_mono {c : Cht} (hR : ChtR c) {p : Pt} {r r' : Int} (h0 : 0 ≤ r) (hr : r ≤ r') (h : firstR c p r' = none) : firstR c p r = none := by
 unfold firstR at h ⊢
 rw [firstL_none] at h ⊢
 intro s hs m hm
 have h1 := h s hs m hm
 rw [Bool.eq_false_iff] at h1 ⊢
 exact fun h2 => h1 (ins_mono (hR.sand s hs) h0 hr h2)
structure GoodRad (c : Cht) (p : Pt) (a : Int) : Prop where
 lo : 0 ≤ a
 hi : a ≤ 5000
 clear : firstR c p a = none
 most : a < 5000 → firstR c p (a + 1) ≠ none
theorem radL_good {c : Cht} (hR : ChtR c) (p : Pt) : ∀ (n : Nat) (a b : Int), 0 ≤ a → a < b → b ≤ 5001 → b - a ≤ n → firstR c p a = none → (b ≤ 5000 → firstR c p b ≠ none) → GoodRad c p (radL c p n a b)
 | 0, a, b, _, h2, _, h4, _, _ => by omega
 | n + 1, a, b, h1, h2, h3, h4, h5, h6 => by
  rw [radL]
  by_cases h : b - a > 1
  ·rw [if_pos h, ins_first hR p (show 0 ≤ (a + b) / 2 by omega)]
   cases hx : firstR c p ((a + b) / 2) with
   | none =>
    exact radL_good hR p n _ _ (by omega) (by omega) h3 (by omega) hx h6
   | some x =>
    exact radL_good hR p n _ _ h1 (by omega) (by omega) (by omega) h5 (fun _ => by rw [hx]; simp)
  ·rw [if_neg h]
   have : b = a + 1 := by omega
   subst this
   exact ⟨h1, by omega, h5, fun h7 => h6 (by omega)⟩
theorem first_zero {c : Cht} (hR : ChtR c) (p : Pt) : firstR c p 0 = none := first_0 _ _ hR.sand
theorem rad_good {c : Cht} {p : Pt} (h : openX c p = 0) : GoodRad c p (radV c p) := by
 have hR := (openX_ok h).1
 unfold radV
 rw [if_pos h]
 exact radL_good hR p 5001 0 5001 (by omega) (by omega) (by omega) (by omega) (first_zero hR p) (fun h => by omega)
end Go.PX
namespace Go.PX
open Go.Proofs
end Go.PX
namespace Go.PX
open Go.Proofs
def sureR (p : Pt) : Int → List Sand → List Int
 | _, [] => []
 | i, s :: r => if sureS s p then i :: sureR p (i + 1) r else sureR p (i + 1) r
def someR (p : Pt) : Int → List Sand → List Int
 | _, [] => []
 | i, s :: r => if someS s p then i :: someR p (i + 1) r else someR p (i + 1) r
def onRA (c : Cht) (p : Pt) : List Int := if openX c p = 0 then sureR p 0 c.sands else []
def onRB (c : Cht) (p : Pt) : List Int := if openX c p = 0 then someR p 0 c.sands else []
theorem sure_eq (p : Pt) : ∀ (l : List Sand) (i : Int), (∀ s ∈ l, SandR s) → sureF p i l = sureR p i l
 | [], _, _ => rfl
 | s :: l, i, h => by rw [sureF, sureR, all_eq (h s (by simp)), sure_eq p l _ fun t ht => h t (by simp [ht])]
theorem some_eq (p : Pt) : ∀ (l : List Sand) (i : Int), (∀ s ∈ l, SandR s) → someF p i l = someR p i l
 | [], _, _ => rfl
 | s :: l, i, h => by rw [someF, someR, any_eq (h s (by simp)), some_eq p l _ fun t ht => h t (by simp [ht])]
theorem onA_eq (c : Cht) (p : Pt) : onA c p = onRA c p := by
 unfold onA onRA
 split
 ·rename_i h; exact sure_eq _ _ _ (openX_ok h).1.sand
 ·rfl
theorem onB_eq (c : Cht) (p : Pt) : onB c p = onRB c p := by
 unfold onB onRB
 split
 ·rename_i h; exact some_eq _ _ _ (openX_ok h).1.sand
 ·rfl
theorem mem_sureR (p : Pt) : ∀ (l : List Sand) (i n : Int), n ∈ sureR p i l ↔ ∃ k : Nat, n = i + k ∧ ∃ s, l[k]? = some s ∧ sureS s p = true
 | [], i, n => by simp [sureR]
 | s :: l, i, n => by
  have ih := mem_sureR p l (i + 1) n
  have hstep : (∃ k : Nat, n = i + k ∧ ∃ t, (s :: l)[k]? = some t ∧ sureS t p = true) ↔ (n = i ∧ sureS s p = true) ∨ ∃ k : Nat, n = i + 1 + k ∧ ∃ t, l[k]? = some t ∧ sureS t p = true := by
   constructor
   ·rintro ⟨k, hk, t, ht, h⟩
    cases k with
    | zero => simp at ht; subst ht; exact .inl ⟨by omega, h⟩
    | succ k => exact .inr ⟨k, by omega, t, by simpa using ht, h⟩
   ·rintro (⟨h1, h2⟩ | ⟨k, hk, t, ht, h⟩)
    ·exact ⟨0, by omega, s, by simp, h2⟩
    ·exact ⟨k + 1, by omega, t, by simpa using ht, h⟩
  rw [hstep, ← ih, sureR]
  split
  ·rename_i h; simp [h]
  ·rename_i h; simp [h]
theorem mem_someR (p : Pt) : ∀ (l : List Sand) (i n : Int), n ∈ someR p i l ↔ ∃ k : Nat, n = i + k ∧ ∃ s, l[k]? = some s ∧ someS s p = true
 | [], i, n => by simp [someR]
 | s :: l, i, n => by
  have ih := mem_someR p l (i + 1) n
  have hstep : (∃ k : Nat, n = i + k ∧ ∃ t, (s :: l)[k]? = some t ∧ someS t p = true) ↔ (n = i ∧ someS s p = true) ∨ ∃ k : Nat, n = i + 1 + k ∧ ∃ t, l[k]? = some t ∧ someS t p = true := by
   constructor
   ·rintro ⟨k, hk, t, ht, h⟩
    cases k with
    | zero => simp at ht; subst ht; exact .inl ⟨by omega, h⟩
    | succ k => exact .inr ⟨k, by omega, t, by simpa using ht, h⟩
   ·rintro (⟨h1, h2⟩ | ⟨k, hk, t, ht, h⟩)
    ·exact ⟨0, by omega, s, by simp, h2⟩
    ·exact ⟨k + 1, by omega, t, by simpa using ht, h⟩
  rw [hstep, ← ih, someR]
  split
  ·rename_i h; simp [h]
  ·rename_i h; simp [h]
def subSp (a b : Span) : Prop := b.lo ≤ a.lo ∧ a.hi ≤ b.hi
theorem moves_sub {a b : Box} (hx : subSp a.x b.x) (hy : subSp a.y b.y) {m : Pt} (h : m ∈ movesL a) : m ∈ movesL b := by
 rw [mem_movesL] at h ⊢
 unfold subSp at hx hy
 omega
end Go.PX
namespace Go.PX
open Go.Proofs
end Go.PX
namespace Go.PX
open Go.Proofs
end Go.PX
namespace Go.PX
open Go.Proofs
end Go.PX
namespace Go.PX
open Go.Proofs
end Go.PX
namespace Go.PX
open Go.Proofs
theorem sureF_len (p : Pt) : ∀ (l : List Sand) (i : Int), (sureF p i l).length ≤ l.length
 | [], _ => Nat.le_refl _
 | s :: l, i => by
  have := sureF_len p l (i + 1)
  rw [sureF]
  split <;> simp <;> omega
theorem someF_len (p : Pt) : ∀ (l : List Sand) (i : Int), (someF p i l).length ≤ l.length
 | [], _ => Nat.le_refl _
 | s :: l, i => by
  have := someF_len p l (i + 1)
  rw [someF]
  split <;> simp <;> omega
theorem onA_len (c : Cht) (p : Pt) : (onA c p).length < 1000000 := by
 unfold onA
 split
 ·rename_i h
  have := sureF_len p c.sands 0
  have := (openX_ok h).1.sands
  omega
 ·simp
theorem onB_len (c : Cht) (p : Pt) : (onB c p).length < 1000000 := by
 unfold onB
 split
 ·rename_i h
  have := someF_len p c.sands 0
  have := (openX_ok h).1.sands
  omega
 ·simp
end Go.PX
namespace Go.PX
open Go.Proofs
def valL (c : Cht) : Bool := decide ((checkX c).2.2 = 0)
theorem ch43 (c : Cht) : FnV Tryz.prog 43 [c.d] (.bool (valL c)) := by
 refine fnV_of mixed tysOk Tryz.func43 rfl (ft := ft43) 1 (by decide +kernel) (by rfl) fun {σ} Y st => ?_
 conv=>whnf
 refine CallA_v (ch21x c) rfl rfl ?_
 conv=>whnf
 exact RetA_view 1 rfl ⟨⟨rfl, rfl⟩, rfl⟩
def wordsU (l : List Int) : D := .vs (l.map fun b => [.int .u16 b])
def turnF (x : List Int) (n : Nat) : Int := if x = [] then 0 else x.getD (n % x.length) 0
def U16 (x : List Int) : Prop := ∀ b ∈ x, 0 ≤ b ∧ b ≤ 65535
theorem ch49 (x : List Int) (hx : U16 x) (n : Nat) : FnV Tryz.prog 49 [wordsU x, i64 n] (i64 (turnF x n)) := by
 refine fnV_of mixed tysOk Tryz.func49 rfl (ft := ft49) 2 (by decide +kernel) (by rfl) fun {σ} Y st => ?_
 conv=>whnf
 by_cases h : x = []
 ·subst h
  conv=>whnf
  exact RetA_view 0 rfl ⟨⟨rfl, rfl⟩, rfl⟩
 ·have hl : 0 < x.length := List.length_pos_iff.2 h
  refine brk_i (fun h1 => absurd h1 (by simp [h])) (fun _ => ?_)
  conv=>whnf
  refine chk_i (decide_eq_true (by rw [List.length_map]; omega)) ?_
  conv=>whnf
  rw [List.length_map]
  have hm := Nat.mod_lt n hl
  have he : ((n : Int).tmod (x.length : Int)) = ((n % x.length : Nat) : Int) := by
   rw [Int.tmod_eq_emod_of_nonneg (by omega)]; omega
  rw [he]
  have hg : x[n % x.length]? = some (x[n % x.length]) := List.getElem?_eq_getElem hm
  refine elemK_nat hg ?_
  conv=>whnf
  have hb := hx _ (List.mem_of_getElem? hg)
  have ht : turnF x n = x[n % x.length] := by
   unfold turnF
   rw [if_neg h, List.getD_eq_getElem?_getD, hg]; rfl
  rw [← ht] at hb ⊢
  refine arith_in (wrap_i64 (by (try dsimp only); omega)) ?_
  conv=>whnf
  exact RetA_view 0 rfl ⟨⟨rfl, rfl⟩, rfl⟩
theorem turn_bd {x : List Int} (hx : U16 x) (n : Nat) : 0 ≤ turnF x n ∧ turnF x n ≤ 65535 := by
 unfold turnF
 split
 ·omega
 ·rename_i h
  have hm := Nat.mod_lt n (List.length_pos_iff.2 h)
  rw [List.getD_eq_getElem?_getD, List.getElem?_eq_getElem hm]
  exact hx _ (List.getElem_mem _)
theorem ch48 (l : List Int) (hl : l.length < 1000000) (n : Int) : FnV Tryz.prog 48 [intsD l, i64 n] (.bool (decide (n ∈ l))) := by
 refine fnV_of mixed tysOk Tryz.func48 rfl (ft := ft48) 2 (by decide +kernel) (by rfl) fun {σ} Y st => ?_
 conv=>whnf
 refine LoopA_i (T := tys) tysOk (by exact drawsB_spec mixed tysOk (by decide +kernel)) l (fun i (_ : Unit) => ⟨[(0, .d (intsD l)), (1, .d (i64 n)), (5, .d (i64 i))], [], st⟩) (fun i r _ => decide (n ∈ l) = decide (n ∈ r)) () (Wk.sub ⟨(by first | rfl | (simp only [List.length_map]; rfl) | simp [PX.get]), (by first | rfl | (simp only [List.length_map]; rfl) | simp [PX.get]), (by first | rfl | (simp only [List.length_map]; rfl) | simp [PX.get]), trivial⟩ trivial) rfl ?_ ?_
 ·rintro i x r _ hxi hi hir hk
  conv=>whnf
  refine brk_i (fun _ => ?_) (fun h => absurd hi (by simpa using h))
  conv=>whnf
  refine elemK_nat hxi ?_
  conv=>whnf
  refine brk_i (fun h1 => ?_) (fun h1 => ?_)
  ·have h1 : x = n := of_decide_eq_true h1
   have hk : decide (n ∈ l) = true := by rw [hk]; simp [h1]
   rw [hk]
   conv=>whnf
   exact RetA_view 0 rfl ⟨⟨rfl, rfl⟩, rfl⟩
  ·have h1 : x ≠ n := of_decide_eq_false h1
   have hk : decide (n ∈ l) = decide (n ∈ r) := by rw [hk]; simp [Ne.symm h1]
   conv=>whnf
   refine arith_in (wrap_i64 (by (try dsimp only); omega)) ?_
   conv=>whnf
   exact ⟨(), hk, (Wk.sub ⟨(by first | rfl | (simp only [List.length_map]; rfl) | simp [PX.get]), (by first | rfl | (simp only [List.length_map]; rfl) | simp [PX.get]), (by first | rfl | (simp only [List.length_map]; rfl) | simp [PX.get]), trivial⟩ trivial)⟩
 ·rintro _ hk
  have hk : decide (n ∈ l) = false := by rw [hk]; simp
  conv=>whnf
  refine brk_i (fun h => absurd h (by simp)) (fun _ => ?_)
  conv=>whnf
  rw [hk]
  exact RetA_view 0 rfl ⟨⟨rfl, rfl⟩, rfl⟩
theorem ch45 (a b : List Int) (ha : a.length < 1000000) (hb : b.length < 1000000) : FnV Tryz.prog 45 [intsD a, intsD b] (.bool (a.all fun x => decide (x ∈ b))) := by
 refine fnV_of mixed tysOk Tryz.func45 rfl (ft := ft45) 2 (by decide +kernel) (by rfl) fun {σ} Y st => ?_
 conv=>whnf
 refine LoopA_i (T := tys) tysOk (by exact drawsB_spec mixed tysOk (by decide +kernel)) a (fun i (_ : Unit) => ⟨[(0, .d (intsD a)), (1, .d (intsD b)), (5, .d (i64 i))], [], st⟩) (fun i r _ => (a.all fun x => decide (x ∈ b)) = r.all fun x => decide (x ∈ b)) () (Wk.sub ⟨(by first | rfl | (simp only [List.length_map]; rfl) | simp [PX.get]), (by first | rfl | (simp only [List.length_map]; rfl) | simp [PX.get]), (by first | rfl | (simp only [List.length_map]; rfl) | simp [PX.get]), trivial⟩ trivial) rfl ?_ ?_
 ·rintro i x r _ hxi hi hir hk
  rw [List.all_cons] at hk
  conv=>whnf
  refine brk_i (fun _ => ?_) (fun h => absurd hi (by simpa using h))
  conv=>whnf
  refine elemK_nat hxi ?_
  conv=>whnf
  refine CallA_v (ch48 b hb x) rfl rfl ?_
  conv=>whnf
  cases hm : decide (x ∈ b) with
  | false =>
   rw [hm, Bool.false_and] at hk
   rw [hk]
   conv=>whnf
   exact RetA_view 0 rfl ⟨⟨rfl, rfl⟩, rfl⟩
  | true =>
   rw [hm, Bool.true_and] at hk
   conv=>whnf
   refine arith_in (wrap_i64 (by (try dsimp only); omega)) ?_
   conv=>whnf
   exact ⟨(), hk, (Wk.sub ⟨(by first | rfl | (simp only [List.length_map]; rfl) | simp [PX.get]), (by first | rfl | (simp only [List.length_map]; rfl) | simp [PX.get]), (by first | rfl | (simp only [List.length_map]; rfl) | simp [PX.get]), trivial⟩ trivial)⟩
 ·rintro _ hk
  rw [List.all_nil] at hk
  conv=>whnf
  refine brk_i (fun h => absurd h (by simp)) (fun _ => ?_)
  conv=>whnf
  rw [hk]
  exact RetA_view 0 rfl ⟨⟨rfl, rfl⟩, rfl⟩
theorem within_true {a b : List Int} (ha : a.length < 1000000) (hb : b.length < 1000000) (h : ∀ x ∈ a, x ∈ b) : FnV Tryz.prog 45 [intsD a, intsD b] (.bool true) :=
 FnV.cast (ch45 a b ha hb) (by rw [show (a.all fun x => decide (x ∈ b)) = true from List.all_eq_true.2 fun x hx => decide_eq_true (h x hx)])
def clampF (n : Int) : Int := max (-10000) (min 10000 n)
def clampP (p : Pt) : Pt := ⟨clampF p.x, clampF p.y⟩
def awayP (l : List Int) : Pt := ⟨(turnF l 1).tmod 400 - 200, (turnF l 2).tmod 400 - 200⟩
def atS (l : List Sand) (i : Nat) : Sand := (l[i]?).getD ⟨.empty, [], ⟨⟨0, 0⟩, ⟨0, 0⟩⟩⟩
def sandI (c : Cht) (l : List Int) : Sand := atS c.sands ((turnF l 0).toNat % c.sands.length)
def nearP (c : Cht) (l : List Int) : Pt := if c.sands = [] then clampP (awayP l) else clampP ((awayP l).add (atP (sandI c l).corners ((turnF l 3).toNat % (sandI c l).corners.length)))
theorem clamp_pin (p : Pt) : Pin 10000 (clampP p) := by
 have h : ∀ n, -10000 ≤ clampF n ∧ clampF n ≤ 10000 := fun n => by unfold clampF; omega
 exact ⟨h _, h _⟩
theorem near_pin (c : Cht) (l : List Int) : Pin 10000 (nearP c l) := by
 unfold nearP
 split <;> exact clamp_pin _
theorem tmod_nat {a : Int} {n : Nat} (ha : 0 ≤ a) : a.tmod (n : Int) = ((a.toNat % n : Nat) : Int) := by
 rw [Int.tmod_eq_emod_of_nonneg ha]
 obtain ⟨k, rfl⟩ := Int.eq_ofNat_of_zero_le ha
 simp
set_option maxHeartbeats 1000000 in
theorem ch44 (c : Cht) (hR : ChtR c) (l : List Int) (hl : U16 l) : FnV Tryz.prog 44 [c.d, wordsU l] (nearP c l).d := by
 refine fnV_of mixed tysOk Tryz.func44 rfl (ft := ft44) 2 (by decide +kernel) (by rfl) fun {σ} Y st => ?_
 conv=>whnf
 have h0 := turn_bd hl 0
 have h1 := turn_bd hl 1
 have h2 := turn_bd hl 2
 have h3 := turn_bd hl 3
 have t1 := Int.tmod_nonneg 400 h1.1
 have t2 := Int.tmod_lt_of_pos (turnF l 1) (b := 400) (by omega)
 have t3 := Int.tmod_nonneg 400 h2.1
 have t4 := Int.tmod_lt_of_pos (turnF l 2) (b := 400) (by omega)
 have hsl := hR.sands
 refine CallA_v (ds := [wordsU l, i64 1]) (ch49 l hl 1) rfl rfl ?_
 conv=>whnf
 refine arith_in (wrap_i64 (by (try dsimp only); omega)) ?_
 conv=>whnf
 refine CallA_v (ds := [wordsU l, i64 2]) (ch49 l hl 2) rfl rfl ?_
 conv=>whnf
 refine arith_in (wrap_i64 (by (try dsimp only); omega)) ?_
 conv=>whnf
 refine CallA_v (ch42 _ _) rfl rfl ?_
 conv=>whnf
 refine brk_i (fun h => ?_) (fun h => ?_)
 ·have hn : 0 < c.sands.length := by have := of_decide_eq_true h; simp at this; omega
  have hk := Nat.mod_lt (turnF l 0).toNat hn
  have hne : ¬ c.sands = [] := by rintro h; rw [h] at hn; simp at hn
  have hp : nearP c l = clampP ((awayP l).add (atP (sandI c l).corners ((turnF l 3).toNat % (sandI c l).corners.length))) := by unfold nearP; rw [if_neg hne]
  rw [hp]
  have hg : c.sands[(turnF l 0).toNat % c.sands.length]? = some (sandI c l) := by unfold sandI atS; simp [hk]
  have hS := hR.sand _ (List.mem_of_getElem? hg)
  generalize sandI c l = s at hg hS ⊢
  have hlen := hS.len
  have hj := Nat.mod_lt (turnF l 3).toNat (show 0 < s.corners.length by omega)
  have hq := hS.pin _ (atP_mem hj)
  generalize hjj : (turnF l 3).toNat % s.corners.length = j at hj hq ⊢
  conv=>whnf
  refine DrawCall_v (ds := [wordsU l, i64 0]) (ch49 l hl 0) rfl rfl ?_
  conv=>whnf
  refine chk_i (decide_eq_true (by simp only [List.length_map]; omega)) ?_
  conv=>whnf
  rw [List.length_map, tmod_nat h0.1]
  refine elemK_nat hg ?_
  conv=>whnf
  refine DrawCall_v (ds := [wordsU l, i64 3]) (ch49 l hl 3) rfl rfl ?_
  conv=>whnf
  refine chk_i (decide_eq_true (by simp only [List.length_map]; omega)) ?_
  conv=>whnf
  rw [List.length_map, tmod_nat h3.1, hjj]
  refine elemK_nat (atP_get hj) ?_
  conv=>whnf
  have haw : Pin 1000 (awayP l) := ⟨by show -1000 ≤ (turnF l 1).tmod 400 - 200 ∧ (turnF l 1).tmod 400 - 200 ≤ 1000; omega, by show -1000 ≤ (turnF l 2).tmod 400 - 200 ∧ (turnF l 2).tmod 400 - 200 ≤ 1000; omega⟩
  refine DrawCall_v (ds := [(awayP l).d, (atP s.corners j).d]) (ch54 _ _ (haw.mono (by omega)) (hq.mono (by omega))) rfl rfl ?_
  conv=>whnf
  refine CallA_v (ch42 _ _) rfl rfl ?_
  conv=>whnf
  exact RetA_view 0 rfl ⟨⟨rfl, rfl⟩, rfl⟩
 ·have hne : c.sands = [] := by
   have := of_decide_eq_false h
   simp at this
   exact this
  have hp : nearP c l = clampP (awayP l) := by unfold nearP; rw [if_pos hne]
  rw [hp]
  conv=>whnf
  refine CallA_v (ch42 _ _) rfl rfl ?_
  conv=>whnf
  exact RetA_view 0 rfl ⟨⟨rfl, rfl⟩, rfl⟩
end Go.PX
namespace Go.PX
open Go.Proofs Go.RowKit Go.ChangeShapes
theorem c82 : Tryz.prog.cellsOf 82 = 1 := by kernel_rfl
theorem u16In {n : Int} (h : (Lit.int .u16 n).wf = true) : 0 ≤ n ∧ n ≤ 65535 := by
 simp only [Lit.wf, Bool.and_eq_true, decide_eq_true_eq] at h
 exact h
theorem Rd.intw {P : Program} {W : World} {t : TypeId} {k : IntKind} (ht : P.underlying t = some (.int k)) : Rd P W t fun ds => ∃ n, ds = [.int k n] ∧ (Lit.int k n).wf = true := by
 refine ⟨?_⟩
 intro H enc sp held fuel cs x h
 obtain ⟨n, rfl, _, hw⟩ := DataW.trod_int ht h
 exact ⟨[.int k n], ⟨n, rfl, hw⟩, _, [], rfl, rfl, rfl⟩
section
variable (W : World)
theorem rdU16 : Rd Tryz.prog W 82 fun ds => ∃ n, ds = [.int .u16 n] ∧ 0 ≤ n ∧ n ≤ 65535 := (Rd.intw Tryz.underlying82).mono fun ds ⟨n, h, w⟩ => ⟨n, h, u16In w⟩
theorem rdU16s : Rd Tryz.prog W 64 fun ds => ∃ l : List Int, ds = [wordsU l] ∧ U16 l :=
 (Rd.slice Tryz.underlying64 c82 (by omega) (rdU16 W)).mono fun ds h => by
  obtain ⟨es, rfl, he⟩ := h
  have : ∃ l : List Int, es = l.map (fun b => [D.int .u16 b]) ∧ U16 l := by
   induction es with
   | nil => exact ⟨[], rfl, fun b h => by cases h⟩
   | cons e r ih =>
    obtain ⟨l, h1, h2⟩ := ih fun x hx => he x (by simp [hx])
    obtain ⟨n, h3, h4⟩ := he e (by simp)
    refine ⟨n :: l, by rw [h3, h1]; rfl, fun b hb => ?_⟩
    rcases List.mem_cons.1 hb with rfl | hb
    ·exact h4
    ·exact h2 b hb
  obtain ⟨l, rfl, h2⟩ := this
  exact ⟨l, rfl, h2⟩
end
end Go.PX
namespace Go.PX
open Go.Proofs Go.RowKit Go.ChangeShapes
end Go.PX
namespace Go.PX
open Go.Proofs
theorem valid_open {c : Cht} (h : (checkX c).2.2 = 0) {p : Pt} (hp : Pin 10000 p) : openX c p = 0 := by
 unfold openX
 rw [if_pos h, if_pos (within_iff.2 hp)]
theorem lies_some {s : Sand} {m p : Pt} (hm : m ∈ movesL s.moves) (h : liesR s m p = true) : someS s p = true := List.any_eq_true.2 ⟨m, hm, h⟩
theorem sure_lies {s : Sand} {m p : Pt} (hm : m ∈ movesL s.moves) (h : sureS s p = true) : liesR s m p = true := List.all_eq_true.1 h m hm
theorem mem_onB {c : Cht} {p : Pt} (h : openX c p = 0) {i : Nat} {s : Sand} (hs : c.sands[i]? = some s) : (i : Int) ∈ onB c p ↔ someS s p = true := by
 rw [onB_eq]
 unfold onRB
 rw [if_pos h, mem_someR]
 constructor
 ·rintro ⟨k, hk, t, ht, h1⟩
  have : k = i := by omega
  subst this
  rw [hs] at ht; cases ht; exact h1
 ·exact fun h1 => ⟨i, by omega, s, hs, h1⟩
theorem mem_onA {c : Cht} {p : Pt} (h : openX c p = 0) {i : Nat} {s : Sand} (hs : c.sands[i]? = some s) : (i : Int) ∈ onA c p ↔ sureS s p = true := by
 rw [onA_eq]
 unfold onRA
 rw [if_pos h, mem_sureR]
 constructor
 ·rintro ⟨k, hk, t, ht, h1⟩
  have : k = i := by omega
  subst this
  rw [hs] at ht; cases ht; exact h1
 ·exact fun h1 => ⟨i, by omega, s, hs, h1⟩
end Go.PX
namespace Go.PX
open Go.Proofs
structure By where
 a : Int
 b : Int
 c : Int
 d : Int
def By.ok (x : By) : Prop := (0 ≤ x.a ∧ x.a ≤ 255) ∧ (0 ≤ x.b ∧ x.b ≤ 255) ∧ (0 ≤ x.c ∧ x.c ≤ 255) ∧ (0 ≤ x.d ∧ x.d ≤ 255)
def By.cells (x : By) : List D := [.int .u8 x.a, .int .u8 x.b, .int .u8 x.c, .int .u8 x.d]
def wideB (x : By) (b : Box) : Box := ⟨⟨b.x.lo - x.a.tmod 8, b.x.hi + x.b.tmod 8⟩, ⟨b.y.lo - x.c.tmod 8, b.y.hi + x.d.tmod 8⟩⟩
def wideS (x : By) (s : Sand) : Sand := { s with moves := wideB x s.moves }
def wideC (x : By) (c : Cht) : Cht := ⟨c.marks, c.sands.map (wideS x)⟩
theorem tm8 {n : Int} (h : 0 ≤ n) : 0 ≤ n.tmod 8 ∧ n.tmod 8 < 8 := ⟨Int.tmod_nonneg 8 h, Int.tmod_lt_of_pos n (by omega)⟩
theorem wide_moves {x : By} (hx : x.ok) {b : Box} {m : Pt} (h : m ∈ movesL b) : m ∈ movesL (wideB x b) := by
 have h1 := tm8 hx.1.1
 have h2 := tm8 hx.2.1.1
 have h3 := tm8 hx.2.2.1.1
 have h4 := tm8 hx.2.2.2.1
 refine moves_sub (a := b) ⟨?_, ?_⟩ ⟨?_, ?_⟩ h
 ·show b.x.lo - x.a.tmod 8 ≤ b.x.lo; omega
 ·show b.x.hi ≤ b.x.hi + x.b.tmod 8; omega
 ·show b.y.lo - x.c.tmod 8 ≤ b.y.lo; omega
 ·show b.y.hi ≤ b.y.hi + x.d.tmod 8; omega
theorem first_wide {x : By} (hx : x.ok) {c : Cht} {p : Pt} {r : Int} (h : firstR (wideC x c) p r = none) : firstR c p r = none := by
 unfold firstR at h ⊢
 rw [firstL_none] at h ⊢
 intro s hs m hm
 exact h (wideS x s) (List.mem_map.2 ⟨s, hs, rfl⟩) m (wide_moves hx hm)
theorem rad_wide {x : By} (hx : x.ok) {c : Cht} {p : Pt} (h : openX c p = 0) (h' : openX (wideC x c) p = 0) : radV (wideC x c) p ≤ radV c p := by
 have g := rad_good h
 have g' := rad_good h'
 have hR' := (openX_ok h').1
 rcases Int.lt_or_le (radV c p) (radV (wideC x c) p) with h1 | h1
 ·have := g'.hi
  have := g.lo
  exact absurd (first_wide hx (first_mono hR' (by omega) (show radV c p + 1 ≤ _ by omega) g'.clear)) (g.most (by omega))
 ·exact h1
theorem onB_wide {x : By} (hx : x.ok) {c : Cht} {p : Pt} (h : openX c p = 0) (h' : openX (wideC x c) p = 0) : ∀ n ∈ onB c p, n ∈ onB (wideC x c) p := by
 intro n hn
 have hn' := hn
 rw [onB_eq] at hn
 unfold onRB at hn
 rw [if_pos h, mem_someR] at hn
 obtain ⟨k, hk, s, hs, h1⟩ := hn
 have hk : n = (k : Int) := by omega
 subst hk
 have hs' : (wideC x c).sands[k]? = some (wideS x s) := by show (c.sands.map (wideS x))[k]? = _; rw [List.getElem?_map, hs]; rfl
 rw [mem_onB h' hs']
 obtain ⟨m, hm, hl⟩ := List.any_eq_true.1 h1
 exact lies_some (s := wideS x s) (wide_moves hx hm) hl
theorem onA_wide {x : By} (hx : x.ok) {c : Cht} {p : Pt} (h : openX c p = 0) (h' : openX (wideC x c) p = 0) : ∀ n ∈ onA (wideC x c) p, n ∈ onA c p := by
 intro n hn
 rw [onA_eq] at hn
 unfold onRA at hn
 rw [if_pos h', mem_sureR] at hn
 obtain ⟨k, hk, t, ht, h1⟩ := hn
 have hk : n = (k : Int) := by omega
 subst hk
 have ht : (c.sands.map (wideS x))[k]? = some t := ht
 rw [List.getElem?_map] at ht
 cases hs : c.sands[k]? with
 | none => rw [hs] at ht; cases ht
 | some s =>
  rw [hs] at ht
  cases ht
  rw [mem_onA h hs]
  exact List.all_eq_true.2 fun m hm => sure_lies (s := wideS x s) (wide_moves hx hm) h1
theorem args_frz {g : Nat → Option DO} {id sz n : Nat} {A B : List D} {d : D} (hv : viewV g (.sl id sz 0 n) = some d) : replL g [.agg (inj A ++ .sl id sz 0 n :: inj B)] = [.d (.agg (A ++ d :: B))] := by
 show [mkAgg (replL g (inj A ++ .sl id sz 0 n :: inj B))] = _
 have : replL g (inj A ++ .sl id sz 0 n :: inj B) = inj (A ++ d :: B) := by
  rw [replL_append, replL_inj, inj_append]
  have : replL g (.sl id sz 0 n :: inj B) = inj (d :: B) := by
   show repl g (.sl id sz 0 n) :: replL g (inj B) = _
   rw [replL_inj]
   simp [repl, hv, inj]
  rw [this]
 rw [this, mkAgg, dsOf_inj]
set_option maxHeartbeats 8000000 in
theorem ch10 (c : Cht) (x : By) (hx : x.ok) (y : List Int) (hy : U16 y) : FnV Tryz.prog 10 [c.d, .agg x.cells, wordsU y] (.bool true) := by
 refine fnV_of mixed tysOk Tryz.func10 rfl (ft := ft10) 3 (by decide +kernel) (by rfl) fun {σ} Y st => ?_
 conv=>whnf
 refine CallA_v (ch43 c) rfl rfl ?_
 conv=>whnf
 by_cases hv : (checkX c).2.2 = 0
 case neg =>
  refine brk_i (fun _ => ?_) (fun h => absurd h (by simp [valL, hv]))
  conv=>whnf
  repeat' (first
   | (refine CallA_v (ch22) rfl rfl ?_; conv=>whnf)
   | (refine CallA_view (ch22) rfl 1 rfl ?_; conv=>whnf)
   | (refine DrawCall_v (ch22) rfl rfl ?_; conv=>whnf)
   | (refine DrawCall_view (ch22) rfl 1 rfl ?_; conv=>whnf)
   | (refine arith_in (wrap_i64 (by (try dsimp only); omega)) ?_; conv=>whnf)
   | (refine elemK_nat (by assumption) ?_; conv=>whnf)
   | (refine ownK_whole (by first | rfl | assumption | (simp [Els.len]; done) | (simp [Els.len]; omega)) ?_; conv=>whnf)
   | (refine chk_i (by first | (exact decide_eq_true (by (try simp only [List.length_map]); omega)) | (simp [Els.len, Els.cons, V.cells, Els.toV, injL]; done) | (simp [Els.len, Els.cons, V.cells, Els.toV, injL]; omega)) ?_; conv=>whnf)
   | fail)
  exact RetA_view 1 rfl ⟨⟨rfl, rfl⟩, rfl⟩
 have hR := checkX_ok hv
 have hsl := hR.sands
 have h1 := tm8 hx.1.1
 have h2 := tm8 hx.2.1.1
 have h3 := tm8 hx.2.2.1.1
 have h4 := tm8 hx.2.2.2.1
 refine brk_i (fun h => absurd h (by simp [valL, hv])) (fun _ => ?_)
 conv=>whnf
 refine LoopA_i (T := tys) tysOk (by exact drawsB_spec mixed tysOk (by decide +kernel)) c.sands (fun i (acc : List Sand) => ⟨[(2, .d (wordsU y)), (3, .ptr 3 0), (4, .ptr 4 0), (7, .ptr 7 0), (8, .d (i64 i))], [(3, .box (.dd c.cells)), (4, .box (.dd x.cells)), (7, .box (.vv [.d (marksD c.marks), .sl 900001 6 0 acc.length])), (900001, .arr 6 (.dd (acc.map Sand.cells)))], st⟩)
  (fun i l acc => acc.length = i ∧ c.sands.map (wideS x) = acc ++ l.map (wideS x)) [] ((Wk.bornAtD 7 900001 6 [marksD c.marks] [] rfl rfl rfl rfl rfl).trans (Wk.sub ⟨(by first | rfl | (simp only [List.length_map]; rfl) | simp [PX.get]), (by first | rfl | (simp only [List.length_map]; rfl) | simp [PX.get]), (by first | rfl | (simp only [List.length_map]; rfl) | simp [PX.get]), (by first | rfl | (simp only [List.length_map]; rfl) | simp [PX.get]), (by first | rfl | (simp only [List.length_map]; rfl) | simp [PX.get]), trivial⟩ ⟨(by first | rfl | (simp only [List.length_map]; rfl) | simp [PX.get]), (by first | rfl | (simp only [List.length_map]; rfl) | simp [PX.get]), (by first | rfl | (simp only [List.length_map]; rfl) | simp [PX.get]), (by first | rfl | (simp only [List.length_map]; rfl) | simp [PX.get]), trivial⟩)) ⟨rfl, by simp⟩ ?_ ?_
 ·rintro i s l acc hsi hi hil ⟨hal, hac⟩
  have hS := hR.sand s (List.mem_of_getElem? hsi)
  have hsx := hS.x
  have hsy := hS.y
  have k1 := hx.1
  have k2 := hx.2.1
  have k3 := hx.2.2.1
  have k4 := hx.2.2.2
  conv=>whnf
  refine brk_i (fun _ => ?_) (fun h => absurd hi (by simpa using h))
  conv=>whnf
  refine elemK_nat hsi ?_
  conv=>whnf
  refine arith_in (wrap_i64 (by (try dsimp only); omega)) ?_
  conv=>whnf
  refine arith_in (wrap_i64 (by (try dsimp only); omega)) ?_
  conv=>whnf
  refine arith_in (wrap_i64 (by (try dsimp only); omega)) ?_
  conv=>whnf
  refine arith_in (wrap_i64 (by (try dsimp only); omega)) ?_
  conv=>whnf
  refine arith_in (wrap_i64 (by (try dsimp only); omega)) ?_
  conv=>whnf
  refine arith_in (wrap_i64 (by (try dsimp only); omega)) ?_
  conv=>whnf
  refine arith_in (wrap_i64 (by (try dsimp only); omega)) ?_
  conv=>whnf
  refine arith_in (wrap_i64 (by (try dsimp only); omega)) ?_
  conv=>whnf
  refine CallA_v (ch52 _ _ _ _) rfl rfl ?_
  conv=>whnf
  refine ownK_whole rfl ?_
  conv=>whnf
  refine ownK_whole (by simp [Els.len]) ?_
  conv=>whnf
  refine chk_i (decide_eq_true (by show ((acc.map Sand.cells).length + 1) * 72 ≤ _; simp only [List.length_map]; omega)) ?_
  conv=>whnf
  refine arith_in (wrap_i64 (by (try dsimp only); omega)) ?_
  conv=>whnf
  exact ⟨acc ++ [wideS x s], ⟨by simp [hal], by rw [hac]; simp⟩, (Wk.move 81 900001 rfl rfl).trans (Wk.sub ⟨rfl, rfl, rfl, rfl, rfl, trivial⟩ ⟨rfl, rfl, congrArg (fun z : Nat => some (Obj.box (.vv [.d (marksD c.marks), .sl 900001 6 0 z]))) (by simp [Els.len]), congrArg (fun z => some (Obj.arr 6 (.dd z))) (by simp [Sand.cells, wideS, wideB]), trivial⟩)⟩
 ·rintro acc ⟨hal, hac⟩
  have hac : acc = c.sands.map (wideS x) := by rw [hac]; simp
  have hwc : (⟨c.marks, acc⟩ : Cht) = wideC x c := by rw [hac]; rfl
  conv=>whnf
  refine brk_i (fun h => absurd h (by simp)) (fun _ => ?_)
  conv=>whnf
  have hvw : ∀ h : Heap, get h 900001 = some (.arr 6 (.dd (acc.map Sand.cells))) → viewV (objD h 1) (.sl 900001 6 0 acc.length) = some (sandsD acc) := fun h hg => viewV_sl hg (by simp)
  have hwd : (wideC x c).cells = [marksD c.marks, sandsD acc] := by rw [← hwc]; rfl
  refine CallA_frz 1 [900001] ?_
  refine CallA_sub (e' := [(2, .d (wordsU y)), (3, .ptr 3 0), (7, .ptr 7 0)]) (h' := [(3, .box (.dd c.cells)), (7, .box (.dd (wideC x c).cells))]) (args' := [.d (wideC x c).d]) ⟨rfl, rfl, rfl, trivial⟩ ⟨rfl, ?_, trivial⟩ ?_ ?_
  ·rw [hwd]
   exact get_frzB (A := [marksD c.marks]) (B := []) rfl (hvw _ rfl)
  ·show _ = [V.d (D.agg (wideC x c).cells)]
   rw [hwd]
   exact args_frz (A := [marksD c.marks]) (B := []) (hvw _ rfl)
  refine CallA_v (ds := [(wideC x c).d]) (ch43 (wideC x c)) rfl rfl ?_
  by_cases hw : (checkX (wideC x c)).2.2 = 0
  case neg =>
   refine brk_i (fun _ => ?_) (fun h => absurd h (by simp [valL, hw]))
   conv=>whnf
   repeat' (first
    | (refine CallA_v (ch22) rfl rfl ?_; conv=>whnf)
    | (refine CallA_view (ch22) rfl 1 rfl ?_; conv=>whnf)
    | (refine DrawCall_v (ch22) rfl rfl ?_; conv=>whnf)
    | (refine DrawCall_view (ch22) rfl 1 rfl ?_; conv=>whnf)
    | (refine arith_in (wrap_i64 (by (try dsimp only); omega)) ?_; conv=>whnf)
    | (refine elemK_nat (by assumption) ?_; conv=>whnf)
    | (refine ownK_whole (by first | rfl | assumption | (simp [Els.len]; done) | (simp [Els.len]; omega)) ?_; conv=>whnf)
    | (refine chk_i (by first | (exact decide_eq_true (by (try simp only [List.length_map]); omega)) | (simp [Els.len, Els.cons, V.cells, Els.toV, injL]; done) | (simp [Els.len, Els.cons, V.cells, Els.toV, injL]; omega)) ?_; conv=>whnf)
    | fail)
   exact RetA_view 1 rfl ⟨⟨rfl, rfl⟩, rfl⟩
  refine brk_i (fun h => absurd h (by simp [valL, hw])) (fun _ => ?_)
  conv=>whnf
  refine CallA_v (ds := [c.d, wordsU y]) (ch44 c hR y hy) rfl rfl ?_
  have hp := near_pin c y
  generalize nearP c y = p at hp ⊢
  have ho := valid_open hv hp
  have ho' := valid_open hw hp
  have hc1 : FnV Tryz.prog 23 [c.d, p.d] (.tup [intsD (onA c p), intsD (onB c p), i64 0]) := FnV.cast (ch23 c p) (by rw [ho])
  have hc2 : FnV Tryz.prog 23 [(wideC x c).d, p.d] (.tup [intsD (onA (wideC x c) p), intsD (onB (wideC x c) p), i64 0]) := FnV.cast (ch23 (wideC x c) p) (by rw [ho'])
  have hc3 : FnV Tryz.prog 28 [c.d, p.d] (.tup [i64 (radV c p), i64 0]) := FnV.cast (ch28 c p) (by rw [ho])
  have hc4 : FnV Tryz.prog 28 [(wideC x c).d, p.d] (.tup [i64 (radV (wideC x c) p), i64 0]) := FnV.cast (ch28 (wideC x c) p) (by rw [ho'])
  have hi1 : FnV Tryz.prog 45 [intsD (onB c p), intsD (onB (wideC x c) p)] (.bool true) := within_true (onB_len _ _) (onB_len _ _) (onB_wide hx ho ho')
  have hi2 : FnV Tryz.prog 45 [intsD (onA (wideC x c) p), intsD (onA c p)] (.bool true) := within_true (onA_len _ _) (onA_len _ _) (onA_wide hx ho ho')
  have hrr := rad_wide hx ho ho'
  generalize radV (wideC x c) p = r2 at hc4 hrr
  generalize radV c p = r1 at hc3 hrr
  generalize onA (wideC x c) p = A2 at hc2 hi2
  generalize onB (wideC x c) p = B2 at hc2 hi1
  generalize onA c p = A1 at hc1 hi2
  generalize onB c p = B1 at hc1 hi1
  clear hwd hwc
  generalize wideC x c = W at *
  conv=>whnf
  refine CallA_v (ds := [c.d, p.d]) (fun {σ} => hc1) rfl rfl ?_
  conv=>whnf
  refine CallA_v (ds := [W.d, p.d]) (fun {σ} => hc2) rfl rfl ?_
  conv=>whnf
  refine CallA_v (ds := [c.d, p.d]) (fun {σ} => hc3) rfl rfl ?_
  conv=>whnf
  refine CallA_v (ds := [W.d, p.d]) (fun {σ} => hc4) rfl rfl ?_
  conv=>whnf
  refine CallA_v (ds := [intsD B1, intsD B2]) (fun {σ} => hi1) rfl rfl ?_
  conv=>whnf
  refine CallA_v (ds := [intsD A2, intsD A1]) (fun {σ} => hi2) rfl rfl ?_
  conv=>whnf
  refine brk_i (fun _ => ?_) (fun h => absurd h (by simp; omega))
  conv=>whnf
  repeat' (first
   | (refine CallA_v (ch22) rfl rfl ?_; conv=>whnf)
   | (refine CallA_view (ch22) rfl 1 rfl ?_; conv=>whnf)
   | (refine DrawCall_v (ch22) rfl rfl ?_; conv=>whnf)
   | (refine DrawCall_view (ch22) rfl 1 rfl ?_; conv=>whnf)
   | (refine arith_in (wrap_i64 (by (try dsimp only); omega)) ?_; conv=>whnf)
   | (refine elemK_nat (by assumption) ?_; conv=>whnf)
   | (refine ownK_whole (by first | rfl | assumption | (simp [Els.len]; done) | (simp [Els.len]; omega)) ?_; conv=>whnf)
   | (refine chk_i (by first | (exact decide_eq_true (by (try simp only [List.length_map]); omega)) | (simp [Els.len, Els.cons, V.cells, Els.toV, injL]; done) | (simp [Els.len, Els.cons, V.cells, Els.toV, injL]; omega)) ?_; conv=>whnf)
   | fail)
  exact RetA_view 1 rfl ⟨⟨rfl, rfl⟩, rfl⟩
end Go.PX
namespace Go.PX
open Go.Proofs Go.RowKit Go.ChangeShapes
theorem c5 : Tryz.prog.cellsOf 5 = 1 := by kernel_rfl
theorem c79 : Tryz.prog.cellsOf 79 = 4 * 1 := by kernel_rfl
theorem u8In {n : Int} (h : (Lit.int .u8 n).wf = true) : 0 ≤ n ∧ n ≤ 255 := by
 simp only [Lit.wf, Bool.and_eq_true, decide_eq_true_eq] at h
 exact h
theorem rdU8 (W : World) : Rd Tryz.prog W 5 fun ds => ∃ n, ds = [.int .u8 n] ∧ 0 ≤ n ∧ n ≤ 255 := (Rd.intw Tryz.underlying5).mono fun ds ⟨n, h, w⟩ => ⟨n, h, u8In w⟩
theorem rdByZ (W : World) : RdZ Tryz.prog W 79 fun ds => ∃ x : By, ds = x.cells ∧ x.ok :=
 (RdZ.array Tryz.underlying79 c79 c5 (Rd.z (rdU8 W))).mono fun ds h => by
  obtain ⟨dss, rfl, hl, hd⟩ := h
  match dss, hl with
  | [x, y, z, w], _ =>
   obtain ⟨a, rfl, ha⟩ := hd x (by simp)
   obtain ⟨b, rfl, hb⟩ := hd y (by simp)
   obtain ⟨c, rfl, hc⟩ := hd z (by simp)
   obtain ⟨d, rfl, hd'⟩ := hd w (by simp)
   exact ⟨⟨a, b, c, d⟩, rfl, ha, hb, hc, hd'⟩
end Go.PX
