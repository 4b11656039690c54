import Derived.Test.YtboaolnlajoanaaGreatDoorPxO
import Derived.Test.YtboaolnlajoanaaGreatDoorPxL
import Derived.Test.YtboaolnlajoanaaGreatDoorPxN
import Derived.Test.YtboaolnlajoanaaGreatDoorPxJ
import Derived.Lib.AtoiAllCases
import Derived.Test.YtboaolnlajoanaaGreatDoorPxM
import Derived.Laws.IdiomStrings
set_option linter.all false
set_option maxRecDepth 10000
namespace Go.PX
open Go.Proofs
def firstL (p : Pt) (r : Int) : Int → List Sand → Option (Int × Pt)
 | _, [] => none
 | i, s :: l => match (movesL s.moves).find? fun m => insR s m p r with
  | some m => some (i, m)
  | none => firstL p r (i + 1) l
def firstR (c : Cht) (p : Pt) (r : Int) : Option (Int × Pt) := firstL p r 0 c.sands
theorem inCol_find (s : Sand) (p : Pt) (r x : Int) : ∀ l : List Int, inCol s p r x l = (l.map fun y => (⟨x, y⟩ : Pt)).find? fun m => nearX s (p.sub m) r
 | [] => rfl
 | y :: l => by
  rw [inCol, List.map_cons, List.find?_cons, inCol_find s p r x l]
  cases nearX s (p.sub ⟨x, y⟩) r <;> rfl
theorem inCols_find (s : Sand) (p : Pt) (r : Int) : ∀ l : List Int, inCols s p r l = (l.flatMap fun x => (ysX s).map fun y => (⟨x, y⟩ : Pt)).find? fun m => nearX s (p.sub m) r
 | [] => rfl
 | x :: l => by
  rw [inCols, List.flatMap_cons, List.find?_append, ← inCol_find, inCols_find s p r l]
  cases inCol s p r x (ysX s) <;> rfl
theorem cols_moves (s : Sand) (p : Pt) (r : Int) : inCols s p r (xsX s) = (movesL s.moves).find? fun m => nearX s (p.sub m) r := inCols_find s p r (xsX s)
theorem find_congr {α : Type} {f g : α → Bool} : ∀ {l : List α}, (∀ x ∈ l, f x = g x) → l.find? f = l.find? g
 | [], _ => rfl
 | x :: l, h => by
  rw [List.find?_cons, List.find?_cons, h x (by simp), find_congr fun y hy => h y (by simp [hy])]
theorem insL_first {p : Pt} {r : Int} (hr : 0 < r) : ∀ (l : List Sand) (i : Int), (∀ s ∈ l, SandR s) → insL p r i l = firstL p r i l
 | [], _, _ => rfl
 | s :: l, i, h => by
  rw [insL, firstL, cols_moves, find_congr (fun m _ => near_ins (h s (by simp)) m p hr), insL_first hr l (i + 1) fun t ht => h t (by simp [ht])]
  cases (movesL s.moves).find? (fun m => insR s m p r) <;> rfl
theorem first_0 {p : Pt} : ∀ (l : List Sand) (i : Int), (∀ s ∈ l, SandR s) → firstL p 0 i l = none
 | [], _, _ => rfl
 | s :: l, i, h => by
  rw [firstL]
  have : (movesL s.moves).find? (fun m => insR s m p 0) = none := by
   rw [List.find?_eq_none]
   intro m _
   rw [ins_0 (h s (by simp))]; simp
  rw [this]
  exact first_0 l (i + 1) fun t ht => h t (by simp [ht])
theorem ins_first {c : Cht} (hR : ChtR c) (p : Pt) {r : Int} (hr : 0 ≤ r) : insX c p r = firstR c p r := by
 unfold insX firstR
 split
 ·rename_i h; subst h; rw [first_0 _ _ hR.sand]
 ·exact insL_first (by omega) _ _ hR.sand
theorem firstL_none {p : Pt} {r : Int} : ∀ {l : List Sand} {i : Int}, firstL p r i l = none ↔ ∀ s ∈ l, ∀ m ∈ movesL s.moves, insR s m p r = false
 | [], _ => by simp [firstL]
 | s :: l, i => by
  rw [firstL]
  cases h : (movesL s.moves).find? fun m => insR s m p r with
  | some m =>
   refine ⟨fun h => by simp at h, fun h2 => ?_⟩
   have h3 := h2 s (by simp) m (List.mem_of_find?_eq_some h)
   have h4 : insR s m p r = true := by simpa using List.find?_some h
   rw [h3] at h4; cases h4
  | none =>
   simp only
   rw [firstL_none]
   rw [List.find?_eq_none] at h
   constructor
   ·intro h2 t ht m hm
    rcases List.mem_cons.1 ht with rfl | ht
    ·simpa using h m hm
    ·exact h2 t ht m hm
   ·intro h2 t ht
    exact h2 t (by simp [ht])
theorem first_mono {c : Cht} (hR : ChtR c) {p : Pt} {r r' : Int} (h0 : 0 ≤ r) (hr : r ≤ r') (h : firstR c p r' = none) : firstR c p r = none := by
 unfold firstR at h ⊢
 rw [firstL_none] at h ⊢
 intro s hs m hm
 have h1 := h s hs m hm
 rw [Bool.eq_false_iff] at h1 ⊢
 exact fun h2 => h1 (ins_mono (hR.sand s hs) h0 hr h2)
structure GoodRad (c : Cht) (p : Pt) (a : Int) : Prop where
 lo : 0 ≤ a
 hi : a ≤ 5000
 clear : firstR c p a = none
 most : a < 5000 → firstR c p (a + 1) ≠ none
theorem GoodRad.unique {c : Cht} (hR : ChtR c) {p : Pt} {a b : Int} (ha : GoodRad c p a) (hb : GoodRad c p b) : a = b := by
 have h1 := ha.lo
 have h2 := hb.lo
 have h3 := ha.hi
 have h4 := hb.hi
 rcases Int.lt_trichotomy a b with h | h | h
 ·exact absurd (first_mono hR (show 0 ≤ a + 1 by omega) (show a + 1 ≤ b by omega) hb.clear) (ha.most (by omega))
 ·exact h
 ·exact absurd (first_mono hR (show 0 ≤ b + 1 by omega) (show b + 1 ≤ a by omega) ha.clear) (hb.most (by omega))
theorem radL_good {c : Cht} (hR : ChtR c) (p : Pt) : ∀ (n : Nat) (a b : Int), 0 ≤ a → a < b → b ≤ 5001 → b - a ≤ n → firstR c p a = none → (b ≤ 5000 → firstR c p b ≠ none) → GoodRad c p (radL c p n a b)
 | 0, a, b, _, h2, _, h4, _, _ => by omega
 | n + 1, a, b, h1, h2, h3, h4, h5, h6 => by
  rw [radL]
  by_cases h : b - a > 1
  ·rw [if_pos h, ins_first hR p (show 0 ≤ (a + b) / 2 by omega)]
   cases hx : firstR c p ((a + b) / 2) with
   | none =>
    exact radL_good hR p n _ _ (by omega) (by omega) h3 (by omega) hx h6
   | some x =>
    exact radL_good hR p n _ _ h1 (by omega) (by omega) (by omega) h5 (fun _ => by rw [hx]; simp)
  ·rw [if_neg h]
   have : b = a + 1 := by omega
   subst this
   exact ⟨h1, by omega, h5, fun h7 => h6 (by omega)⟩
theorem first_zero {c : Cht} (hR : ChtR c) (p : Pt) : firstR c p 0 = none := first_0 _ _ hR.sand
theorem rad_good {c : Cht} {p : Pt} (h : openX c p = 0) : GoodRad c p (radV c p) := by
 have hR := (openX_ok h).1
 unfold radV
 rw [if_pos h]
 exact radL_good hR p 5001 0 5001 (by omega) (by omega) (by omega) (by omega) (first_zero hR p) (fun h => by omega)
end Go.PX
namespace Go.PX
open Go.Proofs
theorem cntF_add (v : Pt) : ∀ (l : List Pt) (n k : Int), cntF v l (n + k) = cntF v l n + k
 | [], _, _ => rfl
 | q :: r, n, k => by
  rw [cntF, cntF]
  split
  ·rw [show n + k + 1 = (n + 1) + k by omega]; exact cntF_add v r _ _
  ·exact cntF_add v r _ _
theorem turn_rot (v : Pt) : turnP (rotF v) = v := by cases v; simp [turnP, rotF]
theorem NZ_rot {v : Pt} (h : NZ v) : NZ (rotF v) := by
 unfold NZ at *
 show v.y ≠ 0 ∨ -v.x ≠ 0
 omega
theorem towF_rot {v : Pt} (hz : NZ v) : towF (rotF v) = (towF v + 8) % 32 := by
 have hb := towF_in (NZ_rot hz)
 by_cases hc : 0 ≤ (rotF v).x ∧ 0 < (rotF v).y
 ·have h1 : quadN (rotF v) = 0 := by unfold quadN; rw [if_pos hc]
  have h2 : quadN v = 3 := by
   have e1 : (rotF v).x = v.y := rfl
   have e2 : (rotF v).y = -v.x := rfl
   rw [e1, e2] at hc
   unfold quadN
   rw [if_neg (by omega), if_neg (by omega), if_neg (by omega)]
  have h3 : turnN 3 v = rotF v := by cases v; simp [turnN, turnP, rotF]
  have e1 : towF (rotF v) = cntF (rotF v) quarterL 0 - 1 := by unfold towF; rw [h1]; rfl
  have e2 : towF v = cntF (rotF v) quarterL 24 - 1 := by unfold towF; rw [h2, h3]; rfl
  have e3 := cntF_add (rotF v) quarterL 0 24
  rw [Int.zero_add] at e3
  omega
 ·obtain ⟨h1, _⟩ := quad_turn (NZ_rot hz) hc
  rw [turn_rot] at h1
  have e1 : towF (rotF v) = cntF (turnN (quadN v) v) quarterL (8 * quadN v + 8) - 1 := by
   unfold towF
   rw [h1, turnN, turn_rot]
   congr 2
  rw [cntF_add] at e1
  have e2 : towF v = cntF (turnN (quadN v) v) quarterL (8 * quadN v) - 1 := rfl
  have := (towF_in hz).1
  omega
theorem left_rot (a b : Pt) : leftF (rotF a) (rotF b) = leftF a b := by unfold leftF rotF; grind
theorem dot_rot (a b : Pt) : dotF (rotF a) (rotF b) = dotF a b := by unfold dotF rotF; grind
theorem sq_rot (a : Pt) : sqF (rotF a) = sqF a := by unfold sqF rotF; grind
theorem sub_rot (a b : Pt) : (rotF a).sub (rotF b) = rotF (a.sub b) := by unfold rotF Pt.sub; simp; omega
theorem atP_map {l : List Pt} (f : Pt → Pt) {i : Nat} (h : i < l.length) : atP (l.map f) i = f (atP l i) := by
 unfold atP
 simp [h]
def tB (b : Box) : Box := ⟨b.y, ⟨-b.x.hi, -b.x.lo⟩⟩
def tS (s : Sand) : Sand := { s with corners := s.corners.map rotF, moves := tB s.moves }
def tM (m : Mark) : Mark := { m with at' := rotF m.at' }
def tC (c : Cht) : Cht := ⟨c.marks.map tM, c.sands.map tS⟩
theorem nearR_rot (a b p : Pt) (r : Int) : nearR (rotF a) (rotF b) (rotF p) r = nearR a b p r := by
 unfold nearR
 simp only [sub_rot, dot_rot, sq_rot, left_rot]
theorem nxS_map {l : List Pt} (f : Pt → Pt) {i : Nat} (h : i < l.length) : nxS (l.map f) i = f (nxS l i) := by
 unfold nxS
 rw [List.length_map, atP_map f (Nat.mod_lt _ (by omega))]
theorem liesR_rot (s : Sand) (m p : Pt) : liesR (tS s) (rotF m) (rotF p) = liesR s m p := by
 unfold liesR tS
 simp only [List.length_map]
 rw [Bool.eq_iff_iff, List.all_eq_true, List.all_eq_true]
 refine forall_congr' fun i => ?_
 constructor
 ·intro h hi
  have hi' := List.mem_range.1 hi
  have := h hi
  rw [nxS_map _ hi', atP_map _ hi'] at this
  simpa only [sub_rot, left_rot] using this
 ·intro h hi
  have hi' := List.mem_range.1 hi
  rw [nxS_map _ hi', atP_map _ hi']
  simpa only [sub_rot, left_rot] using h hi
theorem any_congr {α : Type} {f g : α → Bool} {l : List α} (h : ∀ x ∈ l, f x = g x) : l.any f = l.any g := by
 rw [Bool.eq_iff_iff, List.any_eq_true, List.any_eq_true]
 constructor
 ·rintro ⟨x, hx, h1⟩; exact ⟨x, hx, by rw [← h x hx]; exact h1⟩
 ·rintro ⟨x, hx, h1⟩; exact ⟨x, hx, by rw [h x hx]; exact h1⟩
theorem all_congr {α : Type} {f g : α → Bool} {l : List α} (h : ∀ x ∈ l, f x = g x) : l.all f = l.all g := by
 rw [Bool.eq_iff_iff, List.all_eq_true, List.all_eq_true]
 constructor
 ·intro h1 x hx; rw [← h x hx]; exact h1 x hx
 ·intro h1 x hx; rw [h x hx]; exact h1 x hx
theorem insR_rot (s : Sand) (m p : Pt) (r : Int) : insR (tS s) (rotF m) (rotF p) r = insR s m p r := by
 unfold insR
 rw [liesR_rot]
 have h : (tS s).corners = s.corners.map rotF := rfl
 rw [h, List.length_map, sub_rot]
 congr 1
 refine any_congr fun i hi => ?_
 have hi := List.mem_range.1 hi
 rw [nxS_map _ hi, atP_map _ hi, nearR_rot]
theorem moves_rot (b : Box) (m : Pt) : rotF m ∈ movesL (tB b) ↔ m ∈ movesL b := by
 rw [mem_movesL, mem_movesL]
 show (b.y.lo ≤ m.y ∧ m.y ≤ b.y.hi) ∧ (-b.x.hi ≤ -m.x ∧ -m.x ≤ -b.x.lo) ↔ _
 omega
theorem rot_ex (v : Pt) : ∃ u, v = rotF u := ⟨⟨-v.y, v.x⟩, by cases v; simp [rotF]⟩
theorem first_rot (c : Cht) (p : Pt) (r : Int) : firstR (tC c) (rotF p) r = none ↔ firstR c p r = none := by
 unfold firstR
 rw [firstL_none, firstL_none]
 show (∀ s ∈ c.sands.map tS, _) ↔ _
 constructor
 ·intro h s hs m hm
  have := h (tS s) (List.mem_map.2 ⟨s, hs, rfl⟩) (rotF m) ((moves_rot _ _).2 hm)
  rw [insR_rot] at this; exact this
 ·intro h t ht m hm
  obtain ⟨s, hs, rfl⟩ := List.mem_map.1 ht
  obtain ⟨u, rfl⟩ := rot_ex m
  rw [insR_rot]
  exact h s hs u ((moves_rot _ _).1 hm)
theorem good_rot {c : Cht} {p : Pt} {a : Int} (h : GoodRad c p a) : GoodRad (tC c) (rotF p) a :=
 ⟨h.lo, h.hi, (first_rot c p a).2 h.clear, fun h1 h2 => h.most h1 ((first_rot c p (a + 1)).1 h2)⟩
theorem within_rot (m : Int) (p : Pt) : withinB m (rotF p) = withinB m p := by
 rw [Bool.eq_iff_iff, within_iff, within_iff]
 constructor
 ·intro h
  have h1 := h.x
  have h2 := h.y
  have h3 : -m ≤ p.y ∧ p.y ≤ m := h1
  have h4 : -m ≤ -p.x ∧ -p.x ≤ m := h2
  exact ⟨by omega, h3⟩
 ·intro h
  have h1 := h.x
  have h2 := h.y
  refine ⟨h2, ?_⟩
  show -m ≤ -p.x ∧ -p.x ≤ m
  omega
theorem round_rot (l : List Pt) : roundR (l.map rotF) = roundR l := by
 unfold roundR
 rw [List.length_map]
 refine all_congr fun i hi => ?_
 have hi := List.mem_range.1 hi
 unfold rowOk
 rw [List.length_map]
 refine all_congr fun n hn => ?_
 have hn := List.mem_range.1 hn
 unfold cornerOk
 rw [List.length_map, atP_map _ hi, atP_map _ hn, atP_map _ (Nat.mod_lt _ (by omega)), sub_rot, sub_rot, left_rot]
theorem box_rot (b : Box) (m : Int) : boxE m (tB b) = boxE m b := by
 have hin : ∀ n : Int, inB (-n) (-m) m = inB n (-m) m := by
  intro n
  rw [Bool.eq_iff_iff, inB_iff, inB_iff]; omega
 unfold boxE tB
 simp only [hin]
 have e1 : -b.x.lo - -b.x.hi = b.x.hi - b.x.lo := by omega
 rw [e1]
 generalize inB b.x.lo (-m) m = a1
 generalize inB b.x.hi (-m) m = a2
 generalize inB b.y.lo (-m) m = a3
 generalize inB b.y.hi (-m) m = a4
 cases a1 <;> cases a2 <;> cases a3 <;> cases a4 <;> simp [Bool.and_comm]
theorem sandR_rot (s : Sand) : sandR (tS s) = sandR s := by
 unfold sandR
 have h1 : (tS s).corners = s.corners.map rotF := rfl
 have h2 : (tS s).moves = tB s.moves := rfl
 rw [h1, h2, List.length_map, round_rot, box_rot, List.all_map]
 have h3 : (s.corners.all ((fun p => withinB 10000 p) ∘ rotF)) = s.corners.all fun p => withinB 10000 p := all_congr fun p _ => within_rot _ _
 rw [h3]
theorem markER_rot (ns : List ByteArray) (m : Mark) : markER ns (tM m) = markER ns m := by
 unfold markER
 have h : farM (tM m) = farM m := by unfold farM; show (!withinB 30000 (rotF m.at')) = _; rw [within_rot]
 rw [h]; rfl
theorem marksR_rot : ∀ (l : List Mark) (ns : List ByteArray) (i : Int), marksR ns i (l.map tM) = marksR ns i l
 | [], _, _ => rfl
 | m :: l, ns, i => by
  rw [List.map_cons, marksR, marksR, markER_rot, marksR_rot l]; rfl
theorem sandER_rot (ns : List ByteArray) (s : Sand) : sandER ns (tS s) = sandER ns s := by
 unfold sandER
 rw [sandR_rot]; rfl
theorem sandsR_rot : ∀ (l : List Sand) (ns : List ByteArray) (i : Int), sandsR ns i (l.map tS) = sandsR ns i l
 | [], _, _ => rfl
 | m :: l, ns, i => by
  rw [List.map_cons, sandsR, sandsR, sandER_rot, sandsR_rot l]; rfl
theorem check_rot (c : Cht) : checkX (tC c) = checkX c := by
 rw [check_eq, check_eq]
 unfold checkR
 show (if (c.marks.map tM).length > 8 then _ else match marksR [] 0 (c.marks.map tM) with | .inl (i, e) => (1, i, e) | .inr ns => if (c.sands.map tS).length > 4 then (2, 0, 3) else sandsR ns 0 (c.sands.map tS)) = _
 rw [List.length_map, List.length_map, marksR_rot]
 simp only [sandsR_rot]
 cases marksR [] 0 c.marks <;> rfl
theorem open_rot (c : Cht) (p : Pt) : openX (tC c) (rotF p) = openX c p := by
 unfold openX
 rw [check_rot, within_rot]
theorem rad_rot (c : Cht) (p : Pt) : radV (tC c) (rotF p) = radV c p := by
 by_cases h : openX c p = 0
 ·have h' : openX (tC c) (rotF p) = 0 := by rw [open_rot]; exact h
  exact (rad_good h').unique (openX_ok h').1 (good_rot (rad_good h))
 ·unfold radV
  rw [open_rot, if_neg h, if_neg h]
end Go.PX
namespace Go.PX
open Go.Proofs
end Go.PX
namespace Go.PX
open Go.Proofs
end Go.PX
namespace Go.PX
open Go.Proofs
end Go.PX
namespace Go.PX
open Go.Proofs
end Go.PX
namespace Go.PX
open Go.Proofs
end Go.PX
namespace Go.PX
open Go.Proofs
end Go.PX
namespace Go.PX
open Go.Proofs
def valL (c : Cht) : Bool := decide ((checkX c).2.2 = 0)
theorem ch43 (c : Cht) : FnV Tryz.prog 43 [c.d] (.bool (valL c)) := by
 refine fnV_of mixed tysOk Tryz.func43 rfl (ft := ft43) 1 (by decide +kernel) (by rfl) fun {σ} Y st => ?_
 conv=>whnf
 refine CallA_v (ch21x c) rfl rfl ?_
 conv=>whnf
 exact RetA_view 1 rfl ⟨⟨rfl, rfl⟩, rfl⟩
def wordsU (l : List Int) : D := .vs (l.map fun b => [.int .u16 b])
def turnF (x : List Int) (n : Nat) : Int := if x = [] then 0 else x.getD (n % x.length) 0
def U16 (x : List Int) : Prop := ∀ b ∈ x, 0 ≤ b ∧ b ≤ 65535
theorem ch49 (x : List Int) (hx : U16 x) (n : Nat) : FnV Tryz.prog 49 [wordsU x, i64 n] (i64 (turnF x n)) := by
 refine fnV_of mixed tysOk Tryz.func49 rfl (ft := ft49) 2 (by decide +kernel) (by rfl) fun {σ} Y st => ?_
 conv=>whnf
 by_cases h : x = []
 ·subst h
  conv=>whnf
  exact RetA_view 0 rfl ⟨⟨rfl, rfl⟩, rfl⟩
 ·have hl : 0 < x.length := List.length_pos_iff.2 h
  refine brk_i (fun h1 => absurd h1 (by simp [h])) (fun _ => ?_)
  conv=>whnf
  refine chk_i (decide_eq_true (by rw [List.length_map]; omega)) ?_
  conv=>whnf
  rw [List.length_map]
  have hm := Nat.mod_lt n hl
  have he : ((n : Int).tmod (x.length : Int)) = ((n % x.length : Nat) : Int) := by
   rw [Int.tmod_eq_emod_of_nonneg (by omega)]; omega
  rw [he]
  have hg : x[n % x.length]? = some (x[n % x.length]) := List.getElem?_eq_getElem hm
  refine elemK_nat hg ?_
  conv=>whnf
  have hb := hx _ (List.mem_of_getElem? hg)
  have ht : turnF x n = x[n % x.length] := by
   unfold turnF
   rw [if_neg h, List.getD_eq_getElem?_getD, hg]; rfl
  rw [← ht] at hb ⊢
  refine arith_in (wrap_i64 (by (try dsimp only); omega)) ?_
  conv=>whnf
  exact RetA_view 0 rfl ⟨⟨rfl, rfl⟩, rfl⟩
theorem turn_bd {x : List Int} (hx : U16 x) (n : Nat) : 0 ≤ turnF x n ∧ turnF x n ≤ 65535 := by
 unfold turnF
 split
 ·omega
 ·rename_i h
  have hm := Nat.mod_lt n (List.length_pos_iff.2 h)
  rw [List.getD_eq_getElem?_getD, List.getElem?_eq_getElem hm]
  exact hx _ (List.getElem_mem _)
def clampF (n : Int) : Int := max (-10000) (min 10000 n)
def clampP (p : Pt) : Pt := ⟨clampF p.x, clampF p.y⟩
def awayP (l : List Int) : Pt := ⟨(turnF l 1).tmod 400 - 200, (turnF l 2).tmod 400 - 200⟩
def atS (l : List Sand) (i : Nat) : Sand := (l[i]?).getD ⟨.empty, [], ⟨⟨0, 0⟩, ⟨0, 0⟩⟩⟩
def sandI (c : Cht) (l : List Int) : Sand := atS c.sands ((turnF l 0).toNat % c.sands.length)
def nearP (c : Cht) (l : List Int) : Pt := if c.sands = [] then clampP (awayP l) else clampP ((awayP l).add (atP (sandI c l).corners ((turnF l 3).toNat % (sandI c l).corners.length)))
theorem clamp_pin (p : Pt) : Pin 10000 (clampP p) := by
 have h : ∀ n, -10000 ≤ clampF n ∧ clampF n ≤ 10000 := fun n => by unfold clampF; omega
 exact ⟨h _, h _⟩
theorem near_pin (c : Cht) (l : List Int) : Pin 10000 (nearP c l) := by
 unfold nearP
 split <;> exact clamp_pin _
theorem tmod_nat {a : Int} {n : Nat} (ha : 0 ≤ a) : a.tmod (n : Int) = ((a.toNat % n : Nat) : Int) := by
 rw [Int.tmod_eq_emod_of_nonneg ha]
 obtain ⟨k, rfl⟩ := Int.eq_ofNat_of_zero_le ha
 simp
set_option maxHeartbeats 1000000 in
theorem ch44 (c : Cht) (hR : ChtR c) (l : List Int) (hl : U16 l) : FnV Tryz.prog 44 [c.d, wordsU l] (nearP c l).d := by
 refine fnV_of mixed tysOk Tryz.func44 rfl (ft := ft44) 2 (by decide +kernel) (by rfl) fun {σ} Y st => ?_
 conv=>whnf
 have h0 := turn_bd hl 0
 have h1 := turn_bd hl 1
 have h2 := turn_bd hl 2
 have h3 := turn_bd hl 3
 have t1 := Int.tmod_nonneg 400 h1.1
 have t2 := Int.tmod_lt_of_pos (turnF l 1) (b := 400) (by omega)
 have t3 := Int.tmod_nonneg 400 h2.1
 have t4 := Int.tmod_lt_of_pos (turnF l 2) (b := 400) (by omega)
 have hsl := hR.sands
 refine CallA_v (ds := [wordsU l, i64 1]) (ch49 l hl 1) rfl rfl ?_
 conv=>whnf
 refine arith_in (wrap_i64 (by (try dsimp only); omega)) ?_
 conv=>whnf
 refine CallA_v (ds := [wordsU l, i64 2]) (ch49 l hl 2) rfl rfl ?_
 conv=>whnf
 refine arith_in (wrap_i64 (by (try dsimp only); omega)) ?_
 conv=>whnf
 refine CallA_v (ch42 _ _) rfl rfl ?_
 conv=>whnf
 refine brk_i (fun h => ?_) (fun h => ?_)
 ·have hn : 0 < c.sands.length := by have := of_decide_eq_true h; simp at this; omega
  have hk := Nat.mod_lt (turnF l 0).toNat hn
  have hne : ¬ c.sands = [] := by rintro h; rw [h] at hn; simp at hn
  have hp : nearP c l = clampP ((awayP l).add (atP (sandI c l).corners ((turnF l 3).toNat % (sandI c l).corners.length))) := by unfold nearP; rw [if_neg hne]
  rw [hp]
  have hg : c.sands[(turnF l 0).toNat % c.sands.length]? = some (sandI c l) := by unfold sandI atS; simp [hk]
  have hS := hR.sand _ (List.mem_of_getElem? hg)
  generalize sandI c l = s at hg hS ⊢
  have hlen := hS.len
  have hj := Nat.mod_lt (turnF l 3).toNat (show 0 < s.corners.length by omega)
  have hq := hS.pin _ (atP_mem hj)
  generalize hjj : (turnF l 3).toNat % s.corners.length = j at hj hq ⊢
  conv=>whnf
  refine DrawCall_v (ds := [wordsU l, i64 0]) (ch49 l hl 0) rfl rfl ?_
  conv=>whnf
  refine chk_i (decide_eq_true (by simp only [List.length_map]; omega)) ?_
  conv=>whnf
  rw [List.length_map, tmod_nat h0.1]
  refine elemK_nat hg ?_
  conv=>whnf
  refine DrawCall_v (ds := [wordsU l, i64 3]) (ch49 l hl 3) rfl rfl ?_
  conv=>whnf
  refine chk_i (decide_eq_true (by simp only [List.length_map]; omega)) ?_
  conv=>whnf
  rw [List.length_map, tmod_nat h3.1, hjj]
  refine elemK_nat (atP_get hj) ?_
  conv=>whnf
  have haw : Pin 1000 (awayP l) := ⟨by show -1000 ≤ (turnF l 1).tmod 400 - 200 ∧ (turnF l 1).tmod 400 - 200 ≤ 1000; omega, by show -1000 ≤ (turnF l 2).tmod 400 - 200 ∧ (turnF l 2).tmod 400 - 200 ≤ 1000; omega⟩
  refine DrawCall_v (ds := [(awayP l).d, (atP s.corners j).d]) (ch54 _ _ (haw.mono (by omega)) (hq.mono (by omega))) rfl rfl ?_
  conv=>whnf
  refine CallA_v (ch42 _ _) rfl rfl ?_
  conv=>whnf
  exact RetA_view 0 rfl ⟨⟨rfl, rfl⟩, rfl⟩
 ·have hne : c.sands = [] := by
   have := of_decide_eq_false h
   simp at this
   exact this
  have hp : nearP c l = clampP (awayP l) := by unfold nearP; rw [if_pos hne]
  rw [hp]
  conv=>whnf
  refine CallA_v (ch42 _ _) rfl rfl ?_
  conv=>whnf
  exact RetA_view 0 rfl ⟨⟨rfl, rfl⟩, rfl⟩
end Go.PX
namespace Go.PX
open Go.Proofs Go.RowKit Go.ChangeShapes
theorem c82 : Tryz.prog.cellsOf 82 = 1 := by kernel_rfl
theorem u16In {n : Int} (h : (Lit.int .u16 n).wf = true) : 0 ≤ n ∧ n ≤ 65535 := by
 simp only [Lit.wf, Bool.and_eq_true, decide_eq_true_eq] at h
 exact h
theorem Rd.intw {P : Program} {W : World} {t : TypeId} {k : IntKind} (ht : P.underlying t = some (.int k)) : Rd P W t fun ds => ∃ n, ds = [.int k n] ∧ (Lit.int k n).wf = true := by
 refine ⟨?_⟩
 intro H enc sp held fuel cs x h
 obtain ⟨n, rfl, _, hw⟩ := DataW.trod_int ht h
 exact ⟨[.int k n], ⟨n, rfl, hw⟩, _, [], rfl, rfl, rfl⟩
section
variable (W : World)
theorem rdU16 : Rd Tryz.prog W 82 fun ds => ∃ n, ds = [.int .u16 n] ∧ 0 ≤ n ∧ n ≤ 65535 := (Rd.intw Tryz.underlying82).mono fun ds ⟨n, h, w⟩ => ⟨n, h, u16In w⟩
theorem rdU16s : Rd Tryz.prog W 64 fun ds => ∃ l : List Int, ds = [wordsU l] ∧ U16 l :=
 (Rd.slice Tryz.underlying64 c82 (by omega) (rdU16 W)).mono fun ds h => by
  obtain ⟨es, rfl, he⟩ := h
  have : ∃ l : List Int, es = l.map (fun b => [D.int .u16 b]) ∧ U16 l := by
   induction es with
   | nil => exact ⟨[], rfl, fun b h => by cases h⟩
   | cons e r ih =>
    obtain ⟨l, h1, h2⟩ := ih fun x hx => he x (by simp [hx])
    obtain ⟨n, h3, h4⟩ := he e (by simp)
    refine ⟨n :: l, by rw [h3, h1]; rfl, fun b hb => ?_⟩
    rcases List.mem_cons.1 hb with rfl | hb
    ·exact h4
    ·exact h2 b hb
  obtain ⟨l, rfl, h2⟩ := this
  exact ⟨l, rfl, h2⟩
end
end Go.PX
namespace Go.PX
open Go.Proofs Go.RowKit Go.ChangeShapes
end Go.PX
namespace Go.PX
open Go.Proofs
theorem valid_open {c : Cht} (h : (checkX c).2.2 = 0) {p : Pt} (hp : Pin 10000 p) : openX c p = 0 := by
 unfold openX
 rw [if_pos h, if_pos (within_iff.2 hp)]
theorem open_bad {c : Cht} (h : ¬ (checkX c).2.2 = 0) (p : Pt) : ¬ openX c p = 0 := by
 unfold openX
 rw [if_neg h]; exact h
end Go.PX
namespace Go.PX
open Go.Proofs
end Go.PX
namespace Go.PX
open Go.Proofs Go.RowKit Go.ChangeShapes
theorem c5 : Tryz.prog.cellsOf 5 = 1 := by kernel_rfl
theorem u8In {n : Int} (h : (Lit.int .u8 n).wf = true) : 0 ≤ n ∧ n ≤ 255 := by
 simp only [Lit.wf, Bool.and_eq_true, decide_eq_true_eq] at h
 exact h
theorem rdU8 (W : World) : Rd Tryz.prog W 5 fun ds => ∃ n, ds = [.int .u8 n] ∧ 0 ≤ n ∧ n ≤ 255 := (Rd.intw Tryz.underlying5).mono fun ds ⟨n, h, w⟩ => ⟨n, h, u8In w⟩
end Go.PX
namespace Go.PX
open Go.Proofs
end Go.PX
namespace Go.PX
open Go.Proofs
end Go.PX
namespace Go.PX
open Go.Proofs
end Go.PX
namespace Go.PX
open Go.Proofs
end Go.PX
namespace Go.PX
open Go.Proofs
end Go.PX
namespace Go.PX
open Go.Proofs
open Go.RowKit Go.Proofs
end Go.PX
namespace Go.PX
open Go.Proofs
end Go.PX
namespace Go.PX
open Go.Proofs
end Go.PX
namespace Go.PX
open Go.Proofs
end Go.PX
namespace Go.PX
open Go.Proofs
end Go.PX
namespace Go.PX
open Go.Proofs
def negW (n : Int) : Int := IntKind.wrap .i64 (0 - n)
def rotW (p : Pt) : Pt := ⟨p.y, negW p.x⟩
def boxW (b : Box) : Box := ⟨b.y, ⟨negW b.x.hi, negW b.x.lo⟩⟩
def sandW' (s : Sand) : Sand := ⟨s.name, s.corners.map rotW, boxW s.moves⟩
def markW' (m : Mark) : Mark := { m with at' := rotW m.at' }
def turnC (c : Cht) : Cht := ⟨c.marks.map markW', c.sands.map sandW'⟩
structure Big (c : Cht) : Prop where
 marks : c.marks.length * 56 ≤ 140737488351232
 sands : c.sands.length * 72 ≤ 140737488351232
 corners : ∀ s ∈ c.sands, s.corners.length * 16 ≤ 140737488351232
set_option maxHeartbeats 8000000 in
theorem ch53 (c : Cht) (hB : Big c) : FnV Tryz.prog 53 [c.d] (turnC c).d := by
 refine fnV_of mixed tysOk Tryz.func53 rfl (ft := ft53) 1 (by decide +kernel) (by rfl) fun {σ} Y st => ?_
 conv=>whnf
 have hb1 := hB.marks
 have hb2 := hB.sands
 refine LoopA_i (T := tys) tysOk (by exact drawsB_spec mixed tysOk (by decide +kernel)) c.marks (fun i (acc : List Mark) => ⟨[(1, .ptr 1 0), (2, .ptr 2 0), (3, .ptr 3 0), (4, .d (i64 i))], (1, .box (.dd c.cells)) :: (2, .box (.dd [.nils, .nils])) :: chtN 3 900001 900002 ⟨acc, []⟩, st⟩)
  (fun i l acc => acc.length = i ∧ c.marks.map markW' = acc ++ l.map markW') [] ?_ ⟨rfl, by simp⟩ ?_ ?_
 ·refine ((Wk.bornAtD 3 900001 4 [] [.nils] rfl rfl rfl rfl rfl).trans (Wk.bornAt 3 900002 6 [.sl 900001 4 0 0] [] rfl rfl ?_ rfl)).trans ?_
  ·rfl
  ·exact Wk.sub ⟨rfl, rfl, rfl, rfl, trivial⟩ ⟨rfl, rfl, rfl, rfl, rfl, trivial⟩
 ·rintro i m l acc hmi hi hil ⟨hal, hac⟩
  conv=>whnf
  refine brk_i (fun _ => ?_) (fun h => absurd hi (by simpa using h))
  conv=>whnf
  refine elemK_nat hmi ?_
  conv=>whnf
  refine arith.mk ?_
  conv=>whnf
  refine CallA_v (ch42 m.at'.y (negW m.at'.x)) rfl rfl ?_
  conv=>whnf
  refine ownK_whole rfl ?_
  conv=>whnf
  refine ownK_whole (by simp [Els.len]) ?_
  conv=>whnf
  refine chk_i (decide_eq_true (by show ((acc.map Mark.cells).length + 1) * 56 ≤ _; simp only [List.length_map]; omega)) ?_
  conv=>whnf
  refine arith_in (wrap_i64 (by (try dsimp only); omega)) ?_
  conv=>whnf
  exact ⟨acc ++ [markW' m], ⟨by simp [hal], by rw [hac]; simp⟩, (Wk.move 35 900001 rfl rfl).trans (Wk.sub ⟨rfl, rfl, rfl, rfl, trivial⟩ ⟨rfl, rfl, congrArg (fun z : Nat => some (Obj.box (.vv [.sl 900001 4 0 z, .sl 900002 6 0 0]))) (by simp [Els.len]), congrArg (fun z => some (Obj.arr 4 (.dd z))) (by simp [Mark.cells, markW', rotW]), rfl, trivial⟩)⟩
 ·rintro ms ⟨hal, hac⟩
  have hac : ms = c.marks.map markW' := by rw [hac]; simp
  conv=>whnf
  refine brk_i (fun h => absurd h (by simp)) (fun _ => ?_)
  conv=>whnf
  refine LoopA_i (T := tys) tysOk (by exact drawsB_spec mixed tysOk (by decide +kernel)) c.sands (fun i (acc : List Sand) => ⟨[(1, .ptr 1 0), (2, .ptr 2 0), (3, .ptr 3 0), (6, .d (i64 i))], (1, .box (.dd c.cells)) :: (2, .box (.dd [.nils, .nils])) :: chtN 3 900001 900002 ⟨ms, acc⟩, st⟩)
   (fun i l acc => acc.length = i ∧ c.sands.map sandW' = acc ++ l.map sandW') [] (Wk.sub ⟨(by first | rfl | (simp only [List.length_map]; rfl) | simp [PX.get]), (by first | rfl | (simp only [List.length_map]; rfl) | simp [PX.get]), (by first | rfl | (simp only [List.length_map]; rfl) | simp [PX.get]), (by first | rfl | (simp only [List.length_map]; rfl) | simp [PX.get]), trivial⟩ ⟨(by first | rfl | (simp only [List.length_map]; rfl) | simp [PX.get]), (by first | rfl | (simp only [List.length_map]; rfl) | simp [PX.get]), (by first | rfl | (simp only [List.length_map]; rfl) | simp [PX.get]), (by first | rfl | (simp only [List.length_map]; rfl) | simp [PX.get]), (by first | rfl | (simp only [List.length_map]; rfl) | simp [PX.get]), trivial⟩) ⟨rfl, by simp⟩ ?_ ?_
  ·rintro i s l acc hsi hi hil ⟨hal2, hac2⟩
   have hb3 := hB.corners s (List.mem_of_getElem? hsi)
   conv=>whnf
   refine brk_i (fun _ => ?_) (fun h => absurd hi (by simpa using h))
   conv=>whnf
   refine elemK_nat hsi ?_
   conv=>whnf
   refine arith.mk ?_
   conv=>whnf
   refine arith.mk ?_
   conv=>whnf
   refine CallA_v (ch52 s.moves.y.lo s.moves.y.hi (negW s.moves.x.hi) (negW s.moves.x.lo)) rfl rfl ?_
   conv=>whnf
   refine LoopA_i (T := tys) tysOk (by exact drawsB_spec mixed tysOk (by decide +kernel)) s.corners (fun j (cs : List Pt) => ⟨[(1, .ptr 1 0), (2, .ptr 2 0), (3, .ptr 3 0), (6, .d (i64 i)), (7, .ptr 7 0), (8, .d (i64 j))], (1, .box (.dd c.cells)) :: (2, .box (.dd [.nils, .nils])) :: (7, .box (.vv ([.d (.str s.name)] ++ .sl 900003 2 0 cs.length :: [.d (i64 s.moves.y.lo), .d (i64 s.moves.y.hi), .d (i64 (negW s.moves.x.hi)), .d (i64 (negW s.moves.x.lo))]))) :: (900003, .arr 2 (.dd (cs.map Pt.cells))) :: chtN 3 900001 900002 ⟨ms, acc⟩, st⟩)
    (fun j l cs => cs.length = j ∧ s.corners.map rotW = cs ++ l.map rotW) [] ?_ ⟨rfl, by simp⟩ ?_ ?_
   ·exact (Wk.bornAtD 7 900003 2 [.str s.name] [i64 s.moves.y.lo, i64 s.moves.y.hi, i64 (negW s.moves.x.hi), i64 (negW s.moves.x.lo)] rfl rfl rfl rfl rfl).trans (Wk.sub ⟨(by first | rfl | (simp only [List.length_map]; rfl) | simp [PX.get]), (by first | rfl | (simp only [List.length_map]; rfl) | simp [PX.get]), (by first | rfl | (simp only [List.length_map]; rfl) | simp [PX.get]), (by first | rfl | (simp only [List.length_map]; rfl) | simp [PX.get]), (by first | rfl | (simp only [List.length_map]; rfl) | simp [PX.get]), (by first | rfl | (simp only [List.length_map]; rfl) | simp [PX.get]), trivial⟩ ⟨(by first | rfl | (simp only [List.length_map]; rfl) | simp [PX.get]), (by first | rfl | (simp only [List.length_map]; rfl) | simp [PX.get]), (by first | rfl | (simp only [List.length_map]; rfl) | simp [PX.get]), (by first | rfl | (simp only [List.length_map]; rfl) | simp [PX.get]), (by first | rfl | (simp only [List.length_map]; rfl) | simp [PX.get]), (by first | rfl | (simp only [List.length_map]; rfl) | simp [PX.get]), (by first | rfl | (simp only [List.length_map]; rfl) | simp [PX.get]), trivial⟩)
   ·rintro j p l cs hpj hj hjl ⟨h1, h2⟩
    conv=>whnf
    refine elemK_nat hsi ?_
    conv=>whnf
    refine brk_i (fun _ => ?_) (fun h => absurd hj (by simpa using h))
    conv=>whnf
    refine elemK_nat hsi ?_
    conv=>whnf
    refine elemK_nat hpj ?_
    conv=>whnf
    refine arith.mk ?_
    conv=>whnf
    refine DrawCall_v (ch42 p.y (negW p.x)) rfl rfl ?_
    conv=>whnf
    refine ownK_whole rfl ?_
    conv=>whnf
    refine ownK_whole (by simp [Els.len]) ?_
    conv=>whnf
    refine chk_i (decide_eq_true (by show ((cs.map Pt.cells).length + 1) * 16 ≤ _; simp only [List.length_map]; omega)) ?_
    conv=>whnf
    refine arith_in (wrap_i64 (by (try dsimp only); omega)) ?_
    conv=>whnf
    exact ⟨cs ++ [rotW p], ⟨by simp [h1], by rw [h2]; simp⟩, (Wk.move 99 900003 rfl rfl).trans (Wk.sub ⟨rfl, rfl, rfl, rfl, rfl, rfl, trivial⟩ ⟨rfl, rfl, congrArg (fun z : Nat => some (Obj.box (.vv [.d (.str s.name), .sl 900003 2 0 z, .d (i64 s.moves.y.lo), .d (i64 s.moves.y.hi), .d (i64 (negW s.moves.x.hi)), .d (i64 (negW s.moves.x.lo))]))) (by simp [Els.len]), congrArg (fun z => some (Obj.arr 2 (.dd z))) (by simp [Pt.cells, rotW]), rfl, rfl, rfl, trivial⟩)⟩
   ·rintro cs ⟨h1, h2⟩
    have h2 : cs = s.corners.map rotW := by rw [h2]; simp
    conv=>whnf
    refine elemK_nat hsi ?_
    conv=>whnf
    refine brk_i (fun h => absurd h (by simp)) (fun _ => ?_)
    conv=>whnf
    refine ownK_whole rfl ?_
    conv=>whnf
    refine ownK_whole (by simp [Els.len]) ?_
    conv=>whnf
    refine chk_i (by
     show (true && !nameBL 105 ((injL (acc.map Sand.cells) ++ [_]).flatten)) = true
     rw [nameBL_injL]; rfl) ?_
    conv=>whnf
    refine chk_i (decide_eq_true (by show ((acc.map Sand.cells).length + 1) * 72 ≤ _; simp only [List.length_map]; omega)) ?_
    conv=>whnf
    refine arith_in (wrap_i64 (by (try dsimp only); omega)) ?_
    conv=>whnf
    refine ⟨acc ++ [sandW' s], ⟨by simp [hal2], by rw [hac2]; simp⟩, (Wk.frzArr 1 [900003] 105 (sz := 6) (vs := injL (acc.map Sand.cells) ++ [[.d (.str s.name), .sl 900003 2 0 cs.length, .d (i64 s.moves.y.lo), .d (i64 s.moves.y.hi), .d (i64 (negW s.moves.x.hi)), .d (i64 (negW s.moves.x.lo))]]) (ds := acc.map Sand.cells ++ [(sandW' s).cells]) ?_ (viewLL_app (viewLL_one (viewL_app (a := [.str s.name]) (viewL_cons ?_ rfl))) _)).trans ((Wk.move 105 900002 rfl rfl).trans ?_)⟩
    ·rfl
    ·exact viewV_sl' rfl (show _ = (s.corners.map rotW).map Pt.cells from by rw [h2]) (by simp [h1, sandW'])
    ·exact Wk.sub ⟨rfl, rfl, rfl, rfl, trivial⟩ ⟨rfl, rfl, congrArg (fun z : Nat => some (Obj.box (.vv [.sl 900001 4 0 ms.length, .sl 900002 6 0 z]))) (by simp [Els.len, Els.toV, injL]), rfl, congrArg (fun z => some (Obj.arr 6 (.dd z))) (by simp), trivial⟩
  ·rintro acc ⟨hal2, hac2⟩
   have hac2 : acc = c.sands.map sandW' := by rw [hac2]; simp
   conv=>whnf
   refine brk_i (fun h => absurd h (by simp)) (fun _ => ?_)
   conv=>whnf
   have e : turnC c = ⟨ms, acc⟩ := by rw [hac, hac2]; rfl
   rw [e]
   exact RetA_view 1 (viewC ⟨ms, acc⟩ rfl rfl) ⟨⟨rfl, rfl⟩, rfl⟩
end Go.PX
namespace Go.PX
open Go.Proofs
theorem seenE_of {c : Cht} (hv : (checkX c).2.2 = 0) {day : Int} (hd : 0 ≤ day ∧ day ≤ 40000) {k : Nat} {m : Mark} (hm : c.marks[k]? = some m) {p : Pt} (hp : Pin 30000 p) :
  seenE c day k p = (if colB day (backN m.paints m.paints.length) = 0 then 9 else if sameP m.at' p then 8 else 0) ∧ seenV c day k p = (if seenE c day k p = 0 then towF (m.at'.sub p) else 0) := by
 have hk : k < c.marks.length := (List.getElem?_eq_some_iff.1 hm).1
 have h1 : marE c day k = 0 := by
  unfold marE
  rw [if_pos hv, if_pos (inB_iff.2 hd), if_pos (inB_iff.2 (by omega))]
 have h2 : marM c day k = m := by
  unfold marM
  rw [if_pos h1, Int.toNat_natCast, hm]; rfl
 have h3 : marC c day k = colB day (backN m.paints m.paints.length) := by
  unfold marC
  rw [if_pos h1, h2]
 have h4 : stdE c day k = if colB day (backN m.paints m.paints.length) = 0 then 9 else 0 := by
  unfold stdE
  rw [if_pos h1, h3]
 refine ⟨?_, ?_⟩
 ·unfold seenE
  rw [h4, h2]
  by_cases h : colB day (backN m.paints m.paints.length) = 0
  ·rw [if_pos h, if_pos h]; rfl
  ·rw [if_neg h, if_neg h, if_pos rfl, if_pos (within_iff.2 hp)]
 ·unfold seenV
  rw [h2]
theorem sameP_rot (a b : Pt) : sameP (rotF a) (rotF b) = sameP a b := by
 rw [Bool.eq_iff_iff]
 unfold sameP rotF
 simp
 omega
theorem same_NZ {a p : Pt} (h : sameP a p = false) : NZ (a.sub p) := by
 rw [Bool.eq_false_iff] at h
 unfold NZ
 show a.x - p.x ≠ 0 ∨ a.y - p.y ≠ 0
 rcases Decidable.em (a.x = p.x) with h1 | h1
 ·rcases Decidable.em (a.y = p.y) with h2 | h2
  ·exact absurd (by unfold sameP; simp [h1, h2]) h
  ·omega
 ·omega
theorem seen_rot {c : Cht} (hv : (checkX c).2.2 = 0) {day : Int} (hd : 0 ≤ day ∧ day ≤ 40000) {k : Nat} (hk : k < c.marks.length) {p : Pt} (hp : Pin 30000 p) :
  seenE (tC c) day k (rotF p) = seenE c day k p ∧ (seenE c day k p = 0 → seenV (tC c) day k (rotF p) = (seenV c day k p + 8) % 32) ∧ (seenE c day k p ≠ 0 → seenV c day k p = 0 ∧ seenV (tC c) day k (rotF p) = 0) ∧ 0 ≤ seenV c day k p ∧ seenV c day k p ≤ 31 := by
 obtain ⟨m, hm⟩ : ∃ m, c.marks[k]? = some m := ⟨_, List.getElem?_eq_getElem hk⟩
 have hm' : (tC c).marks[k]? = some (tM m) := by show (c.marks.map tM)[k]? = _; rw [List.getElem?_map, hm]; rfl
 have hv' : (checkX (tC c)).2.2 = 0 := by rw [check_rot]; exact hv
 have hp' : Pin 30000 (rotF p) := within_iff.1 (by rw [within_rot]; exact within_iff.2 hp)
 obtain ⟨e1, v1⟩ := seenE_of hv hd hm hp
 obtain ⟨e2, v2⟩ := seenE_of hv' hd hm' hp'
 have he : seenE (tC c) day k (rotF p) = seenE c day k p := by
  rw [e1, e2]
  show (if colB day (backN m.paints m.paints.length) = 0 then 9 else if sameP (rotF m.at') (rotF p) then 8 else 0) = _
  rw [sameP_rot]
 refine ⟨he, fun h0 => ?_, fun h0 => ?_, ?_⟩
 ·have hs : sameP m.at' p = false := by
   rw [e1] at h0
   split at h0
   ·cases h0
   ·split at h0
    ·cases h0
    ·rename_i h; simpa using h
  rw [v1, v2, he, if_pos h0, if_pos h0]
  show towF ((rotF m.at').sub (rotF p)) = _
  rw [sub_rot, towF_rot (same_NZ hs)]
 ·rw [v1, v2, he, if_neg h0, if_neg h0]
  exact ⟨rfl, rfl⟩
 ·rw [v1]
  split
  ·rename_i h0
   have hs : sameP m.at' p = false := by
    rw [e1] at h0
    split at h0
    ·cases h0
    ·split at h0
     ·cases h0
     ·rename_i h; simpa using h
   exact towF_in (same_NZ hs)
  ·omega
theorem neg_in {n : Int} (h : -1000000 ≤ n ∧ n ≤ 1000000) : negW n = -n := by
 unfold negW
 rw [wrap_i64 (by omega)]; omega
theorem turn_valid {c : Cht} (hR : ChtR c) : turnC c = tC c := by
 have e1 : ∀ m ∈ c.marks, markW' m = tM m := by
  intro m hm
  have h := (hR.mark m hm).1.x
  show ({ m with at' := ⟨m.at'.y, negW m.at'.x⟩ } : Mark) = { m with at' := ⟨m.at'.y, -m.at'.x⟩ }
  rw [neg_in (by omega)]
 have e2 : ∀ s ∈ c.sands, sandW' s = tS s := by
  intro s hs
  have hS := hR.sand s hs
  have hx := hS.x
  have h3 : s.corners.map rotW = s.corners.map rotF := by
   refine List.map_congr_left fun p hp => ?_
   have h := (hS.pin p hp).x
   show (⟨p.y, negW p.x⟩ : Pt) = ⟨p.y, -p.x⟩
   rw [neg_in (by omega)]
  show (⟨s.name, s.corners.map rotW, ⟨s.moves.y, ⟨negW s.moves.x.hi, negW s.moves.x.lo⟩⟩⟩ : Sand) = ⟨s.name, s.corners.map rotF, ⟨s.moves.y, ⟨-s.moves.x.hi, -s.moves.x.lo⟩⟩⟩
  rw [h3, neg_in (by omega), neg_in (by omega)]
 unfold turnC tC
 rw [List.map_congr_left e1, List.map_congr_left e2]
structure FromX where
 day : Int
 mark : Int
 a : Int
 b : Int
def FromX.cells (x : FromX) : List D := [.int .u16 x.day, .int .u8 x.mark, .int .i16 x.a, .int .i16 x.b]
def FromX.ok (x : FromX) : Prop := (0 ≤ x.day ∧ x.day ≤ 65535) ∧ (0 ≤ x.mark ∧ x.mark ≤ 255) ∧ (-32768 ≤ x.a ∧ x.a ≤ 32767) ∧ (-32768 ≤ x.b ∧ x.b ≤ 32767)
theorem far_in (n : Int) (h : -32768 ≤ n ∧ n ≤ 32767) : -30000 ≤ n.tmod 30001 ∧ n.tmod 30001 ≤ 30000 := by
 have h1 := Int.mul_tdiv_add_tmod n 30001
 rcases Int.lt_or_le n 0 with h2 | h2
 ·have h3 := Int.tmod_nonneg 30001 (show 0 ≤ -n by omega)
  have h4 := Int.tmod_lt_of_pos (-n) (b := 30001) (by omega)
  rw [Int.neg_tmod] at h3 h4
  omega
 ·have h3 := Int.tmod_nonneg 30001 h2
  have h4 := Int.tmod_lt_of_pos n (b := 30001) (by omega)
  omega
set_option maxHeartbeats 8000000 in
theorem ch11 (c : Cht) (hB : Big c) (x : FromX) (hx : x.ok) (y : List Int) (hy : U16 y) : FnV Tryz.prog 11 [c.d, .agg x.cells, wordsU y] (.bool true) := by
 refine fnV_of mixed tysOk Tryz.func11 rfl (ft := ft11) 3 (by decide +kernel) (by rfl) fun {σ} Y st => ?_
 conv=>whnf
 refine CallA_v (ds := [c.d]) (ch53 c hB) rfl rfl ?_
 conv=>whnf
 refine CallA_v (ch43 c) rfl rfl ?_
 conv=>whnf
 by_cases hv : (checkX c).2.2 = 0
 case neg =>
  refine brk_i (fun _ => ?_) (fun h => absurd h (by simp [valL, hv]))
  conv=>whnf
  refine DrawCall_v (ch42 _ _) rfl rfl ?_
  conv=>whnf
  refine DrawCall_v (ds := [c.d, Pt.d ⟨0, 0⟩]) (ch28 c ⟨0, 0⟩) rfl rfl ?_
  conv=>whnf
  have := open_bad hv ⟨0, 0⟩
  refine brk_i (fun _ => ?_) (fun h => absurd h (by simp [this]))
  conv=>whnf
  repeat' (first
   | (refine CallA_v (ch22) rfl rfl ?_; conv=>whnf)
   | (refine CallA_view (ch22) rfl 1 rfl ?_; conv=>whnf)
   | (refine DrawCall_v (ch22) rfl rfl ?_; conv=>whnf)
   | (refine DrawCall_view (ch22) rfl 1 rfl ?_; conv=>whnf)
   | (refine arith_in (wrap_i64 (by (try dsimp only); omega)) ?_; conv=>whnf)
   | (refine elemK_nat (by assumption) ?_; conv=>whnf)
   | (refine ownK_whole (by first | rfl | assumption | (simp [Els.len]; done) | (simp [Els.len]; omega)) ?_; conv=>whnf)
   | (refine chk_i (by first | (exact decide_eq_true (by (try simp only [List.length_map]); omega)) | (simp [Els.len, Els.cons, V.cells, Els.toV, injL]; done) | (simp [Els.len, Els.cons, V.cells, Els.toV, injL]; omega)) ?_; conv=>whnf)
   | fail)
  exact RetA_view 1 rfl ⟨⟨rfl, rfl⟩, rfl⟩
 have hR := checkX_ok hv
 rw [turn_valid hR]
 refine brk_i (fun h => absurd h (by simp [valL, hv])) (fun _ => ?_)
 conv=>whnf
 refine CallA_v (ds := [c.d, wordsU y]) (ch44 c hR y hy) rfl rfl ?_
 have hp := near_pin c y
 generalize nearP c y = p at hp ⊢
 have ho := valid_open hv hp
 have ho' : openX (tC c) (rotF p) = 0 := by rw [open_rot]; exact ho
 have hc3 : FnV Tryz.prog 28 [c.d, p.d] (.tup [i64 (radV c p), i64 0]) := FnV.cast (ch28 c p) (by rw [ho])
 have hc4 : FnV Tryz.prog 28 [(tC c).d, (rotF p).d] (.tup [i64 (radV c p), i64 0]) := FnV.cast (ch28 (tC c) (rotF p)) (by rw [ho', rad_rot])
 generalize radV c p = r at hc3 hc4
 have hp1 := hp.x
 have hml := hR.marks
 conv=>whnf
 refine CallA_v (ds := [c.d, p.d]) (fun {σ} => hc3) rfl rfl ?_
 conv=>whnf
 refine arith_to ((-p.x)) (by (try dsimp only); omega) (wrap_i64 (by (try dsimp only); omega)) ?_
 conv=>whnf
 refine DrawCall_v (ch42 p.y (-p.x)) rfl rfl ?_
 conv=>whnf
 refine DrawCall_v (ds := [(tC c).d, (rotF p).d]) (fun {σ} => hc4) rfl rfl ?_
 conv=>whnf
 refine brk_i (fun h => absurd h (by simp)) (fun _ => ?_)
 conv=>whnf
 refine brk_i (fun h0 => ?_) (fun h0 => ?_)
 ·conv=>whnf
  repeat' (first
   | (refine CallA_v (ch22) rfl rfl ?_; conv=>whnf)
   | (refine CallA_view (ch22) rfl 1 rfl ?_; conv=>whnf)
   | (refine DrawCall_v (ch22) rfl rfl ?_; conv=>whnf)
   | (refine DrawCall_view (ch22) rfl 1 rfl ?_; conv=>whnf)
   | (refine arith_in (wrap_i64 (by (try dsimp only); omega)) ?_; conv=>whnf)
   | (refine elemK_nat (by assumption) ?_; conv=>whnf)
   | (refine ownK_whole (by first | rfl | assumption | (simp [Els.len]; done) | (simp [Els.len]; omega)) ?_; conv=>whnf)
   | (refine chk_i (by first | (exact decide_eq_true (by (try simp only [List.length_map]); omega)) | (simp [Els.len, Els.cons, V.cells, Els.toV, injL]; done) | (simp [Els.len, Els.cons, V.cells, Els.toV, injL]; omega)) ?_; conv=>whnf)
   | fail)
  exact RetA_view 1 rfl ⟨⟨rfl, rfl⟩, rfl⟩
 have h0 : 0 < c.marks.length := by
  have := of_decide_eq_false h0
  simp at this
  exact List.length_pos_iff.2 this
 obtain ⟨x1, x2, x3, x4⟩ := hx
 have hd0 := Int.tmod_nonneg 40001 x1.1
 have hd1 := Int.tmod_lt_of_pos x.day (b := 40001) (by omega)
 have hk := Nat.mod_lt x.mark.toNat h0
 have hq : Pin 30000 ⟨x.a.tmod 30001, x.b.tmod 30001⟩ := ⟨far_in _ x3, far_in _ x4⟩
 conv=>whnf
 refine arith_in (wrap_i64 (by (try dsimp only); omega)) ?_
 conv=>whnf
 refine arith_in (wrap_i64 (by (try dsimp only); omega)) ?_
 conv=>whnf
 refine chk_i (decide_eq_true (by simp only [List.length_map]; omega)) ?_
 conv=>whnf
 rw [List.length_map, tmod_nat x2.1]
 refine arith_in (wrap_i64 (by (try dsimp only); omega)) ?_
 conv=>whnf
 refine arith_in (wrap_i64 (by (try dsimp only); omega)) ?_
 conv=>whnf
 refine CallA_v (ch42 _ _) rfl rfl ?_
 generalize x.day.tmod 40001 = day at hd0 hd1 ⊢
 generalize x.mark.toNat % c.marks.length = k at hk ⊢
 generalize x.a.tmod 30001 = qx at hq ⊢
 generalize x.b.tmod 30001 = qy at hq ⊢
 obtain ⟨s1, s2, s3, s4⟩ := seen_rot hv (show 0 ≤ day ∧ day ≤ 40000 by omega) hk hq
 have hc5 : FnV Tryz.prog 32 [c.d, i64 day, i64 k, Pt.d ⟨qx, qy⟩] (.tup [i64 (seenV c day k ⟨qx, qy⟩), i64 (seenE c day k ⟨qx, qy⟩)]) := ch32 c day k ⟨qx, qy⟩
 have hc6 : FnV Tryz.prog 32 [(tC c).d, i64 day, i64 k, (rotF ⟨qx, qy⟩).d] (.tup [i64 (seenV (tC c) day k (rotF ⟨qx, qy⟩)), i64 (seenE c day k ⟨qx, qy⟩)]) := FnV.cast (ch32 (tC c) day k (rotF ⟨qx, qy⟩)) (by rw [s1])
 generalize seenV (tC c) day k (rotF ⟨qx, qy⟩) = v2 at s2 s3 hc6
 generalize seenV c day k ⟨qx, qy⟩ = v1 at s2 s3 s4 hc5
 generalize seenE c day k ⟨qx, qy⟩ = e at s2 s3 hc5 hc6
 have hq1 : -30000 ≤ qx ∧ qx ≤ 30000 := hq.x
 conv=>whnf
 refine CallA_v (ds := [c.d, i64 day, i64 k, Pt.d ⟨qx, qy⟩]) (fun {σ} => hc5) rfl rfl ?_
 conv=>whnf
 refine arith_to ((-qx)) (by (try dsimp only); omega) (wrap_i64 (by (try dsimp only); omega)) ?_
 conv=>whnf
 refine DrawCall_v (ch42 qy (-qx)) rfl rfl ?_
 conv=>whnf
 refine DrawCall_v (ds := [(tC c).d, i64 day, i64 k, (rotF ⟨qx, qy⟩).d]) (fun {σ} => hc6) rfl rfl ?_
 conv=>whnf
 by_cases he : e = 0
 ·have s2 := s2 he
  subst s2
  refine brk_i (fun h => absurd h (by simp [he])) (fun _ => ?_)
  conv=>whnf
  refine brk_i (fun _ => ?_) (fun h => absurd h (by simp [he]))
  conv=>whnf
  refine arith_in (wrap_i64 (by (try dsimp only); omega)) ?_
  conv=>whnf
  have hm : (v1 + 8).tmod 32 = (v1 + 8) % 32 := Int.tmod_eq_emod_of_nonneg (by omega)
  rw [hm]
  refine brk_i (fun _ => ?_) (fun h => absurd h (by simp))
  conv=>whnf
  repeat' (first
   | (refine CallA_v (ch22) rfl rfl ?_; conv=>whnf)
   | (refine CallA_view (ch22) rfl 1 rfl ?_; conv=>whnf)
   | (refine DrawCall_v (ch22) rfl rfl ?_; conv=>whnf)
   | (refine DrawCall_view (ch22) rfl 1 rfl ?_; conv=>whnf)
   | (refine arith_in (wrap_i64 (by (try dsimp only); omega)) ?_; conv=>whnf)
   | (refine elemK_nat (by assumption) ?_; conv=>whnf)
   | (refine ownK_whole (by first | rfl | assumption | (simp [Els.len]; done) | (simp [Els.len]; omega)) ?_; conv=>whnf)
   | (refine chk_i (by first | (exact decide_eq_true (by (try simp only [List.length_map]); omega)) | (simp [Els.len, Els.cons, V.cells, Els.toV, injL]; done) | (simp [Els.len, Els.cons, V.cells, Els.toV, injL]; omega)) ?_; conv=>whnf)
   | fail)
  exact RetA_view 1 rfl ⟨⟨rfl, rfl⟩, rfl⟩
 ·obtain ⟨rfl, rfl⟩ := s3 he
  refine brk_i (fun _ => ?_) (fun h => absurd h (by simp [he]))
  conv=>whnf
  repeat' (refine brk_i (fun _ => ?_) (fun h => absurd h (by simp)); conv=>whnf)
  repeat' (first
   | (refine CallA_v (ch22) rfl rfl ?_; conv=>whnf)
   | (refine CallA_view (ch22) rfl 1 rfl ?_; conv=>whnf)
   | (refine DrawCall_v (ch22) rfl rfl ?_; conv=>whnf)
   | (refine DrawCall_view (ch22) rfl 1 rfl ?_; conv=>whnf)
   | (refine arith_in (wrap_i64 (by (try dsimp only); omega)) ?_; conv=>whnf)
   | (refine elemK_nat (by assumption) ?_; conv=>whnf)
   | (refine ownK_whole (by first | rfl | assumption | (simp [Els.len]; done) | (simp [Els.len]; omega)) ?_; conv=>whnf)
   | (refine chk_i (by first | (exact decide_eq_true (by (try simp only [List.length_map]); omega)) | (simp [Els.len, Els.cons, V.cells, Els.toV, injL]; done) | (simp [Els.len, Els.cons, V.cells, Els.toV, injL]; omega)) ?_; conv=>whnf)
   | fail)
  exact RetA_view 1 rfl ⟨⟨rfl, rfl⟩, rfl⟩
end Go.PX
namespace Go.PX
open Go.Proofs Go.RowKit Go.ChangeShapes
theorem c83 : Tryz.prog.cellsOf 83 = 1 := by kernel_rfl
theorem c84 : Tryz.prog.cellsOf 84 = 2 * 1 := by kernel_rfl
theorem c86 : Tryz.prog.cellsOf 86 = 4 := by kernel_rfl
theorem i16In {n : Int} (h : (Lit.int .i16 n).wf = true) : -32768 ≤ n ∧ n ≤ 32767 := by
 simp only [Lit.wf, Bool.and_eq_true, decide_eq_true_eq] at h
 exact h
theorem list_ofZ {α : Type} {f : α → List D} {Q : α → Prop} : ∀ {es : List (List D)}, (∀ e ∈ es, ∃ a, e = f a ∧ Q a) → ∃ l : List α, es = l.map f ∧ ∀ a ∈ l, Q a
 | [], _ => ⟨[], rfl, fun a h => by (cases h)⟩
 | e :: r, he => by
  obtain ⟨a, ha, hq⟩ := he e (by simp)
  obtain ⟨l, hl, hr⟩ := list_ofZ (es := r) fun x hx => he x (by simp [hx])
  refine ⟨a :: l, by rw [ha, hl]; rfl, fun x hx => ?_⟩
  rcases List.mem_cons.1 hx with rfl | hx
  ·exact hq
  ·exact hr x hx
section
variable (W : World)
theorem rdI16 : Rd Tryz.prog W 83 fun ds => ∃ n, ds = [.int .i16 n] ∧ -32768 ≤ n ∧ n ≤ 32767 := (Rd.intw Tryz.underlying83).mono fun ds ⟨n, h, w⟩ => ⟨n, h, i16In w⟩
theorem rdPlaceZ : RdZ Tryz.prog W 84 fun ds => ∃ a b : Int, ds = [.int .i16 a, .int .i16 b] ∧ (-32768 ≤ a ∧ a ≤ 32767) ∧ (-32768 ≤ b ∧ b ≤ 32767) :=
 (RdZ.array Tryz.underlying84 c84 c83 (Rd.z (rdI16 W))).mono fun ds h => by
  obtain ⟨dss, rfl, hl, hd⟩ := h
  match dss, hl with
  | [x, y], _ =>
   obtain ⟨a, rfl, ha⟩ := hd x (by simp)
   obtain ⟨b, rfl, hb⟩ := hd y (by simp)
   exact ⟨a, b, rfl, ha, hb⟩
theorem rdFromZ : RdZ Tryz.prog W 86 fun ds => ∃ x : FromX, ds = x.cells ∧ x.ok :=
 (RdZ.struct Tryz.underlying86 c86 (.cons rfl c82 (rdU16 W).z (.cons rfl c5 (rdU8 W).z (.cons rfl c84 (rdPlaceZ W) (.nil _))))).mono fun ds h => by
  obtain ⟨_, _, rfl, ⟨a, rfl, ha⟩, _, _, rfl, ⟨b, rfl, hb⟩, _, _, rfl, ⟨p, q, rfl, hp, hq⟩, rfl⟩ := h
  exact ⟨⟨a, b, p, q⟩, rfl, ha, hb, hp, hq⟩
theorem rdPtsZ : RdZ Tryz.prog W 68 fun ds => ∃ l : List Pt, ds = [ptsD l] ∧ l.length * 16 ≤ 140737488351232 :=
 (RdZ.slice Tryz.underlying68 c27 (by omega) (rdPt W).z).mono fun ds h => by
  obtain ⟨es, rfl, he, hz⟩ := h
  rw [show Tryz.prog.bytesOf 27 = 16 by kernel_rfl] at hz
  obtain ⟨l, rfl⟩ := list_of (f := Pt.cells) (fun _ h => h) he
  rw [List.length_map] at hz
  exact ⟨l, rfl, hz⟩
theorem rdSandZ : RdZ Tryz.prog W 70 fun ds => ∃ m : Sand, ds = m.cells ∧ m.corners.length * 16 ≤ 140737488351232 :=
 (RdZ.struct Tryz.underlying70 c70 (.cons rfl c9 (rdStr W).z (.cons rfl c68 (rdPtsZ W) (.cons rfl c48 (rdBox W).z (.nil _))))).mono fun ds h => by
  obtain ⟨_, _, rfl, ⟨a, rfl⟩, _, _, rfl, ⟨b, rfl, hb⟩, _, _, rfl, ⟨c, rfl⟩, rfl⟩ := h
  exact ⟨⟨a, b, c⟩, rfl, hb⟩
theorem rdMarksZ : RdZ Tryz.prog W 22 fun ds => ∃ l : List Mark, ds = [marksD l] ∧ l.length * 56 ≤ 140737488351232 :=
 (RdZ.slice Tryz.underlying22 c95 (by omega) (rdMark W).z).mono fun ds h => by
  obtain ⟨es, rfl, he, hz⟩ := h
  rw [show Tryz.prog.bytesOf 95 = 56 by kernel_rfl] at hz
  obtain ⟨l, rfl⟩ := list_of (f := Mark.cells) (fun _ h => h) he
  rw [List.length_map] at hz
  exact ⟨l, rfl, hz⟩
theorem rdSandsZ : RdZ Tryz.prog W 23 fun ds => ∃ l : List Sand, ds = [sandsD l] ∧ l.length * 72 ≤ 140737488351232 ∧ ∀ s ∈ l, s.corners.length * 16 ≤ 140737488351232 :=
 (RdZ.slice Tryz.underlying23 c70 (by omega) (rdSandZ W)).mono fun ds h => by
  obtain ⟨es, rfl, he, hz⟩ := h
  rw [show Tryz.prog.bytesOf 70 = 72 by kernel_rfl] at hz
  obtain ⟨l, rfl, hl⟩ := list_ofZ (f := Sand.cells) (fun e h => he e h)
  rw [List.length_map] at hz
  exact ⟨l, rfl, hz, hl⟩
theorem rdChtZ : RdZ Tryz.prog W 25 fun ds => ∃ c : Cht, ds = c.cells ∧ Big c :=
 (RdZ.struct Tryz.underlying25 c25 (.cons rfl c22 (rdMarksZ W) (.cons rfl c23 (rdSandsZ W) (.nil _)))).mono fun ds h => by
  obtain ⟨_, _, rfl, ⟨a, rfl, ha⟩, _, _, rfl, ⟨b, rfl, hb, hs⟩, rfl⟩ := h
  exact ⟨⟨a, b⟩, rfl, ha, hb, hs⟩
end
end Go.PX
