import Derived.Test.YtgpmlbbkfmkmkaaGreatDoorPxJ
set_option linter.all false
set_option maxRecDepth 10000
namespace Go.PX.PG
variable {α : Type}
structure Step (α : Type) where
 a : α
 b : α
 w : Int
def Pot (es : List (Step α)) (t : α → Int) : Prop := ∀ e ∈ es, t e.b ≤ t e.a + e.w
inductive Walk (es : List (Step α)) : α → α → Nat → Int → Prop
 | nil (a : α) : Walk es a a 0 0
 | snoc {a b : α} {n : Nat} {x : Int} (h : Walk es a b n x) (e : Step α) (he : e ∈ es) (hb : e.a = b) : Walk es a e.b (n + 1) (x + e.w)
theorem Walk.pot {es : List (Step α)} {t : α → Int} (ht : Pot es t) {a b : α} {n : Nat} {x : Int} (h : Walk es a b n x) : t b ≤ t a + x := by
 induction h with
 | nil => omega
 | snoc h e he hb ih =>
  have := ht e he
  rw [hb] at this
  omega
theorem Walk.trans {es : List (Step α)} {a b : α} {n : Nat} {x : Int} (h : Walk es a b n x) {c : α} {m : Nat} {y : Int} (k : Walk es b c m y) : Walk es a c (n + m) (x + y) := by
 induction k with
 | nil => simpa using h
 | snoc k e he hb ih =>
  have := Walk.snoc ih e he hb
  rw [Int.add_assoc] at this
  exact this
theorem Walk.one {es : List (Step α)} {e : Step α} (he : e ∈ es) : Walk es e.a e.b 1 e.w := by
 have := Walk.snoc (Walk.nil (es := es) e.a) e he rfl
 simpa using this
structure Dist (es : List (Step α)) (a : α) (l : α → Option Int) : Prop where
 walk : ∀ v x, l v = some x → ∃ n, Walk es a v n x
 fix : ∀ e ∈ es, ∀ x, l e.a = some x → ∃ y, l e.b = some y ∧ y ≤ x + e.w
 root : ∃ x, l a = some x ∧ x ≤ 0
inductive WL (es : List (Step α)) : List α → Int → Prop
 | one (a : α) : WL es [a] 0
 | snoc {b : α} {l : List α} {x : Int} (h : WL es (b :: l) x) (e : Step α) (he : e ∈ es) (hb : e.a = b) : WL es (e.b :: b :: l) (x + e.w)
theorem WL.split {es : List (Step α)} : ∀ (l1 : List α) {c : α} {l2 : List α} {x : Int}, WL es (l1 ++ c :: l2) x → ∃ x1 x2, WL es (c :: l2) x1 ∧ WL es (l1 ++ [c]) x2 ∧ x = x1 + x2
 | [], c, l2, x, h => ⟨x, 0, h, .one c, by omega⟩
 | d :: l1, c, l2, x, h => by
  cases hl : l1 ++ c :: l2 with
  | nil => simp at hl
  | cons b r =>
   rw [List.cons_append, hl] at h
   cases h with
   | snoc h e he hb =>
    rename_i y
    rw [← hl] at h
    obtain ⟨x1, x2, h1, h2, h3⟩ := WL.split l1 h
    refine ⟨x1, x2 + e.w, h1, ?_, by omega⟩
    cases l1 with
    | nil =>
     simp at hl
     obtain ⟨rfl, _⟩ := hl
     exact WL.snoc (l := []) h2 e he hb
    | cons b' r' =>
     simp at hl
     obtain ⟨rfl, _⟩ := hl
     exact WL.snoc (l := r' ++ [c]) h2 e he hb
theorem WL.join {es : List (Step α)} : ∀ (l1 : List α) {c : α} {l2 : List α} {x1 x2 : Int}, WL es (c :: l2) x1 → WL es (l1 ++ [c]) x2 → WL es (l1 ++ c :: l2) (x1 + x2)
 | [], c, l2, x1, x2, h1, h2 => by
  cases h2
  simpa using h1
 | d :: l1, c, l2, x1, x2, h1, h2 => by
  cases hl : l1 ++ [c] with
  | nil => simp at hl
  | cons b r =>
   rw [List.cons_append, hl] at h2
   cases h2 with
   | snoc h e he hb =>
    rename_i y
    rw [← hl] at h
    have h3 := WL.join l1 h1 h
    cases l1 with
    | nil =>
     simp at hl
     obtain ⟨rfl, _⟩ := hl
     have := WL.snoc (l := l2) h3 e he hb
     rw [Int.add_assoc] at this
     exact this
    | cons b' r' =>
     simp at hl
     obtain ⟨rfl, _⟩ := hl
     have := WL.snoc (l := r' ++ c :: l2) h3 e he hb
     rw [Int.add_assoc] at this
     exact this
theorem dup_of_long [DecidableEq α] : ∀ {l N : List α}, N.length < l.length → (∀ x ∈ l, x ∈ N) → ∃ l1 c l2 l3, l = l1 ++ c :: (l2 ++ c :: l3)
 | [], N, h, _ => absurd h (by simp)
 | a :: l, N, h, hs => by
  by_cases ha : a ∈ l
  ·obtain ⟨l2, l3, rfl⟩ := List.append_of_mem ha
   exact ⟨[], a, l2, l3, rfl⟩
  ·have h1 : (N.erase a).length < l.length := by
    have := List.length_erase_of_mem (hs a (by simp))
    simp at h
    have h0 : 0 < N.length := List.length_pos_of_mem (hs a (by simp))
    omega
   obtain ⟨l1, c, l2, l3, rfl⟩ := dup_of_long h1 (fun x hx => (List.mem_erase_of_ne (by rintro rfl; exact ha hx)).2 (hs x (by simp [hx])))
   exact ⟨a :: l1, c, l2, l3, rfl⟩
theorem WL.short [DecidableEq α] {es : List (Step α)} {N : List α} (hpos : ∀ c l x, WL es (c :: (l ++ [c])) x → 0 ≤ x) : ∀ (k : Nat) {l : List α} {x : Int}, l.length ≤ k → WL es l x → (∀ v ∈ l, v ∈ N) → ∃ l' x', WL es l' x' ∧ l'.length ≤ N.length ∧ x' ≤ x ∧ l'.head? = l.head? ∧ l'.getLast? = l.getLast? ∧ ∀ v ∈ l', v ∈ N
 | 0, [], x, _, h, _ => by cases h
 | k + 1, l, x, hk, h, hN => by
  by_cases hlen : l.length ≤ N.length
  ·exact ⟨l, x, h, hlen, Int.le_refl _, rfl, rfl, hN⟩
  ·obtain ⟨l1, c, l2, l3, rfl⟩ := dup_of_long (by omega) hN
   obtain ⟨x1, x2, h1, h2, h3⟩ := WL.split l1 h
   obtain ⟨y1, y2, h4, h5, h6⟩ := WL.split (c :: l2) (by simpa using h1)
   have h7 := hpos c l2 y2 (by simpa using h5)
   have h8 := WL.join l1 h4 h2
   obtain ⟨l', x', a1, a2, a3, a4, a5, a6⟩ := WL.short hpos k (l := l1 ++ c :: l3) (x := y1 + x2) (by simp at hk ⊢; omega) h8 (fun v hv => hN v (by
    rcases List.mem_append.1 hv with hv | hv
    ·simp [hv]
    ·rcases List.mem_cons.1 hv with rfl | hv
     ·simp
     ·simp [hv]))
   refine ⟨l', x', a1, a2, by omega, ?_, ?_, a6⟩
   ·rw [a4]
    cases l1 <;> simp
   ·rw [a5]
    simp [List.getLast?_append, List.getLast?_cons]
end Go.PX.PG
namespace Go.PX.PG
variable {α : Type} [DecidableEq α]
def upd (l : α → Option Int) (b : α) (x : Int) : α → Option Int := fun v => if v = b then some x else l v
def relax (l : α → Option Int) (e : Step α) : α → Option Int :=
 match l e.a with
 | none => l
 | some n => match l e.b with
  | none => upd l e.b (n + e.w)
  | some m => if n + e.w < m then upd l e.b (n + e.w) else l
def round (es : List (Step α)) (l : α → Option Int) : α → Option Int := es.foldl relax l
def rounds (es : List (Step α)) : Nat → (α → Option Int) → α → Option Int
 | 0, l => l
 | k + 1, l => rounds es k (round es l)
def Less (l' l : α → Option Int) : Prop := ∀ v x, l v = some x → ∃ y, l' v = some y ∧ y ≤ x
theorem Less.refl (l : α → Option Int) : Less l l := fun v x h => ⟨x, h, Int.le_refl _⟩
theorem Less.trans {a b c : α → Option Int} (h : Less a b) (k : Less b c) : Less a c := fun v x hx => by
 obtain ⟨y, h1, h2⟩ := k v x hx
 obtain ⟨z, h3, h4⟩ := h v y h1
 exact ⟨z, h3, by omega⟩
theorem relax_less (l : α → Option Int) (e : Step α) : Less (relax l e) l := by
 unfold relax
 split
 ·exact Less.refl l
 ·split
  ·intro v x hx
   rename_i h
   unfold upd
   split
   ·rename_i h2; subst h2; rw [hx] at h; cases h
   ·exact ⟨x, hx, Int.le_refl _⟩
  ·split
   ·intro v x hx
    rename_i m hm hlt
    unfold upd
    split
    ·rename_i h2; subst h2
     rw [hm] at hx; cases hx
     exact ⟨_, rfl, by omega⟩
    ·exact ⟨x, hx, Int.le_refl _⟩
   ·exact Less.refl l
theorem relax_le (l : α → Option Int) (e : Step α) {x : Int} (h : l e.a = some x) : ∃ y, relax l e e.b = some y ∧ y ≤ x + e.w := by
 unfold relax
 rw [h]
 simp only
 cases hm : l e.b with
 | none => exact ⟨_, by simp only [upd, if_pos], Int.le_refl _⟩
 | some m =>
  simp only
  split
  ·exact ⟨_, by simp only [upd, if_pos], Int.le_refl _⟩
  ·exact ⟨m, hm, by omega⟩
theorem fold_less : ∀ (es : List (Step α)) (l : α → Option Int), Less (es.foldl relax l) l
 | [], l => Less.refl l
 | e :: es, l => (fold_less es (relax l e)).trans (relax_less l e)
theorem fold_le : ∀ (es : List (Step α)) (l : α → Option Int) (e : Step α), e ∈ es → ∀ x, l e.a = some x → ∃ y, es.foldl relax l e.b = some y ∧ y ≤ x + e.w
 | d :: es, l, e, he, x, hx => by
  rw [List.foldl_cons]
  rcases List.mem_cons.1 he with rfl | he
  ·obtain ⟨y, h1, h2⟩ := relax_le l e hx
   obtain ⟨z, h3, h4⟩ := fold_less es (relax l e) _ _ h1
   exact ⟨z, h3, by omega⟩
  ·obtain ⟨y, h1, h2⟩ := relax_less l d _ _ hx
   obtain ⟨z, h3, h4⟩ := fold_le es (relax l d) e he y h1
   exact ⟨z, h3, by omega⟩
def Walks (es : List (Step α)) (a : α) (l : α → Option Int) : Prop := ∀ v x, l v = some x → ∃ n, Walk es a v n x
theorem relax_walks {es : List (Step α)} {a : α} {l : α → Option Int} (h : Walks es a l) {e : Step α} (he : e ∈ es) : Walks es a (relax l e) := by
 have key : ∀ n, l e.a = some n → Walks es a (upd l e.b (n + e.w)) := by
  intro n hn v x hx
  unfold upd at hx
  split at hx
  ·rename_i h2; subst h2
   cases hx
   obtain ⟨k, hw⟩ := h e.a n hn
   exact ⟨_, Walk.snoc hw e he rfl⟩
  ·exact h v x hx
 unfold relax
 split
 ·exact h
 ·rename_i n hn
  split
  ·exact key n hn
  ·split
   ·exact key n hn
   ·exact h
theorem fold_walks {es : List (Step α)} {a : α} : ∀ (ds : List (Step α)) {l : α → Option Int}, (∀ e ∈ ds, e ∈ es) → Walks es a l → Walks es a (ds.foldl relax l)
 | [], l, _, h => h
 | d :: ds, l, hd, h => fold_walks ds (fun e he => hd e (by simp [he])) (relax_walks h (hd d (by simp)))
theorem rounds_walks {es : List (Step α)} {a : α} : ∀ (k : Nat) {l : α → Option Int}, Walks es a l → Walks es a (rounds es k l)
 | 0, l, h => h
 | k + 1, l, h => rounds_walks k (fold_walks es (fun e he => he) h)
theorem rounds_less {es : List (Step α)} : ∀ (k : Nat) (l : α → Option Int), Less (rounds es k l) l
 | 0, l => Less.refl l
 | k + 1, l => (rounds_less k (round es l)).trans (fold_less es l)
theorem rounds_succ (es : List (Step α)) : ∀ (k : Nat) (l : α → Option Int), rounds es (k + 1) l = round es (rounds es k l)
 | 0, l => rfl
 | k + 1, l => by rw [rounds, rounds_succ es k (round es l)]; rfl
theorem rounds_le {es : List (Step α)} {a : α} {l : α → Option Int} (h0 : ∃ x, l a = some x ∧ x ≤ 0) {v : α} {n : Nat} {x : Int} (hw : Walk es a v n x) : ∀ k, n ≤ k → ∃ y, rounds es k l v = some y ∧ y ≤ x := by
 induction hw with
 | nil =>
  intro k _
  obtain ⟨x, h1, h2⟩ := h0
  obtain ⟨y, h3, h4⟩ := rounds_less (es := es) k l a x h1
  exact ⟨y, h3, by omega⟩
 | snoc h e he hb ih =>
  intro k hk
  obtain ⟨k, rfl⟩ : ∃ j, k = j + 1 := ⟨k - 1, by omega⟩
  obtain ⟨y, h1, h2⟩ := ih k (by omega)
  rw [rounds_succ]
  rw [← hb] at h1
  obtain ⟨z, h3, h4⟩ := fold_le es _ e he y h1
  exact ⟨z, h3, by omega⟩
def NoNeg (es : List (Step α)) : Prop := ∀ c n x, Walk es c c n x → 0 ≤ x
theorem pot_noNeg {es : List (Step α)} {t : α → Int} (h : Pot es t) : NoNeg es := fun c n x hw => by
 have := hw.pot h
 omega
theorem WL.walk {es : List (Step α)} : ∀ {l : List α} {b a : α} {x : Int}, WL es (b :: l) x → (b :: l).getLast? = some a → Walk es a b l.length x := by
 intro l b a x h
 generalize hl : b :: l = m at h
 induction h generalizing b l with
 | one c =>
  intro ha
  cases hl
  simp at ha
  subst ha
  exact .nil _
 | snoc h e he hb ih =>
  rename_i b' l' x'
  intro ha
  cases hl
  have h1 := ih rfl (by simpa [List.getLast?_cons] using ha)
  exact Walk.snoc h1 e he hb
theorem Walk.wl {es : List (Step α)} {N : List α} (hN : ∀ e ∈ es, e.a ∈ N ∧ e.b ∈ N) {a b : α} (ha : a ∈ N) {n : Nat} {x : Int} (h : Walk es a b n x) : ∃ l, l.length = n ∧ WL es (b :: l) x ∧ (b :: l).getLast? = some a ∧ ∀ v ∈ b :: l, v ∈ N := by
 induction h with
 | nil => exact ⟨[], rfl, .one _, rfl, by simpa using ha⟩
 | snoc h e he hb ih =>
  rename_i b' n' x'
  obtain ⟨l, h1, h2, h3, h4⟩ := ih
  refine ⟨b' :: l, by simp [h1], WL.snoc h2 e he hb, by simpa [List.getLast?_cons] using h3, fun v hv => ?_⟩
  rcases List.mem_cons.1 hv with rfl | hv
  ·exact (hN e he).2
  ·exact h4 v hv
theorem Walk.short {es : List (Step α)} {N : List α} (hN : ∀ e ∈ es, e.a ∈ N ∧ e.b ∈ N) (hno : NoNeg es) {a b : α} (ha : a ∈ N) {n : Nat} {x : Int} (h : Walk es a b n x) : ∃ m y, m < N.length ∧ y ≤ x ∧ Walk es a b m y := by
 obtain ⟨l, h1, h2, h3, h4⟩ := h.wl hN ha
 have hpos : ∀ c l x, WL es (c :: (l ++ [c])) x → 0 ≤ x := fun c l x h => hno c _ x (h.walk (by simp [List.getLast?_cons, List.getLast?_append]))
 obtain ⟨l', y, a1, a2, a3, a4, a5, a6⟩ := WL.short hpos (b :: l).length (Nat.le_refl _) h2 h4
 cases l' with
 | nil => cases a1
 | cons b' l' =>
  simp at a4
  subst a4
  refine ⟨l'.length, y, by simp at a2; omega, a3, a1.walk (by rw [a5]; exact h3)⟩
theorem rounds_dist {es : List (Step α)} {N : List α} (hN : ∀ e ∈ es, e.a ∈ N ∧ e.b ∈ N) (hno : NoNeg es) {a : α} (ha : a ∈ N) {k : Nat} (hk : N.length ≤ k + 1) : Dist es a (rounds es k fun v => if v = a then some 0 else none) := by
 have h0 : ∃ x, (fun v => if v = a then some (0 : Int) else none) a = some x ∧ x ≤ 0 := ⟨0, by simp, Int.le_refl _⟩
 have hw : Walks es a (rounds es k fun v => if v = a then some 0 else none) := rounds_walks k (by
  intro v x hx
  simp only at hx
  split at hx
  ·rename_i h; subst h; cases hx; exact ⟨0, .nil _⟩
  ·cases hx)
 refine ⟨hw, fun e he x hx => ?_, ?_⟩
 ·obtain ⟨n, h1⟩ := hw e.a x hx
  obtain ⟨m, y, h2, h3, h4⟩ := (Walk.snoc h1 e he rfl).short hN hno ha
  have h7 := rounds_le (es := es) (a := a) (l := fun v => if v = a then some 0 else none) h0 h4 k
  obtain ⟨z, h5, h6⟩ := h7 (by omega)
  exact ⟨z, h5, by omega⟩
 ·have h7 := rounds_le (es := es) (a := a) (l := fun v => if v = a then some 0 else none) h0 (.nil a) k
  exact h7 (by omega)
end Go.PX.PG
namespace Go.PX.PG
def viaF (never x y z : Int) : Int := if x < never ∧ y < never then min z (x + y) else z
abbrev Tb := Nat → Nat → Int
def updT (t : Tb) (i j : Nat) (x : Int) : Tb := fun a b => if a = i ∧ b = j then x else t a b
def stepT (never : Int) (t : Tb) (i k j : Nat) : Tb := updT t i j (viaF never (t i k) (t k j) (t i j))
def rowT (never : Int) (n : Nat) (t : Tb) (i k : Nat) : Tb := (List.range n).foldl (fun t j => stepT never t i k j) t
end Go.PX.PG
namespace Go.PX.PG
end Go.PX.PG
namespace Go.PX
open Go.Proofs
structure PEnt where
 shown : Int
 kind : Int
 word : ByteArray
 number : Int
def PEnt.cells (x : PEnt) : List D := [i64 x.shown, i64 x.kind, .str x.word, i64 x.number]
def PEnt.d (x : PEnt) : D := .agg x.cells
structure PBook where
 name : ByteArray
 off : Span
 set : Span
 ents : List PEnt
def entsD (l : List PEnt) : D := .vs (l.map PEnt.cells)
def PBook.cells (b : PBook) : List D := .str b.name :: (b.off.cells ++ b.set.cells ++ [entsD b.ents])
structure PLog where
 near : Int
 books : List PBook
def booksD (l : List PBook) : D := .vs (l.map PBook.cells)
def PLog.cells (l : PLog) : List D := [i64 l.near, booksD l.books]
def PLog.d (l : PLog) : D := .agg l.cells
structure PAt where
 book : Int
 entry : Int
 deriving DecidableEq
def PAt.cells (x : PAt) : List D := [i64 x.book, i64 x.entry]
def PAt.d (x : PAt) : D := .agg x.cells
structure Per where
 book : Int
 n : Int
 deriving DecidableEq
def Per.cells (x : Per) : List D := [i64 x.book, i64 x.n]
def Per.d (x : Per) : D := .agg x.cells
abbrev Per.right : Per := ⟨-1, 0⟩
abbrev PStep := PG.Step Per
def stepC (s : PStep) : List D := s.a.cells ++ s.b.cells ++ [i64 s.w]
section
variable {κ ν : Type} [DecidableEq κ]
def getV : List (κ × ν) → κ → Option ν
 | [], _ => none
 | (u, x) :: r, t => if t = u then some x else getV r t
def putV : List (κ × ν) → κ → ν → List (κ × ν)
 | [], t, v => [(t, v)]
 | (u, x) :: r, t, v => if t = u then (t, v) :: r else (u, x) :: putV r t v
end
structure LkE where
 steps : List PStep
 many : Int
 first : List (Int × PAt)
 now : Per
 of : List Per
 mine : List (Int × Int)
def spanS (wider : Int) (p : Per) (s : Span) : List PStep := [⟨.right, p, s.hi + wider⟩, ⟨p, .right, wider - s.lo⟩]
def perAt (pers : List (List Per)) (x : PAt) : Per := (((pers[x.book.toNat]?).getD [])[x.entry.toNat]?).getD .right
def entAt (l : PLog) (x : PAt) : PEnt := ((((l.books[x.book.toNat]?).map (·.ents)).getD [])[x.entry.toNat]?).getD ⟨0, 0, .empty, 0⟩
def entS (l : PLog) (wider : Int) (conf : List Int) (i : Nat) (b : PBook) (pers : List (List Per)) (k : Nat) (y : PEnt) (s : LkE) : LkE :=
 let of := s.of ++ [s.now]
 let st := if k = 0 then s.steps else s.steps ++ [⟨(of[k - 1]?).getD .right, s.now, y.shown - ((b.ents[k - 1]?).getD ⟨0, 0, .empty, 0⟩).shown⟩]
 if y.kind = 2 then
  let now : Per := ⟨s.now.book, s.now.n + 1⟩
  { s with of := of, now := now, steps := st ++ spanS wider now b.set, many := s.many + 1 }
 else if y.kind = 3 then
  let n := (getV s.mine y.number).getD 0 + 1
  let mine := putV s.mine y.number n
  if n > 1 ∨ y.number ∈ conf then { s with of := of, steps := st, mine := mine }
  else match getV s.first y.number with
   | none => { s with of := of, steps := st, mine := mine, first := putV s.first y.number ⟨i, k⟩ }
   | some at' =>
    let more := y.shown - (entAt l at').shown
    let p := perAt pers at'
    { s with of := of, mine := mine, steps := st ++ [⟨p, s.now, more⟩, ⟨s.now, p, -more⟩] }
 else { s with of := of, steps := st }
def entsS (l : PLog) (wider : Int) (conf : List Int) (i : Nat) (b : PBook) (pers : List (List Per)) : Nat → List PEnt → LkE → LkE
 | _, [], s => s
 | k, y :: r, s => entsS l wider conf i b pers (k + 1) r (entS l wider conf i b pers k y s)
structure LkS where
 steps : List PStep
 many : Int
 first : List (Int × PAt)
 pers : List (List Per)
def bookS (l : PLog) (wider : Int) (conf : List Int) (i : Nat) (b : PBook) (s : LkS) : LkS :=
 let e := entsS l wider conf i b s.pers 0 b.ents ⟨s.steps ++ spanS wider ⟨i, 0⟩ b.off, s.many + 1, s.first, ⟨i, 0⟩, [], []⟩
 ⟨e.steps, e.many, e.first, s.pers ++ [e.of]⟩
def lookS (l : PLog) (wider : Int) (conf : List Int) : Nat → List PBook → LkS → LkS
 | _, [], s => s
 | i, b :: r, s => lookS l wider conf (i + 1) r (bookS l wider conf i b s)
def lookF (l : PLog) (wider : Int) (conf : List Int) : LkS := lookS l wider conf 0 l.books ⟨[], 0, [], []⟩
abbrev PM := List (Per × Int)
def tryS (x : PM × Bool) (s : PStep) : PM × Bool := match getV x.1 s.a with
 | none => x
 | some n => match getV x.1 s.b with
  | none => (putV x.1 s.b (n + s.w), true)
  | some m => if n + s.w < m then (putV x.1 s.b (n + s.w), true) else x
def roundM (steps : List PStep) (m : PM) : PM × Bool := steps.foldl tryS (m, false)
def roundsM (steps : List PStep) : Nat → PM → PM
 | 0, m => m
 | k + 1, m => if (roundM steps m).2 then roundsM steps k (roundM steps m).1 else (roundM steps m).1
def farM (x : LkS) (p : Per) : PM := roundsM x.steps (x.many + 2).toNat [(p, 0)]
def atM (m : PM) (p : Per) : Int := (getV m p).getD 0
def fitM (x : LkS) (m : PM) : Bool := x.steps.all fun s => decide (atM m s.b ≤ atM m s.a + s.w)
end Go.PX
namespace Go.PX
open Go.Proofs
section
variable {κ ν : Type} [DecidableEq κ]
theorem getV_put (m : List (κ × ν)) (t u : κ) (y : ν) : getV (putV m t y) u = if u = t then some y else getV m u := by
 induction m with
 | nil => rfl
 | cons p r ih =>
  obtain ⟨w, x⟩ := p
  rw [putV]
  split
  ·rename_i h
   subst h
   rw [getV, getV]
   by_cases hu : u = t
   ·rw [if_pos hu, if_pos hu]
   ·rw [if_neg hu, if_neg hu, if_neg hu]
  ·rename_i h
   rw [getV, getV, ih]
   by_cases hu : u = w
   ·subst hu
    rw [if_pos rfl, if_pos rfl, if_neg (fun e => h e.symm)]
   ·rw [if_neg hu, if_neg hu]
end
theorem try_relax (x : PM × Bool) (s : PStep) : (fun p => getV (tryS x s).1 p) = PG.relax (fun p => getV x.1 p) s := by
 unfold tryS PG.relax
 cases h1 : getV x.1 s.a with
 | none =>
  simp only [h1]
 | some n =>
  simp only [h1]
  cases h2 : getV x.1 s.b with
  | none =>
   simp only [h2]
   funext p
   exact getV_put ..
  | some m =>
   simp only [h2]
   split
   ·funext p
    exact getV_put ..
   ·rfl
theorem try_same {x : PM × Bool} {s : PStep} (h : (tryS x s).2 = false) : tryS x s = x := by
 unfold tryS at h ⊢
 split
 ·rfl
 ·rename_i n h1
  rw [h1] at h
  simp only at h
  split
  ·rename_i h2
   rw [h2] at h; cases h
  ·rename_i m h2
   rw [h2] at h
   simp only at h
   split
   ·rename_i h3
    rw [if_pos h3] at h; cases h
   ·rfl
theorem try_mono {x : PM × Bool} {s : PStep} (h : x.2 = true) : (tryS x s).2 = true := by
 unfold tryS
 split
 ·exact h
 ·split
  ·rfl
  ·split
   ·rfl
   ·exact h
theorem fold_mono : ∀ (l : List PStep) {x : PM × Bool}, x.2 = true → (l.foldl tryS x).2 = true
 | [], x, h => h
 | s :: r, x, h => fold_mono r (try_mono h)
theorem fold_same : ∀ (l : List PStep) {x : PM × Bool}, (l.foldl tryS x).2 = false → l.foldl tryS x = x
 | [], x, _ => rfl
 | s :: r, x, h => by
  have h1 : (tryS x s).2 = false := by
   cases hb : (tryS x s).2 with
   | false => rfl
   | true => rw [List.foldl_cons, fold_mono r hb] at h; cases h
  rw [List.foldl_cons, try_same h1] at h ⊢
  exact fold_same r h
theorem fold_relax : ∀ (l : List PStep) (x : PM × Bool), (fun p => getV (l.foldl tryS x).1 p) = l.foldl PG.relax (fun p => getV x.1 p)
 | [], x => rfl
 | s :: r, x => by
  rw [List.foldl_cons, List.foldl_cons, ← try_relax]
  exact fold_relax r _
theorem rounds_fix {es : List PStep} {l : Per → Option Int} (h : PG.round es l = l) : ∀ k, PG.rounds es k l = l
 | 0 => rfl
 | k + 1 => by rw [PG.rounds, h]; exact rounds_fix h k
theorem rounds_eq (es : List PStep) : ∀ (k : Nat) (m : PM), (fun p => getV (roundsM es k m) p) = PG.rounds es k fun p => getV m p
 | 0, m => rfl
 | k + 1, m => by
  rw [roundsM, PG.rounds]
  have h1 : (fun p => getV (roundM es m).1 p) = PG.round es fun p => getV m p := fold_relax es (m, false)
  split
  ·rw [rounds_eq es k, h1]
  ·rename_i h
   have h2 : roundM es m = (m, false) := fold_same es (x := (m, false)) (by
    cases hb : (es.foldl tryS (m, false)).2 with
    | false => rfl
    | true => exact absurd hb h)
   rw [h2] at h1 ⊢
   have h3 : PG.round es (fun p => getV m p) = fun p => getV m p := h1.symm
   rw [h3, rounds_fix h3]
structure StarOk (x : LkS) (N : List Per) : Prop where
 ends : ∀ e ∈ x.steps, e.a ∈ N ∧ e.b ∈ N
 right : Per.right ∈ N
 len : (N.length : Int) ≤ x.many + 1
 to' : ∀ p ∈ N, p ≠ .right → ∃ e ∈ x.steps, e.a = .right ∧ e.b = p
 back : ∀ p ∈ N, p ≠ .right → ∃ e ∈ x.steps, e.a = p ∧ e.b = .right
theorem StarOk.reach {x : LkS} {N : List Per} (h : StarOk x N) {p q : Per} (hp : p ∈ N) (hq : q ∈ N) : ∃ n w, n ≤ 2 ∧ PG.Walk x.steps p q n w := by
 have h1 : ∃ n w, n ≤ 1 ∧ PG.Walk x.steps p .right n w := by
  by_cases hpr : p = .right
  ·subst hpr; exact ⟨0, 0, by omega, .nil _⟩
  ·obtain ⟨e, he, rfl, hb⟩ := h.back p hp hpr
   exact ⟨1, e.w, by omega, hb ▸ PG.Walk.one he⟩
 have h2 : ∃ n w, n ≤ 1 ∧ PG.Walk x.steps .right q n w := by
  by_cases hqr : q = .right
  ·subst hqr; exact ⟨0, 0, by omega, .nil _⟩
  ·obtain ⟨e, he, ha, rfl⟩ := h.to' q hq hqr
   exact ⟨1, e.w, by omega, ha ▸ PG.Walk.one he⟩
 obtain ⟨n, w, hn, hw⟩ := h1
 obtain ⟨m, v, hm, hv⟩ := h2
 exact ⟨n + m, w + v, by omega, hw.trans hv⟩
theorem StarOk.known {x : LkS} {N : List Per} (h : StarOk x N) {p q : Per} (hp : p ∈ N) (hq : q ∈ N) : ∃ v, getV (farM x p) q = some v := by
 obtain ⟨n, w, hn, hw⟩ := h.reach hp hq
 have hm : 2 ≤ (x.many + 2).toNat := by have := h.len; have := List.length_pos_of_mem h.right; omega
 obtain ⟨y, hy, _⟩ := PG.rounds_le (es := x.steps) (a := p) (l := fun q => getV [(p, (0 : Int))] q) ⟨0, by simp [getV], Int.le_refl _⟩ hw (x.many + 2).toNat (by omega)
 have e := congrFun (rounds_eq x.steps (x.many + 2).toNat [(p, 0)]) q
 exact ⟨y, by unfold farM; rw [e]; exact hy⟩
theorem start_eq (p : Per) : (fun q => getV [(p, (0 : Int))] q) = fun v => if v = p then some 0 else none := by
 funext q
 rw [getV, getV]
theorem StarOk.dist {x : LkS} {N : List Per} (h : StarOk x N) (hno : PG.NoNeg x.steps) {p : Per} (hp : p ∈ N) : PG.Dist x.steps p fun q => getV (farM x p) q := by
 unfold farM
 rw [rounds_eq, start_eq]
 exact PG.rounds_dist h.ends hno hp (by have := h.len; omega)
theorem StarOk.fit {x : LkS} {N : List Per} (h : StarOk x N) {p : Per} (hp : p ∈ N) : fitM x (farM x p) = true ↔ PG.NoNeg x.steps := by
 unfold fitM
 rw [List.all_eq_true]
 constructor
 ·intro hf
  refine PG.pot_noNeg (t := fun q => atM (farM x p) q) fun e he => ?_
  exact of_decide_eq_true (hf e he)
 ·intro hno e he
  have hd := h.dist hno hp
  obtain ⟨v, hv⟩ := h.known hp (h.ends e he).1
  obtain ⟨y, hy, hle⟩ := hd.fix e he v hv
  refine decide_eq_true ?_
  unfold atM
  rw [hv, hy]
  exact hle
end Go.PX
namespace Go.PX
open Go.Proofs
def setsN (l : List PEnt) : Nat := (l.filter fun y => decide (y.kind = 2)).length
theorem setsN_cons (y : PEnt) (r : List PEnt) : setsN (y :: r) = (if y.kind = 2 then 1 else 0) + setsN r := by
 unfold setsN
 rw [List.filter_cons]
 by_cases h : y.kind = 2
 ·rw [if_pos (by simpa using h), if_pos h, List.length_cons]; omega
 ·rw [if_neg (by simpa using h), if_neg h]; omega
def bookN (i : Nat) (b : PBook) : List Per := (List.range (setsN b.ents + 1)).map fun (n : Nat) => ⟨i, n⟩
def nodesF : Nat → List PBook → List Per
 | _, [] => []
 | i, b :: r => bookN i b ++ nodesF (i + 1) r
def nodesL (l : PLog) : List Per := .right :: nodesF 0 l.books
def Starred (steps : List PStep) (p : Per) : Prop := (∃ e ∈ steps, e.a = .right ∧ e.b = p) ∧ ∃ e ∈ steps, e.a = p ∧ e.b = .right
theorem Starred.mono {st st' : List PStep} (h : ∀ e ∈ st, e ∈ st') {p : Per} : Starred st p → Starred st' p
 | ⟨⟨e, he, ha⟩, f, hf, hb⟩ => ⟨⟨e, h e he, ha⟩, f, h f hf, hb⟩
theorem starred_span (wider : Int) (p : Per) (s : Span) : Starred (spanS wider p s) p :=
 ⟨⟨_, List.mem_cons_self .., rfl, rfl⟩, ⟨p, .right, wider - s.lo⟩, by simp [spanS], rfl, rfl⟩
structure EntOk (N : List Per) (i : Nat) (c : Nat) (many : Int) (base : List PStep) (s : LkE) : Prop where
 now : s.now = ⟨i, c⟩
 many : s.many = many + c
 ends : ∀ e ∈ s.steps, e.a ∈ N ∧ e.b ∈ N
 of : ∀ p ∈ s.of, p ∈ N
 sub : ∀ e ∈ base, e ∈ s.steps
 star : ∀ n : Nat, n ≤ c → Starred s.steps ⟨i, n⟩
theorem getD_mem {α : Type} {N : List α} {d : α} (hd : d ∈ N) {l : List α} (hl : ∀ p ∈ l, p ∈ N) (k : Nat) : (l[k]?).getD d ∈ N := by
 cases h : l[k]? with
 | none => exact hd
 | some p => exact hl p (List.mem_of_getElem? h)
theorem perAt_mem {N : List Per} (hr : Per.right ∈ N) {pers : List (List Per)} (hp : ∀ l ∈ pers, ∀ p ∈ l, p ∈ N) (x : PAt) : perAt pers x ∈ N := by
 unfold perAt
 refine getD_mem hr (fun p hpm => ?_) _
 cases h : pers[x.book.toNat]? with
 | none => rw [h] at hpm; cases hpm
 | some l => rw [h] at hpm; exact hp l (List.mem_of_getElem? h) p hpm
theorem entS_ok {N : List Per} (hr : Per.right ∈ N) {l : PLog} {wider : Int} {conf : List Int} {i : Nat} {b : PBook} {pers : List (List Per)} (hp : ∀ l ∈ pers, ∀ p ∈ l, p ∈ N) {c : Nat} {many : Int} {base : List PStep} {k : Nat} {y : PEnt} {s : LkE} (h : EntOk N i c many base s) (hc : (⟨i, c⟩ : Per) ∈ N) (hc1 : y.kind = 2 → (⟨i, (c + 1 : Nat)⟩ : Per) ∈ N) :
  EntOk N i (c + if y.kind = 2 then 1 else 0) many base (entS l wider conf i b pers k y s) := by
 have hnow : s.now ∈ N := by rw [h.now]; exact hc
 have hof : ∀ p ∈ s.of ++ [s.now], p ∈ N := fun p hpm => by
  rcases List.mem_append.1 hpm with hpm | hpm
  ·exact h.of p hpm
  ·rw [List.mem_singleton] at hpm; rw [hpm]; exact hnow
 generalize hst : (if k = 0 then s.steps else s.steps ++ [(⟨((s.of ++ [s.now])[k - 1]?).getD .right, s.now, y.shown - ((b.ents[k - 1]?).getD ⟨0, 0, .empty, 0⟩).shown⟩ : PStep)]) = st
 have hsub : ∀ e ∈ s.steps, e ∈ st := fun e he => by
  rw [← hst]
  split
  ·exact he
  ·simp [he]
 have hend : ∀ e ∈ st, e.a ∈ N ∧ e.b ∈ N := fun e he => by
  rw [← hst] at he
  split at he
  ·exact h.ends e he
  ·rcases List.mem_append.1 he with he | he
   ·exact h.ends e he
   ·rw [List.mem_singleton] at he
    rw [he]
    exact ⟨getD_mem hr hof _, hnow⟩
 unfold entS
 simp only [hst]
 by_cases h2 : y.kind = 2
 ·rw [if_pos h2, if_pos h2]
  have hn1 := hc1 h2
  have hnw : (⟨s.now.book, s.now.n + 1⟩ : Per) = ⟨i, (c + 1 : Nat)⟩ := by rw [h.now]; simp
  refine ⟨hnw, by simp only; rw [h.many]; omega, fun e he => ?_, hof, fun e he => List.mem_append_left _ (hsub e (h.sub e he)), fun n hn => ?_⟩
  ·rcases List.mem_append.1 he with he | he
   ·exact hend e he
   ·unfold spanS at he
    rw [hnw] at he
    simp only [List.mem_cons, List.not_mem_nil, or_false] at he
    rcases he with rfl | rfl
    ·exact ⟨hr, hn1⟩
    ·exact ⟨hn1, hr⟩
  ·by_cases hnc : n ≤ c
   ·exact (h.star n hnc).mono fun e he => List.mem_append_left _ (hsub e he)
   ·have : n = c + 1 := by omega
    subst this
    refine Starred.mono (fun e he => List.mem_append_right _ he) ?_
    rw [hnw]
    exact starred_span ..
 ·rw [if_neg h2, if_neg h2, Nat.add_zero]
  have keep : ∀ (st' : List PStep) (mine : List (Int × Int)) (first : List (Int × PAt)), (∀ e ∈ st, e ∈ st') → (∀ e ∈ st', e.a ∈ N ∧ e.b ∈ N) → EntOk N i c many base { s with of := s.of ++ [s.now], steps := st', mine := mine, first := first } := fun st' mine first h1 h3 =>
   ⟨h.now, h.many, h3, hof, fun e he => h1 e (hsub e (h.sub e he)), fun n hn => (h.star n hn).mono fun e he => h1 e (hsub e he)⟩
  by_cases h3 : y.kind = 3
  ·rw [if_pos h3]
   split
   ·exact keep st _ _ (fun e he => he) hend
   ·split
    ·exact keep st _ _ (fun e he => he) hend
    ·refine keep _ _ _ (fun e he => List.mem_append_left _ he) fun e he => ?_
     rcases List.mem_append.1 he with he | he
     ·exact hend e he
     ·simp only [List.mem_cons, List.not_mem_nil, or_false] at he
      rcases he with rfl | rfl
      ·exact ⟨perAt_mem hr hp _, hnow⟩
      ·exact ⟨hnow, perAt_mem hr hp _⟩
  ·rw [if_neg h3]
   exact keep st _ _ (fun e he => he) hend
theorem entsS_ok {N : List Per} (hr : Per.right ∈ N) {l : PLog} {wider : Int} {conf : List Int} {i : Nat} {b : PBook} {pers : List (List Per)} (hp : ∀ l ∈ pers, ∀ p ∈ l, p ∈ N) {many : Int} {base : List PStep} : ∀ (r : List PEnt) {c k : Nat} {s : LkE}, EntOk N i c many base s → (∀ n : Nat, n ≤ c + setsN r → (⟨i, n⟩ : Per) ∈ N) →
  EntOk N i (c + setsN r) many base (entsS l wider conf i b pers k r s)
 | [], c, k, s, h, _ => h
 | y :: r, c, k, s, h, hN => by
  rw [setsN_cons] at hN ⊢
  rw [entsS, ← Nat.add_assoc]
  refine entsS_ok hr hp r (entS_ok hr hp h (hN c (by omega)) fun h2 => hN (c + 1) (by rw [if_pos h2]; omega)) fun n hn => hN n (by omega)
structure LookOk (N : List Per) (done : List Per) (s : LkS) : Prop where
 ends : ∀ e ∈ s.steps, e.a ∈ N ∧ e.b ∈ N
 pers : ∀ l ∈ s.pers, ∀ p ∈ l, p ∈ N
 many : s.many = done.length
 star : ∀ p ∈ done, Starred s.steps p
theorem bookS_ok {N done : List Per} (hr : Per.right ∈ N) {l : PLog} {wider : Int} {conf : List Int} {i : Nat} {b : PBook} {s : LkS} (h : LookOk N done s) (hN : ∀ p ∈ bookN i b, p ∈ N) : LookOk N (done ++ bookN i b) (bookS l wider conf i b s) := by
 have hin : ∀ n : Nat, n ≤ setsN b.ents → (⟨i, n⟩ : Per) ∈ N := fun n hn => hN _ (List.mem_map.2 ⟨n, List.mem_range.2 (by omega), rfl⟩)
 have h0 : EntOk N i 0 (s.many + 1) s.steps ⟨s.steps ++ spanS wider ⟨i, 0⟩ b.off, s.many + 1, s.first, ⟨i, 0⟩, [], []⟩ := by
  refine ⟨rfl, by simp, fun e he => ?_, fun p hp => by simp at hp, fun e he => List.mem_append_left _ he, fun n hn => ?_⟩
  ·rcases List.mem_append.1 he with he | he
   ·exact h.ends e he
   ·unfold spanS at he
    simp only [List.mem_cons, List.not_mem_nil, or_false] at he
    have := hin 0 (Nat.zero_le _)
    rcases he with rfl | rfl
    ·exact ⟨hr, this⟩
    ·exact ⟨this, hr⟩
  ·have : n = 0 := by omega
   subst this
   exact (starred_span wider ⟨i, (0 : Nat)⟩ b.off).mono fun e he => List.mem_append_right _ he
 have h1 := entsS_ok (l := l) (wider := wider) (conf := conf) (b := b) hr h.pers b.ents (k := 0) h0 (fun n hn => hin n (by omega))
 rw [Nat.zero_add] at h1
 unfold bookS
 refine ⟨h1.ends, fun l' hl => ?_, ?_, fun p hp => ?_⟩
 ·rcases List.mem_append.1 hl with hl | hl
  ·exact h.pers l' hl
  ·rw [List.mem_singleton] at hl; rw [hl]; exact h1.of
 ·show (entsS _ _ _ _ _ _ _ _ _).many = _
  rw [h1.many, h.many, List.length_append]
  unfold bookN
  rw [List.length_map, List.length_range]; omega
 ·rcases List.mem_append.1 hp with hp | hp
  ·exact (h.star p hp).mono h1.sub
  ·obtain ⟨n, hn, rfl⟩ := List.mem_map.1 hp
   exact h1.star n (by have := List.mem_range.1 hn; omega)
theorem lookS_ok {N : List Per} (hr : Per.right ∈ N) {l : PLog} {wider : Int} {conf : List Int} : ∀ (bs : List PBook) {i : Nat} {done : List Per} {s : LkS}, LookOk N done s → (∀ p ∈ nodesF i bs, p ∈ N) → LookOk N (done ++ nodesF i bs) (lookS l wider conf i bs s)
 | [], i, done, s, h, _ => by rw [nodesF, List.append_nil]; exact h
 | b :: r, i, done, s, h, hN => by
  rw [nodesF, lookS, ← List.append_assoc]
  rw [nodesF] at hN
  exact lookS_ok hr r (bookS_ok hr h fun p hp => hN p (List.mem_append_left _ hp)) fun p hp => hN p (List.mem_append_right _ hp)
theorem look_star (l : PLog) (wider : Int) (conf : List Int) : StarOk (lookF l wider conf) (nodesL l) := by
 have h := lookS_ok (N := nodesL l) (l := l) (wider := wider) (conf := conf) (by simp [nodesL]) l.books (i := 0) (done := []) (s := ⟨[], 0, [], []⟩) ⟨fun e he => (by cases he), fun x hx => (by cases hx), rfl, fun p hp => (by cases hp)⟩ (fun p hp => List.mem_cons_of_mem _ hp)
 rw [List.nil_append] at h
 have hs : ∀ p ∈ nodesL l, p ≠ .right → p ∈ nodesF 0 l.books := fun p hp hne => by
  rcases List.mem_cons.1 hp with rfl | hp
  ·exact absurd rfl hne
  ·exact hp
 refine ⟨h.ends, by simp [nodesL], ?_, fun p hp hne => (h.star p (hs p hp hne)).1, fun p hp hne => (h.star p (hs p hp hne)).2⟩
 show (((nodesL l).length : Nat) : Int) ≤ (lookS l wider conf 0 l.books ⟨[], 0, [], []⟩).many + 1
 rw [h.many]
 simp [nodesL]
end Go.PX
namespace Go.PX
open Go.Proofs
def perOf (b : PBook) (k : Nat) : Nat := setsN (b.ents.take k)
def firstI : List PEnt → Int → Nat → Option Nat
 | [], _, _ => none
 | y :: r, n, k => if y.kind = 3 ∧ y.number = n then some k else firstI r n (k + 1)
theorem firstI_some : ∀ {r : List PEnt} {n : Int} {k m : Nat}, firstI r n k = some m → ∃ y, k ≤ m ∧ r[m - k]? = some y ∧ y.kind = 3 ∧ y.number = n ∧ ∀ j z, j < m - k → r[j]? = some z → ¬ (z.kind = 3 ∧ z.number = n)
 | [], n, k, m, h => by cases h
 | y :: r, n, k, m, h => by
  rw [firstI] at h
  split at h
  ·rename_i h1
   cases h
   exact ⟨y, Nat.le_refl _, by simp, h1.1, h1.2, fun j z hj => by omega⟩
  ·rename_i h1
   obtain ⟨z, hk, hz, h2, h3, h4⟩ := firstI_some h
   refine ⟨z, by omega, ?_, h2, h3, fun j w hj hw => ?_⟩
   ·rw [show m - k = (m - (k + 1)) + 1 by omega, List.getElem?_cons_succ]; exact hz
   ·cases j with
    | zero =>
     rw [List.getElem?_cons_zero] at hw
     cases hw; exact h1
    | succ j =>
     rw [List.getElem?_cons_succ] at hw
     exact h4 j w (by omega) hw
theorem firstI_of : ∀ {r : List PEnt} {n : Int} {k j : Nat} {y : PEnt}, r[j]? = some y → y.kind = 3 → y.number = n → (∀ i z, i < j → r[i]? = some z → ¬ (z.kind = 3 ∧ z.number = n)) → firstI r n k = some (k + j)
 | [], n, k, j, y, h, _, _, _ => by simp at h
 | z :: r, n, k, 0, y, h, h1, h2, _ => by
  rw [List.getElem?_cons_zero] at h
  cases h
  rw [firstI, if_pos ⟨h1, h2⟩]; rfl
 | z :: r, n, k, j + 1, y, h, h1, h2, h3 => by
  rw [List.getElem?_cons_succ] at h
  rw [firstI, if_neg (h3 0 z (by omega) rfl), firstI_of (k := k + 1) h h1 h2 fun i w hi hw => h3 (i + 1) w (by omega) (by rw [List.getElem?_cons_succ]; exact hw)]
  congr 1; omega
theorem firstI_ex {r : List PEnt} {n : Int} {j : Nat} {y : PEnt} (h : r[j]? = some y) (h1 : y.kind = 3) (h2 : y.number = n) : ∃ m, m ≤ j ∧ firstI r n 0 = some m := by
 induction j using Nat.strongRecOn generalizing y with
 | _ j ih =>
  by_cases hn : ∃ i z, i < j ∧ r[i]? = some z ∧ z.kind = 3 ∧ z.number = n
  ·obtain ⟨i, z, hi, hz, h3, h4⟩ := hn
   obtain ⟨m, hm, he⟩ := ih i hi hz h3 h4
   exact ⟨m, by omega, he⟩
  ·have := firstI_of (k := 0) h h1 h2 fun i z hi hz h3 => hn ⟨i, z, hi, hz, h3.1, h3.2⟩
   exact ⟨j, Nat.le_refl _, by rw [this, Nat.zero_add]⟩
structure At (l : PLog) (i k : Nat) (b : PBook) (x : PEnt) : Prop where
 book : l.books[i]? = some b
 ent : b.ents[k]? = some x
def stepE (i j : Nat) (b c : PBook) (m n : Nat) (x y : PEnt) : PStep := ⟨⟨i, perOf b m⟩, ⟨j, perOf c n⟩, y.shown - x.shown⟩
structure Rep (l : PLog) (conf : List Int) (i j m n : Nat) (b c : PBook) (x y : PEnt) (num : Int) : Prop where
 ha : At l i m b x
 hb : At l j n c y
 fa : firstI b.ents num 0 = some m
 fb : firstI c.ents num 0 = some n
 no : num ∉ conf
inductive Just (l : PLog) (wider : Int) (conf : List Int) : PStep → Prop
 | off (i : Nat) (b : PBook) (hb : l.books[i]? = some b) (e : PStep) (he : e ∈ spanS wider ⟨i, 0⟩ b.off) : Just l wider conf e
 | set (i : Nat) (b : PBook) (hb : l.books[i]? = some b) (n : Nat) (h1 : 1 ≤ n) (h2 : n ≤ setsN b.ents) (e : PStep) (he : e ∈ spanS wider ⟨i, n⟩ b.set) : Just l wider conf e
 | ord (i k : Nat) (b : PBook) (x y : PEnt) (hx : At l i k b x) (hy : At l i (k + 1) b y) : Just l wider conf (stepE i i b b k (k + 1) x y)
 | rep (i j m n : Nat) (b c : PBook) (x y : PEnt) (num : Int) (h : Rep l conf i j m n b c x y num) : Just l wider conf (stepE i j b c m n x y)
def persOf (i : Nat) (b : PBook) : List Per := (List.range b.ents.length).map fun (m : Nat) => ⟨i, perOf b m⟩
theorem perOf_succ {b : PBook} {k : Nat} {y : PEnt} (h : b.ents[k]? = some y) : perOf b (k + 1) = perOf b k + if y.kind = 2 then 1 else 0 := by
 unfold perOf setsN
 have hl := (List.getElem?_eq_some_iff.1 h).1
 rw [List.take_succ, h]
 show (List.filter _ (b.ents.take k ++ [y])).length = _
 rw [List.filter_append, List.length_append, List.filter_cons]
 by_cases h2 : y.kind = 2
 ·rw [if_pos (by simpa using h2), if_pos h2]; simp
 ·rw [if_neg (by simpa using h2), if_neg h2]; simp
theorem perOf_le (b : PBook) (k : Nat) : perOf b k ≤ setsN b.ents := by
 unfold perOf setsN
 exact (List.Sublist.filter _ (List.take_sublist k b.ents)).length_le
theorem perOf_all (b : PBook) : perOf b b.ents.length = setsN b.ents := by unfold perOf; rw [List.take_length]
def Both (l : PLog) (st : List PStep) (r : PAt) (j n : Nat) (c : PBook) (y : PEnt) : Prop :=
 ∃ (i m : Nat) (b : PBook) (x : PEnt), r = ⟨i, m⟩ ∧ At l i m b x ∧ stepE i j b c m n x y ∈ st ∧ stepE j i c b n m y x ∈ st
theorem Both.mono {l : PLog} {st st' : List PStep} (h : ∀ e ∈ st, e ∈ st') {r : PAt} {j n : Nat} {c : PBook} {y : PEnt} : Both l st r j n c y → Both l st' r j n c y
 | ⟨i, m, b, x, h1, h2, h3, h4⟩ => ⟨i, m, b, x, h1, h2, h _ h3, h _ h4⟩
def Ahead (i k j m : Nat) : Prop := j < i ∨ (j = i ∧ m < k)
structure EInv (l : PLog) (wider : Int) (conf : List Int) (i k : Nat) (b : PBook) (pers : List (List Per)) (s : LkE) : Prop where
 now : s.now = ⟨i, perOf b k⟩
 of : s.of = (List.range k).map fun (m : Nat) => ⟨i, perOf b m⟩
 mine : ∀ num, (0 ≤ (getV s.mine num).getD 0) ∧ (1 ≤ (getV s.mine num).getD 0 ↔ ∃ m, m < k ∧ firstI b.ents num 0 = some m)
 fst : ∀ num r, getV s.first num = some r → ∃ (j m : Nat) (c : PBook) (x : PEnt), r = ⟨j, m⟩ ∧ At l j m c x ∧ firstI c.ents num 0 = some m ∧ num ∉ conf ∧ Ahead i k j m
 got : ∀ (j m : Nat) (c : PBook) (y : PEnt) num, At l j m c y → firstI c.ents num 0 = some m → num ∉ conf → Ahead i k j m → ∃ r, getV s.first num = some r ∧ (r = ⟨j, m⟩ ∨ Both l s.steps r j m c y)
 sub : ∀ e ∈ s.steps, Just l wider conf e
 off : ∀ (j : Nat) c, l.books[j]? = some c → j ≤ i → ∀ e ∈ spanS wider ⟨j, 0⟩ c.off, e ∈ s.steps
 set : ∀ (j : Nat) c n, l.books[j]? = some c → 1 ≤ n → (j < i ∧ n ≤ setsN c.ents ∨ j = i ∧ n ≤ perOf b k) → ∀ e ∈ spanS wider ⟨j, (n : Nat)⟩ c.set, e ∈ s.steps
 ord : ∀ (j m : Nat) c x y, At l j m c x → At l j (m + 1) c y → Ahead i k j (m + 1) → stepE j j c c m (m + 1) x y ∈ s.steps
structure LInv (l : PLog) (wider : Int) (conf : List Int) (i : Nat) (s : LkS) : Prop where
 pers : s.pers.length = i ∧ ∀ (j : Nat) c, l.books[j]? = some c → j < i → s.pers[j]? = some (persOf j c)
 fst : ∀ num r, getV s.first num = some r → ∃ (j m : Nat) (c : PBook) (x : PEnt), r = ⟨j, m⟩ ∧ At l j m c x ∧ firstI c.ents num 0 = some m ∧ num ∉ conf ∧ j < i
 got : ∀ (j m : Nat) (c : PBook) (y : PEnt) num, At l j m c y → firstI c.ents num 0 = some m → num ∉ conf → j < i → ∃ r, getV s.first num = some r ∧ (r = ⟨j, m⟩ ∨ Both l s.steps r j m c y)
 sub : ∀ e ∈ s.steps, Just l wider conf e
 off : ∀ (j : Nat) c, l.books[j]? = some c → j < i → ∀ e ∈ spanS wider ⟨j, 0⟩ c.off, e ∈ s.steps
 set : ∀ (j : Nat) c n, l.books[j]? = some c → 1 ≤ n → j < i → n ≤ setsN c.ents → ∀ e ∈ spanS wider ⟨j, (n : Nat)⟩ c.set, e ∈ s.steps
 ord : ∀ (j m : Nat) c x y, At l j m c x → At l j (m + 1) c y → j < i → stepE j j c c m (m + 1) x y ∈ s.steps
theorem persOf_get {j : Nat} {c : PBook} {m : Nat} (h : m < c.ents.length) : (persOf j c)[m]? = some ⟨j, perOf c m⟩ := by
 unfold persOf
 rw [List.getElem?_map, List.getElem?_range h]; rfl
theorem entAt_of {l : PLog} {j m : Nat} {c : PBook} {x : PEnt} (h : At l j m c x) : entAt l ⟨j, m⟩ = x := by
 unfold entAt
 simp only [Int.toNat_natCast, h.book, Option.map_some, Option.getD_some, h.ent]
theorem perAt_of {l : PLog} {pers : List (List Per)} {j m : Nat} {c : PBook} {x : PEnt} (h : At l j m c x) (hp : pers[j]? = some (persOf j c)) : perAt pers ⟨j, m⟩ = ⟨j, perOf c m⟩ := by
 unfold perAt
 simp only [Int.toNat_natCast, hp, Option.getD_some, persOf_get (List.getElem?_eq_some_iff.1 h.ent).1]
end Go.PX
namespace Go.PX
open Go.Proofs
theorem Ahead.succ {i k j m : Nat} (h : Ahead i k j m) : Ahead i (k + 1) j m := h.imp id fun ⟨a, b⟩ => ⟨a, by omega⟩
theorem ahead_succ {i k j m : Nat} (h : Ahead i (k + 1) j m) : Ahead i k j m ∨ (j = i ∧ m = k) := by
 unfold Ahead at *
 omega
structure StOk (l : PLog) (wider : Int) (conf : List Int) (i k : Nat) (b : PBook) (s : LkE) (st : List PStep) : Prop where
 keep : ∀ e ∈ s.steps, e ∈ st
 sub : ∀ e ∈ st, Just l wider conf e
 ord : ∀ (j m : Nat) c x y, At l j m c x → At l j (m + 1) c y → Ahead i (k + 1) j (m + 1) → stepE j j c c m (m + 1) x y ∈ st
theorem st_ok {l : PLog} {wider : Int} {conf : List Int} {i k : Nat} {b : PBook} {pers : List (List Per)} {s : LkE} {y : PEnt} (hb : l.books[i]? = some b) (hy : b.ents[k]? = some y) (h : EInv l wider conf i k b pers s) :
  StOk l wider conf i k b s (if k = 0 then s.steps else s.steps ++ [⟨((s.of ++ [s.now])[k - 1]?).getD .right, s.now, y.shown - ((b.ents[k - 1]?).getD ⟨0, 0, .empty, 0⟩).shown⟩]) := by
 cases k with
 | zero =>
  rw [if_pos rfl]
  refine ⟨fun e he => he, h.sub, fun j m c x z hx hz ha => h.ord j m c x z hx hz ?_⟩
  rcases ahead_succ ha with ha | ⟨_, ha⟩
  ·exact ha
  ·omega
 | succ k =>
  rw [if_neg (by omega), Nat.add_sub_cancel]
  have hkl := (List.getElem?_eq_some_iff.1 hy).1
  obtain ⟨x, hx⟩ : ∃ x, b.ents[k]? = some x := ⟨_, List.getElem?_eq_getElem (by omega)⟩
  have hof : ((s.of ++ [s.now])[k]?).getD .right = ⟨i, perOf b k⟩ := by
   rw [h.of, List.getElem?_append_left (by simp), List.getElem?_map, List.getElem?_range (by omega)]; rfl
  have e : (⟨((s.of ++ [s.now])[k]?).getD .right, s.now, y.shown - ((b.ents[k]?).getD ⟨0, 0, .empty, 0⟩).shown⟩ : PStep) = stepE i i b b k (k + 1) x y := by
   rw [hof, h.now, hx]; rfl
  rw [e]
  refine ⟨fun e he => List.mem_append_left _ he, fun e he => ?_, fun j m c x' z hx' hz ha => ?_⟩
  ·rcases List.mem_append.1 he with he | he
   ·exact h.sub e he
   ·rw [List.mem_singleton] at he
    rw [he]
    exact .ord i k b x y ⟨hb, hx⟩ ⟨hb, hy⟩
  ·rcases ahead_succ ha with ha | ⟨h1, h2⟩
   ·exact List.mem_append_left _ (h.ord j m c x' z hx' hz ha)
   ·subst h1
    have hm : m = k := by omega
    subst hm
    have hcb : c = b := Option.some.inj (hx'.book.symm.trans hb)
    subst hcb
    rw [Option.some.inj (hx'.ent.symm.trans hx), Option.some.inj (hz.ent.symm.trans hy)]
    exact List.mem_append_right _ (List.mem_singleton.2 rfl)
theorem of_succ {i k : Nat} {b : PBook} {s : LkE} (ho : s.of = (List.range k).map fun (m : Nat) => (⟨i, perOf b m⟩ : Per)) (hn : s.now = ⟨i, perOf b k⟩) : s.of ++ [s.now] = (List.range (k + 1)).map fun (m : Nat) => (⟨i, perOf b m⟩ : Per) := by
 rw [List.range_succ, List.map_append, ho, hn]; rfl
theorem first_not {b : PBook} {k : Nat} {y : PEnt} (hy : b.ents[k]? = some y) {num : Int} (h : firstI b.ents num 0 = some k) : y.kind = 3 ∧ y.number = num := by
 obtain ⟨z, _, hz, h1, h2, _⟩ := firstI_some h
 rw [Nat.sub_zero, hy] at hz
 cases hz; exact ⟨h1, h2⟩
theorem ent_inv {l : PLog} {wider : Int} {conf : List Int} {i k : Nat} {b : PBook} {pers : List (List Per)} {s : LkE} {y : PEnt} (hp : ∀ (j : Nat) c, l.books[j]? = some c → j < i → pers[j]? = some (persOf j c)) (hb : l.books[i]? = some b) (hy : b.ents[k]? = some y) (h : EInv l wider conf i k b pers s) :
  EInv l wider conf i (k + 1) b pers (entS l wider conf i b pers k y s) := by
 have hs := st_ok hb hy h
 have hof := of_succ h.of h.now
 have hps := perOf_succ hy
 generalize hst : (if k = 0 then s.steps else s.steps ++ [(⟨((s.of ++ [s.now])[k - 1]?).getD .right, s.now, y.shown - ((b.ents[k - 1]?).getD ⟨0, 0, .empty, 0⟩).shown⟩ : PStep)]) = st at hs
 unfold entS
 simp only [hst]
 -- no report: what is known of reports stays
 have nomine : y.kind ≠ 3 → ∀ num, (0 ≤ (getV s.mine num).getD 0) ∧ (1 ≤ (getV s.mine num).getD 0 ↔ ∃ m, m < k + 1 ∧ firstI b.ents num 0 = some m) := fun h3 num => by
  obtain ⟨h1, h2⟩ := h.mine num
  refine ⟨h1, h2.trans ⟨fun ⟨m, hm, he⟩ => ⟨m, by omega, he⟩, fun ⟨m, hm, he⟩ => ⟨m, ?_, he⟩⟩⟩
  rcases Nat.lt_or_ge m k with hlt | hge
  ·exact hlt
  ·have : m = k := by omega
   subst this
   exact absurd (first_not hy he).1 h3
 have nogot : y.kind ≠ 3 → ∀ (st' : List PStep), (∀ e ∈ st, e ∈ st') → ∀ (j m : Nat) (c : PBook) (z : PEnt) num, At l j m c z → firstI c.ents num 0 = some m → num ∉ conf → Ahead i (k + 1) j m → ∃ r, getV s.first num = some r ∧ (r = ⟨j, m⟩ ∨ Both l st' r j m c z) := fun h3 st' hst j m c z num hz hf hc ha => by
  rcases ahead_succ ha with ha | ⟨rfl, rfl⟩
  ·obtain ⟨r, h1, h2⟩ := h.got j m c z num hz hf hc ha
   exact ⟨r, h1, h2.imp id (Both.mono fun e he => hst e (hs.keep e he))⟩
  ·have hcb : c = b := Option.some.inj (hz.book.symm.trans hb)
   subst hcb
   exact absurd (first_not hy hf).1 h3
 have fstk : ∀ num r, getV s.first num = some r → ∃ (j m : Nat) (c : PBook) (x : PEnt), r = ⟨j, m⟩ ∧ At l j m c x ∧ firstI c.ents num 0 = some m ∧ num ∉ conf ∧ Ahead i (k + 1) j m := fun num r hr => by
  obtain ⟨j, m, c, x, h1, h2, h3, h4, h5⟩ := h.fst num r hr
  exact ⟨j, m, c, x, h1, h2, h3, h4, h5.succ⟩
 by_cases h2 : y.kind = 2
 ·rw [if_pos h2]
  rw [if_pos h2] at hps
  have h3 : y.kind ≠ 3 := by omega
  have hnw : (⟨s.now.book, s.now.n + 1⟩ : Per) = ⟨i, (perOf b (k + 1) : Nat)⟩ := by rw [h.now, hps]; simp
  refine ⟨hnw, hof, nomine h3, fstk, nogot h3 _ fun e he => List.mem_append_left _ he, fun e he => ?_, fun j c hc hj e he => List.mem_append_left _ (hs.keep e (h.off j c hc hj e he)), fun j c n hc hn hjn e he => ?_, fun j m c x z hx hz ha => List.mem_append_left _ (hs.ord j m c x z hx hz ha)⟩
  ·rcases List.mem_append.1 he with he | he
   ·exact hs.sub e he
   ·rw [hnw] at he
    exact .set i b hb (perOf b (k + 1)) (by omega) (perOf_le b _) e he
  ·rcases hjn with hjn | ⟨rfl, hjn⟩
   ·exact List.mem_append_left _ (hs.keep e (h.set j c n hc hn (.inl hjn) e he))
   ·rcases Nat.lt_or_ge (perOf b k) n with hlt | hge
    ·have : n = perOf b (k + 1) := by omega
     subst this
     have hcb : c = b := Option.some.inj (hc.symm.trans hb)
     subst hcb
     rw [hnw]
     exact List.mem_append_right _ he
    ·exact List.mem_append_left _ (hs.keep e (h.set j c n hc hn (.inr ⟨rfl, hge⟩) e he))
 ·rw [if_neg h2]
  rw [if_neg h2, Nat.add_zero] at hps
  have hnow : s.now = ⟨i, perOf b (k + 1)⟩ := by rw [hps]; exact h.now
  have setk : ∀ (st' : List PStep), (∀ e ∈ st, e ∈ st') → ∀ (j : Nat) c n, l.books[j]? = some c → 1 ≤ n → (j < i ∧ n ≤ setsN c.ents ∨ j = i ∧ n ≤ perOf b (k + 1)) → ∀ e ∈ spanS wider ⟨j, (n : Nat)⟩ c.set, e ∈ st' := fun st' hst j c n hc hn hjn e he => by
   rw [hps] at hjn
   exact hst e (hs.keep e (h.set j c n hc hn hjn e he))
  have offk : ∀ (st' : List PStep), (∀ e ∈ st, e ∈ st') → ∀ (j : Nat) c, l.books[j]? = some c → j ≤ i → ∀ e ∈ spanS wider ⟨j, 0⟩ c.off, e ∈ st' := fun st' hst j c hc hj e he => hst e (hs.keep e (h.off j c hc hj e he))
  by_cases h3 : y.kind = 3
  ·rw [if_pos h3]
   obtain ⟨hm0, hm1⟩ := h.mine y.number
   obtain ⟨m0, hm0k, hm0f⟩ := firstI_ex hy h3 rfl
   have minek : ∀ num, (0 ≤ (getV (putV s.mine y.number ((getV s.mine y.number).getD 0 + 1)) num).getD 0) ∧ (1 ≤ (getV (putV s.mine y.number ((getV s.mine y.number).getD 0 + 1)) num).getD 0 ↔ ∃ m, m < k + 1 ∧ firstI b.ents num 0 = some m) := fun num => by
    rw [getV_put]
    by_cases hn : num = y.number
    ·rw [if_pos hn, Option.getD_some]
     subst hn
     exact ⟨by omega, fun _ => ⟨m0, by omega, hm0f⟩, fun _ => by omega⟩
    ·rw [if_neg hn]
     obtain ⟨h4, h5⟩ := h.mine num
     refine ⟨h4, h5.trans ⟨fun ⟨m, hm, he⟩ => ⟨m, by omega, he⟩, fun ⟨m, hm, he⟩ => ⟨m, ?_, he⟩⟩⟩
     rcases Nat.lt_or_ge m k with hlt | hge
     ·exact hlt
     ·have : m = k := by omega
      subst this
      exact absurd (first_not hy he).2.symm hn
   by_cases hc : (getV s.mine y.number).getD 0 + 1 > 1 ∨ y.number ∈ conf
   ·rw [if_pos hc]
    refine ⟨hnow, hof, minek, fstk, fun j m c z num hz hf hcn ha => ?_, hs.sub, offk _ fun e he => he, setk _ fun e he => he, hs.ord⟩
    rcases ahead_succ ha with ha | ⟨rfl, rfl⟩
    ·obtain ⟨r, h5, h6⟩ := h.got j m c z num hz hf hcn ha
     exact ⟨r, h5, h6.imp id (Both.mono hs.keep)⟩
    ·have hcb : c = b := Option.some.inj (hz.book.symm.trans hb)
     subst hcb
     have hnum := (first_not hy hf).2
     subst hnum
     rcases hc with hc | hc
     ·obtain ⟨m', h5, h6⟩ := hm1.1 (by omega)
      rw [hf] at h6
      have := Option.some.inj h6
      omega
     ·exact absurd hc hcn
   ·rw [if_neg hc]
    have hc1 : ¬ 1 ≤ (getV s.mine y.number).getD 0 := fun h => hc (.inl (by omega))
    have hc2 : y.number ∉ conf := fun h => hc (.inr h)
    have hfk : firstI b.ents y.number 0 = some k := by
     rcases Nat.lt_or_ge m0 k with hlt | hge
     ·exact absurd (hm1.2 ⟨m0, hlt, hm0f⟩) hc1
     ·rw [hm0f]; congr 1; omega
    cases hfr : getV s.first y.number with
    | none =>
     simp only
     refine ⟨hnow, hof, minek, fun num r hr => ?_, fun j m c z num hz hf hcn ha => ?_, hs.sub, offk _ fun e he => he, setk _ fun e he => he, hs.ord⟩
     ·simp only at hr
      rw [getV_put] at hr
      split at hr
      ·rename_i hn
       cases hr
       subst hn
       exact ⟨i, k, b, y, rfl, ⟨hb, hy⟩, hfk, hc2, .inr ⟨rfl, Nat.lt_succ_self k⟩⟩
      ·exact fstk num r hr
     ·simp only
      rw [getV_put]
      rcases ahead_succ ha with ha | ⟨rfl, rfl⟩
      ·obtain ⟨r, h5, h6⟩ := h.got j m c z num hz hf hcn ha
       have hn : num ≠ y.number := by rintro rfl; rw [hfr] at h5; cases h5
       rw [if_neg hn]
       exact ⟨r, h5, h6.imp id (Both.mono hs.keep)⟩
      ·have hcb : c = b := Option.some.inj (hz.book.symm.trans hb)
       subst hcb
       rw [if_pos (first_not hy hf).2.symm]
       exact ⟨_, rfl, .inl rfl⟩
    | some r0 =>
     simp only
     obtain ⟨j0, n0, c0, x0, rfl, hx0, hf0, _, ha0⟩ := h.fst y.number r0 hfr
     have hj0 : j0 < i := by
      rcases ha0 with ha0 | ⟨rfl, ha0⟩
      ·exact ha0
      ·have hcb : c0 = b := Option.some.inj (hx0.book.symm.trans hb)
       subst hcb
       rw [hfk] at hf0
       have := Option.some.inj hf0
       omega
     have e1 : (⟨perAt pers ⟨j0, n0⟩, s.now, y.shown - (entAt l ⟨j0, n0⟩).shown⟩ : PStep) = stepE j0 i c0 b n0 k x0 y := by
      rw [perAt_of hx0 (hp j0 c0 hx0.book hj0), entAt_of hx0, h.now]; rfl
     have e2 : (⟨s.now, perAt pers ⟨j0, n0⟩, -(y.shown - (entAt l ⟨j0, n0⟩).shown)⟩ : PStep) = stepE i j0 b c0 k n0 y x0 := by
      rw [perAt_of hx0 (hp j0 c0 hx0.book hj0), entAt_of hx0, h.now, Int.neg_sub]; rfl
     rw [e1, e2]
     refine ⟨hnow, hof, minek, fstk, fun j m c z num hz hf hcn ha => ?_, fun e he => ?_, offk _ fun e he => List.mem_append_left _ he, setk _ fun e he => List.mem_append_left _ he, fun j m c x z hx hz ha => List.mem_append_left _ (hs.ord j m c x z hx hz ha)⟩
     ·rcases ahead_succ ha with ha | ⟨rfl, rfl⟩
      ·obtain ⟨r, h5, h6⟩ := h.got j m c z num hz hf hcn ha
       exact ⟨r, h5, h6.imp id (Both.mono fun e he => List.mem_append_left _ (hs.keep e he))⟩
      ·have hcb : c = b := Option.some.inj (hz.book.symm.trans hb)
       subst hcb
       have hnum := (first_not hy hf).2
       subst hnum
       have hzy : z = y := Option.some.inj (hz.ent.symm.trans hy)
       subst hzy
       exact ⟨_, hfr, .inr ⟨j0, n0, c0, x0, rfl, hx0, by simp, by simp⟩⟩
     ·rcases List.mem_append.1 he with he | he
      ·exact hs.sub e he
      ·simp only [List.mem_cons, List.not_mem_nil, or_false] at he
       rcases he with rfl | rfl
       ·exact .rep j0 i n0 k c0 b x0 y y.number ⟨hx0, ⟨hb, hy⟩, hf0, hfk, hc2⟩
       ·exact .rep i j0 k n0 b c0 y x0 y.number ⟨⟨hb, hy⟩, hx0, hfk, hf0, hc2⟩
  ·rw [if_neg h3]
   exact ⟨hnow, hof, nomine h3, fstk, nogot h3 _ fun e he => he, hs.sub, offk _ fun e he => he, setk _ fun e he => he, hs.ord⟩
end Go.PX
namespace Go.PX
open Go.Proofs
theorem ents_inv {l : PLog} {wider : Int} {conf : List Int} {i : Nat} {b : PBook} {pers : List (List Per)} (hp : ∀ (j : Nat) c, l.books[j]? = some c → j < i → pers[j]? = some (persOf j c)) (hb : l.books[i]? = some b) : ∀ (r : List PEnt) {k : Nat} {s : LkE}, (∀ j, r[j]? = b.ents[k + j]?) → EInv l wider conf i k b pers s → EInv l wider conf i (k + r.length) b pers (entsS l wider conf i b pers k r s)
 | [], k, s, _, h => h
 | y :: r, k, s, he, h => by
  rw [entsS, List.length_cons, show k + (r.length + 1) = k + 1 + r.length by omega]
  refine ents_inv hp hb r (fun j => ?_) (ent_inv hp hb (by have := he 0; rw [List.getElem?_cons_zero] at this; exact this.symm) h)
  have := he (j + 1)
  rw [List.getElem?_cons_succ] at this
  rw [this]; congr 1; omega
theorem perOf_zero (b : PBook) : perOf b 0 = 0 := rfl
theorem book_inv {l : PLog} {wider : Int} {conf : List Int} {i : Nat} {b : PBook} {s : LkS} (hb : l.books[i]? = some b) (h : LInv l wider conf i s) : LInv l wider conf (i + 1) (bookS l wider conf i b s) := by
 have h0 : EInv l wider conf i 0 b s.pers ⟨s.steps ++ spanS wider ⟨i, 0⟩ b.off, s.many + 1, s.first, ⟨i, 0⟩, [], []⟩ := by
  refine ⟨rfl, rfl, fun num => ⟨Int.le_refl 0, fun h => absurd h (by show ¬ ((1 : Int) ≤ 0); decide), fun ⟨m, hm, _⟩ => absurd hm (Nat.not_lt_zero m)⟩, fun num r hr => ?_, fun j m c y num hy hf hc ha => ?_, fun e he => ?_, fun j c hc hj e he => ?_, fun j c n hc hn hjn e he => ?_, fun j m c x z hx hz ha => ?_⟩
  ·obtain ⟨j, m, c, x, h1, h2, h3, h4, h5⟩ := h.fst num r hr
   exact ⟨j, m, c, x, h1, h2, h3, h4, .inl h5⟩
  ·rcases ha with ha | ⟨_, ha⟩
   ·obtain ⟨r, h1, h2⟩ := h.got j m c y num hy hf hc ha
    exact ⟨r, h1, h2.imp id (Both.mono fun e he => List.mem_append_left _ he)⟩
   ·exact absurd ha (Nat.not_lt_zero m)
  ·rcases List.mem_append.1 he with he | he
   ·exact h.sub e he
   ·exact .off i b hb e he
  ·rcases Nat.lt_or_ge j i with hlt | hge
   ·exact List.mem_append_left _ (h.off j c hc hlt e he)
   ·have : j = i := by omega
    subst this
    have hcb : c = b := Option.some.inj (hc.symm.trans hb)
    subst hcb
    exact List.mem_append_right _ he
  ·rcases hjn with ⟨hj, hn2⟩ | ⟨_, hn2⟩
   ·exact List.mem_append_left _ (h.set j c n hc hn hj hn2 e he)
   ·rw [perOf_zero] at hn2; omega
  ·rcases ha with ha | ⟨_, ha⟩
   ·exact List.mem_append_left _ (h.ord j m c x z hx hz ha)
   ·omega
 have h1 := ents_inv h.pers.2 hb b.ents (fun j => by rw [Nat.zero_add]) h0
 rw [Nat.zero_add] at h1
 unfold bookS
 have ah : ∀ (j m : Nat) (c : PBook) (y : PEnt), At l j m c y → j < i + 1 → Ahead i b.ents.length j m := fun j m c y hy hj => by
  rcases Nat.lt_or_ge j i with hlt | hge
  ·exact .inl hlt
  ·have : j = i := by omega
   subst this
   have hcb : c = b := Option.some.inj (hy.book.symm.trans hb)
   subst hcb
   exact .inr ⟨rfl, (List.getElem?_eq_some_iff.1 hy.ent).1⟩
 refine ⟨⟨by simp only [List.length_append, List.length_singleton]; rw [h.pers.1], fun j c hc hj => ?_⟩, fun num r hr => ?_, fun j m c y num hy hf hc hj => h1.got j m c y num hy hf hc (ah j m c y hy hj), h1.sub, fun j c hc hj e he => h1.off j c hc (by omega) e he, fun j c n hc hn hj hn2 e he => ?_, fun j m c x z hx hz hj => h1.ord j m c x z hx hz (ah j (m + 1) c z hz hj)⟩
 ·simp only
  rcases Nat.lt_or_ge j i with hlt | hge
  ·rw [List.getElem?_append_left (by rw [h.pers.1]; exact hlt)]
   exact h.pers.2 j c hc hlt
  ·have : j = i := by omega
   subst this
   have hcb : c = b := Option.some.inj (hc.symm.trans hb)
   subst hcb
   rw [List.getElem?_append_right (by rw [h.pers.1]; exact Nat.le_refl _), h.pers.1, Nat.sub_self, h1.of]
   rfl
 ·obtain ⟨j, m, c, x, h2, h3, h4, h5, h6⟩ := h1.fst num r hr
  refine ⟨j, m, c, x, h2, h3, h4, h5, ?_⟩
  rcases h6 with h6 | ⟨h6, _⟩ <;> omega
 ·refine h1.set j c n hc hn ?_ e he
  rcases Nat.lt_or_ge j i with hlt | hge
  ·exact .inl ⟨hlt, hn2⟩
  ·have : j = i := by omega
   subst this
   have hcb : c = b := Option.some.inj (hc.symm.trans hb)
   subst hcb
   exact .inr ⟨rfl, by rw [perOf_all]; exact hn2⟩
theorem look_inv {l : PLog} {wider : Int} {conf : List Int} : ∀ (bs : List PBook) {i : Nat} {s : LkS}, (∀ j, bs[j]? = l.books[i + j]?) → LInv l wider conf i s → LInv l wider conf (i + bs.length) (lookS l wider conf i bs s)
 | [], i, s, _, h => h
 | b :: r, i, s, he, h => by
  rw [lookS, List.length_cons, show i + (r.length + 1) = i + 1 + r.length by omega]
  refine look_inv r (fun j => ?_) (book_inv (by have := he 0; rw [List.getElem?_cons_zero] at this; exact this.symm) h)
  have := he (j + 1)
  rw [List.getElem?_cons_succ] at this
  rw [this]; congr 1; omega
theorem look_done (l : PLog) (wider : Int) (conf : List Int) : LInv l wider conf l.books.length (lookF l wider conf) := by
 have := look_inv (l := l) (wider := wider) (conf := conf) l.books (i := 0) (s := ⟨[], 0, [], []⟩) (fun j => by rw [Nat.zero_add]) ⟨⟨rfl, fun j c _ hj => absurd hj (Nat.not_lt_zero j)⟩, fun num r hr => (by cases hr), fun j m c y num _ _ _ hj => absurd hj (Nat.not_lt_zero j), fun e he => (by cases he), fun j c _ hj => absurd hj (Nat.not_lt_zero j), fun j c n _ _ hj => absurd hj (Nat.not_lt_zero j), fun j m c x z _ _ hj => absurd hj (Nat.not_lt_zero j)⟩
 rw [Nat.zero_add] at this
 exact this
theorem at_lt {l : PLog} {j m : Nat} {c : PBook} {x : PEnt} (h : At l j m c x) : j < l.books.length := (List.getElem?_eq_some_iff.1 h.book).1
theorem look_sub {l : PLog} {wider : Int} {conf : List Int} : ∀ e ∈ (lookF l wider conf).steps, Just l wider conf e := (look_done l wider conf).sub
def fitP (l : PLog) (wider : Int) (conf : List Int) : Bool := fitM (lookF l wider conf) (farM (lookF l wider conf) .right)
def aheadF (x : LkS) (p q : Per) : Span := ⟨-(atM (farM x p) q), atM (farM x q) p⟩
end Go.PX
namespace Go.PX
open Go.Proofs
def manyP (bs : List PBook) : Nat := (bs.map fun b => setsN b.ents + 1).sum
def nodeI (l : PLog) (i n : Nat) : Nat := 1 + n + manyP (l.books.take i)
theorem manyP_cons (b : PBook) (r : List PBook) : manyP (b :: r) = setsN b.ents + 1 + manyP r := by
 unfold manyP
 rw [List.map_cons, List.sum_cons]
theorem bookN_len (i : Nat) (b : PBook) : (bookN i b).length = setsN b.ents + 1 := by
 unfold bookN
 rw [List.length_map, List.length_range]
theorem nodesF_len : ∀ (bs : List PBook) (i : Nat), (nodesF i bs).length = manyP bs
 | [], _ => rfl
 | b :: r, i => by
  rw [nodesF, List.length_append, bookN_len, nodesF_len r, manyP_cons]
theorem nodesF_at : ∀ {bs : List PBook} {i0 i : Nat} {b : PBook} {n : Nat}, bs[i]? = some b → n ≤ setsN b.ents → (nodesF i0 bs)[n + manyP (bs.take i)]? = some ⟨(i0 + i : Nat), n⟩
 | [], _, i, b, n, h, _ => by simp at h
 | c :: r, i0, 0, b, n, h, hn => by
  rw [List.getElem?_cons_zero] at h
  cases h
  rw [nodesF, List.take_zero]
  show (bookN i0 c ++ nodesF (i0 + 1) r)[n + 0]? = _
  rw [Nat.add_zero, List.getElem?_append_left (by rw [bookN_len]; omega)]
  unfold bookN
  rw [List.getElem?_map, List.getElem?_range (by omega)]; rfl
 | c :: r, i0, i + 1, b, n, h, hn => by
  rw [List.getElem?_cons_succ] at h
  rw [nodesF, List.take_succ_cons, manyP_cons, List.getElem?_append_right (by rw [bookN_len]; omega), bookN_len, show n + (setsN c.ents + 1 + manyP (r.take i)) - (setsN c.ents + 1) = n + manyP (r.take i) by omega, nodesF_at (i0 := i0 + 1) h hn, show i0 + 1 + i = i0 + (i + 1) by omega]
theorem nodes_at {l : PLog} {i : Nat} {b : PBook} {n : Nat} (h : l.books[i]? = some b) (hn : n ≤ setsN b.ents) : (nodesL l)[nodeI l i n]? = some ⟨i, n⟩ := by
 unfold nodesL nodeI
 rw [show 1 + n + manyP (l.books.take i) = (n + manyP (l.books.take i)) + 1 by omega, List.getElem?_cons_succ, nodesF_at (i0 := 0) h hn, Nat.zero_add]
structure BookR (b : PBook) : Prop where
 off : -720 ≤ b.off.lo ∧ b.off.lo ≤ b.off.hi ∧ b.off.hi ≤ 720
 set : -720 ≤ b.set.lo ∧ b.set.lo ≤ b.set.hi ∧ b.set.hi ≤ 720
 ents : b.ents.length ≤ 8
 ent : ∀ x ∈ b.ents, (0 ≤ x.shown ∧ x.shown ≤ 20000) ∧ (1 ≤ x.kind ∧ x.kind ≤ 3) ∧ (0 ≤ x.number ∧ x.number ≤ 99)
structure LogR (l : PLog) : Prop where
 near : 0 ≤ l.near ∧ l.near ≤ 60
 books : 1 ≤ l.books.length ∧ l.books.length ≤ 3
 book : ∀ b ∈ l.books, BookR b
theorem span_w {wider : Int} {p : Per} {s : Span} {e : PStep} (he : e ∈ spanS wider p s) (hs : -720 ≤ s.lo ∧ s.lo ≤ s.hi ∧ s.hi ≤ 720) (hw : 0 ≤ wider ∧ wider ≤ 1048576) : -1100000 ≤ e.w ∧ e.w ≤ 1100000 := by
 unfold spanS at he
 simp only [List.mem_cons, List.not_mem_nil, or_false] at he
 rcases he with rfl | rfl
 ·simp only; omega
 ·simp only; omega
theorem just_w {l : PLog} {wider : Int} {conf : List Int} (hR : LogR l) (hw : 0 ≤ wider ∧ wider ≤ 1048576) {e : PStep} (h : Just l wider conf e) : -1100000 ≤ e.w ∧ e.w ≤ 1100000 := by
 have sh : ∀ {i k b x}, At l i k b x → 0 ≤ x.shown ∧ x.shown ≤ 20000 := fun {i k b x} hx => ((hR.book b (List.mem_of_getElem? hx.book)).ent x (List.mem_of_getElem? hx.ent)).1
 cases h with
 | off i b hb e he => exact span_w he (hR.book b (List.mem_of_getElem? hb)).off hw
 | set i b hb n h1 h2 e he => exact span_w he (hR.book b (List.mem_of_getElem? hb)).set hw
 | ord i k b x y hx hy =>
  have h1 := sh hx
  have h2 := sh hy
  show -1100000 ≤ y.shown - x.shown ∧ y.shown - x.shown ≤ 1100000
  omega
 | rep i j m n b c x y num h =>
  have h1 := sh h.ha
  have h2 := sh h.hb
  show -1100000 ≤ y.shown - x.shown ∧ y.shown - x.shown ≤ 1100000
  omega
theorem setsN_le (b : PBook) : setsN b.ents ≤ b.ents.length := by
 unfold setsN
 exact List.length_filter_le _ _
theorem entS_len {l : PLog} {wider : Int} {conf : List Int} {i : Nat} {b : PBook} {pers : List (List Per)} {k : Nat} {y : PEnt} {s : LkE} : (entS l wider conf i b pers k y s).steps.length ≤ s.steps.length + 3 := by
 have h1 : ∀ (st : List PStep) (e : PStep), (if k = 0 then st else st ++ [e]).length ≤ st.length + 1 := fun st e => by split <;> simp
 unfold entS
 simp only
 have h2 := h1 s.steps ⟨((s.of ++ [s.now])[k - 1]?).getD .right, s.now, y.shown - ((b.ents[k - 1]?).getD ⟨0, 0, .empty, 0⟩).shown⟩
 generalize (if k = 0 then s.steps else s.steps ++ [(⟨((s.of ++ [s.now])[k - 1]?).getD .right, s.now, y.shown - ((b.ents[k - 1]?).getD ⟨0, 0, .empty, 0⟩).shown⟩ : PStep)]) = st at h2 ⊢
 split
 ·simp only [List.length_append, spanS, List.length_cons, List.length_nil]; omega
 ·split
  ·split
   ·simp only; omega
   ·split
    ·simp only; omega
    ·simp only [List.length_append, List.length_cons, List.length_nil]; omega
  ·simp only; omega
theorem entsS_len {l : PLog} {wider : Int} {conf : List Int} {i : Nat} {b : PBook} {pers : List (List Per)} : ∀ (r : List PEnt) {k : Nat} {s : LkE}, (entsS l wider conf i b pers k r s).steps.length ≤ s.steps.length + 3 * r.length
 | [], k, s => Nat.le_refl _
 | y :: r, k, s => by
  rw [entsS, List.length_cons]
  have h1 := entsS_len (l := l) (wider := wider) (conf := conf) (i := i) (b := b) (pers := pers) r (k := k + 1) (s := entS l wider conf i b pers k y s)
  have h2 := entS_len (l := l) (wider := wider) (conf := conf) (i := i) (b := b) (pers := pers) (k := k) (y := y) (s := s)
  omega
theorem lookS_len {l : PLog} {wider : Int} {conf : List Int} : ∀ (bs : List PBook) {i : Nat} {s : LkS}, (∀ b ∈ bs, b.ents.length ≤ 8) → (lookS l wider conf i bs s).steps.length ≤ s.steps.length + 26 * bs.length
 | [], i, s, _ => Nat.le_refl _
 | b :: r, i, s, h => by
  rw [lookS, List.length_cons]
  have h1 := lookS_len (l := l) (wider := wider) (conf := conf) r (i := i + 1) (s := bookS l wider conf i b s) fun c hc => h c (by simp [hc])
  have h2 := entsS_len (l := l) (wider := wider) (conf := conf) (i := i) (b := b) (pers := s.pers) b.ents (k := 0) (s := ⟨s.steps ++ spanS wider ⟨i, 0⟩ b.off, s.many + 1, s.first, ⟨i, 0⟩, [], []⟩)
  have h3 := h b (by simp)
  have h4 : (bookS l wider conf i b s).steps.length ≤ s.steps.length + 2 + 3 * b.ents.length := by
   refine Nat.le_trans h2 ?_
   simp [spanS]
  omega
theorem look_len {l : PLog} (hR : LogR l) (wider : Int) (conf : List Int) : (lookF l wider conf).steps.length ≤ 78 := by
 have := lookS_len (l := l) (wider := wider) (conf := conf) l.books (i := 0) (s := ⟨[], 0, [], []⟩) fun b hb => (hR.book b hb).ents
 have h2 := hR.books
 unfold lookF
 simp only [List.length_nil] at this
 omega
def BndM (m : PM) (B : Int) : Prop := ∀ p v, getV m p = some v → -B ≤ v ∧ v ≤ B
theorem try_bnd {m : PM × Bool} {s : PStep} {B : Int} (h : BndM m.1 B) (hs : -1100000 ≤ s.w ∧ s.w ≤ 1100000) : BndM (tryS m s).1 (B + 1100000) := by
 have up : BndM m.1 (B + 1100000) := fun p v hv => by have := h p v hv; omega
 unfold tryS
 cases h1 : getV m.1 s.a with
 | none => exact up
 | some n =>
  have hn := h s.a n h1
  have hput : BndM (putV m.1 s.b (n + s.w)) (B + 1100000) := fun p v hv => by
   rw [getV_put] at hv
   split at hv
   ·cases hv; omega
   ·exact up p v hv
  simp only
  cases h2 : getV m.1 s.b with
  | none => exact hput
  | some x =>
   simp only
   split
   ·exact hput
   ·exact up
end Go.PX
namespace Go.PX
open Go.Proofs
def tellD (x : PEnt) : D := if x.kind = 1 then .ifc 138 (.agg [.str x.word]) else if x.kind = 2 then .ifc 175 (.agg []) else if x.kind = 3 then .ifc 156 (.agg [.str x.word, i64 x.number]) else .nili
theorem pa83 (x : PEnt) : FnV Tryz.prog 83 [x.d] (tellD x) := by
 refine fnV_of mixed tysOk Tryz.func83 rfl (ft := ft83) 1 (by decide +kernel) (by rfl) fun {σ} Y st => ?_
 conv=>whnf
 unfold tellD
 refine brk_i (fun h1 => ?_) (fun h1 => ?_)
 ·rw [if_pos (of_decide_eq_true h1)]
  conv=>whnf
  exact RetA_view 0 rfl ⟨⟨rfl, rfl⟩, rfl⟩
 ·rw [if_neg (of_decide_eq_false h1)]
  conv=>whnf
  refine brk_i (fun h2 => ?_) (fun h2 => ?_)
  ·rw [if_pos (of_decide_eq_true h2)]
   conv=>whnf
   exact RetA_view 0 rfl ⟨⟨rfl, rfl⟩, rfl⟩
  ·rw [if_neg (of_decide_eq_false h2)]
   conv=>whnf
   refine brk_i (fun h3 => ?_) (fun h3 => ?_)
   ·rw [if_pos (of_decide_eq_true h3)]
    conv=>whnf
    exact RetA_view 0 rfl ⟨⟨rfl, rfl⟩, rfl⟩
   ·rw [if_neg (of_decide_eq_false h3)]
    conv=>whnf
    exact RetA_view 0 rfl ⟨⟨rfl, rfl⟩, rfl⟩
def outB (n lo hi : Int) : Bool := !inB n lo hi
theorem out_1 (lo hi n : Int) : FnV Tryz.prog 59 [i64 lo, i64 hi, .vs [[i64 n]]] (.bool (outB n lo hi)) := FnV.cast (fn51_1 lo hi n) rfl
def entE (x : PEnt) : Int :=
 if outB x.shown 0 20000 then 7
 else if x.kind = 1 then (if nameF x.word && decide (x.number = 0) then 0 else 6)
 else if x.kind = 2 then (if decide (x.word = .empty) && decide (x.number = 0) then 0 else 6)
 else if x.kind = 3 then (if nameF x.word && !outB x.number 1 99 then 0 else 6)
 else 4
theorem pa63 (x : PEnt) : FnV Tryz.prog 63 [x.d] (i64 (entE x)) := by
 refine fnV_of mixed tysOk Tryz.func63 rfl (ft := ft63) 1 (by decide +kernel) (by rfl) fun {σ} Y st => ?_
 conv=>whnf
 refine CallA_view (out_1 0 20000 x.shown) rfl 1 rfl ?_
 unfold entE
 cases h0 : outB x.shown 0 20000 with
 | true =>
  conv=>whnf
  exact RetA_view 0 rfl ⟨⟨rfl, rfl⟩, rfl⟩
 | false =>
  conv=>whnf
  refine CallA_v (pa83 x) rfl rfl ?_
  conv=>whnf
  have hw0 : (x.word = (⟨#[]⟩ : ByteArray)) ↔ x.word = .empty := Iff.rfl
  by_cases h1 : x.kind = 1
  ·have ht : tellD x = .ifc 138 (.agg [.str x.word]) := by unfold tellD; rw [if_pos h1]
   rw [ht, if_pos h1]
   conv=>whnf
   refine CallA_v (fn47 x.word) rfl rfl ?_
   conv=>whnf
   cases hn : nameF x.word with
   | false =>
    conv=>whnf
    exact RetA_view 0 rfl ⟨⟨rfl, rfl⟩, rfl⟩
   | true =>
    conv=>whnf
    generalize decide (x.number = 0) = B
    cases B with
    | false =>
     conv=>whnf
     exact RetA_view 0 rfl ⟨⟨rfl, rfl⟩, rfl⟩
    | true =>
     conv=>whnf
     exact RetA_view 0 rfl ⟨⟨rfl, rfl⟩, rfl⟩
  ·rw [if_neg h1]
   by_cases h2 : x.kind = 2
   ·have ht : tellD x = .ifc 175 (.agg []) := by unfold tellD; rw [if_neg h1, if_pos h2]
    rw [ht, if_pos h2]
    conv=>whnf
    have hw1 : decide (x.word = .empty) = decide (x.word = (⟨#[]⟩ : ByteArray)) := rfl
    rw [hw1]
    generalize decide (x.word = (⟨#[]⟩ : ByteArray)) = A
    cases A with
    | false =>
     conv=>whnf
     exact RetA_view 0 rfl ⟨⟨rfl, rfl⟩, rfl⟩
    | true =>
     conv=>whnf
     generalize decide (x.number = 0) = B
     cases B with
     | false =>
      conv=>whnf
      exact RetA_view 0 rfl ⟨⟨rfl, rfl⟩, rfl⟩
     | true =>
      conv=>whnf
      exact RetA_view 0 rfl ⟨⟨rfl, rfl⟩, rfl⟩
   ·rw [if_neg h2]
    by_cases h3 : x.kind = 3
    ·have ht : tellD x = .ifc 156 (.agg [.str x.word, i64 x.number]) := by unfold tellD; rw [if_neg h1, if_neg h2, if_pos h3]
     rw [ht, if_pos h3]
     conv=>whnf
     refine CallA_v (fn47 x.word) rfl rfl ?_
     conv=>whnf
     cases hn : nameF x.word with
     | false =>
      conv=>whnf
      exact RetA_view 0 rfl ⟨⟨rfl, rfl⟩, rfl⟩
     | true =>
      conv=>whnf
      refine CallA_view (out_1 1 99 x.number) rfl 1 rfl ?_
      cases h4 : outB x.number 1 99 with
      | false =>
       conv=>whnf
       exact RetA_view 0 rfl ⟨⟨rfl, rfl⟩, rfl⟩
      | true =>
       conv=>whnf
       exact RetA_view 0 rfl ⟨⟨rfl, rfl⟩, rfl⟩
    ·have ht : tellD x = .nili := by unfold tellD; rw [if_neg h1, if_neg h2, if_neg h3]
     rw [ht, if_neg h3]
     conv=>whnf
     exact RetA_view 0 rfl ⟨⟨rfl, rfl⟩, rfl⟩
theorem pa62 (y x : PBook) : FnV Tryz.prog 62 [.agg y.cells, .ref x.cells] (.bool (decide (y.name = x.name))) := by
 refine fnV_of mixed tysOk Tryz.func62 rfl (ft := ft62) 2 (by decide +kernel) (by rfl) fun {σ} Y st => ?_
 conv=>whnf
 exact RetA_view 0 rfl ⟨⟨rfl, rfl⟩, rfl⟩
theorem pa108 (l : List PBook) (g : FuncId) (caps : List D) (p : PBook → Bool) (hl : l.length < 4000000000000000000) (hp : ∀ x ∈ l, FnV Tryz.prog g (.agg x.cells :: caps) (.bool (p x))) :
  FnV Tryz.prog 108 [booksD l, .clo g caps] (i64 (indexOf p l 0)) := by
 refine fnV_of mixed tysOk Tryz.func108 rfl (ft := ft108) 2 (by decide +kernel) (by rfl) fun {σ} Y st => ?_
 conv=>whnf
 refine LoopA_i (T := tys) tysOk (by exact drawsB_spec mixed tysOk (by decide +kernel)) l (fun i (_ : Unit) => ⟨[(0, .d (booksD l)), (1, .d (.clo g caps)), (7, .d (i64 l.length)), (8, .d (i64 i))], [], st⟩) (fun i r _ => indexOf p l 0 = indexOf p r i) () (Wk.sub (by repeat' first|exact trivial|refine⟨?_,?_⟩|rfl|(simp only[List.length_map];rfl)|simp[PX.get]) trivial) rfl ?_ ?_
 ·intro i x r _ hx hi hr he
  rw [indexOf] at he
  conv=>whnf
  refine brk_i (fun _ => ?_) (fun h => absurd hi (by simpa using h))
  conv=>whnf
  refine elemK_nat hx ?_
  conv=>whnf
  refine CallA_v (hp x (List.mem_of_getElem? hx)) rfl rfl ?_
  conv=>whnf
  refine brk_i (fun h1 => ?_) (fun h1 => ?_)
  ·conv=>whnf
   rw [he, if_pos h1]
   exact RetA_view 0 rfl ⟨⟨rfl, rfl⟩, rfl⟩
  ·rw [if_neg (by simp [h1])] at he
   conv=>whnf
   refine arith_in (wrap_i64 (by (try dsimp only); omega)) ?_
   conv=>whnf
   exact ⟨(), he, (Wk.sub (by repeat' first|exact trivial|refine⟨?_,?_⟩|rfl|(simp only[List.length_map];rfl)|simp[PX.get]) trivial)⟩
 ·intro _ he
  conv=>whnf
  refine brk_i (fun h => absurd h (by simp)) (fun _ => ?_)
  conv=>whnf
  rw [he]
  exact RetA_view 0 rfl ⟨⟨rfl, rfl⟩, rfl⟩
theorem pa61 (l : List PBook) (g : FuncId) (caps : List D) (p : PBook → Bool) (hl : l.length < 4000000000000000000) (hp : ∀ x ∈ l, FnV Tryz.prog g (.agg x.cells :: caps) (.bool (p x))) :
  FnV Tryz.prog 61 [booksD l, .clo g caps] (.bool (l.any p)) := by
 refine fnV_of mixed tysOk Tryz.func61 rfl (ft := ft61) 2 (by decide +kernel) (by rfl) fun {σ} Y st => ?_
 conv=>whnf
 refine CallA_v (pa108 l g caps p hl hp) rfl rfl ?_
 conv=>whnf
 refine RetA_view 0 rfl ⟨⟨?_, rfl⟩, rfl⟩
 rw [← indexOf_any p l 0 (by omega)]; rfl
def headE (pre : List PBook) (b : PBook) : Int :=
 if nameF b.name then
  if pre.any (fun x => decide (x.name = b.name)) then 5
  else if outB b.off.lo (-720) 720 || outB b.off.hi (-720) 720 || outB b.set.lo (-720) 720 || outB b.set.hi (-720) 720 then 7
  else if decide (b.off.lo > b.off.hi) || decide (b.set.lo > b.set.hi) then 2
  else if b.ents.length > 8 then 3 else 0
 else 6
def entsE : List PEnt → Nat → Int × Int
 | [], _ => (0, 0)
 | y :: r, k => if entE y = 0 then entsE r (k + 1) else (k, entE y)
def booksE : List PBook → List PBook → Nat → Int × Int × Int
 | _, [], _ => (0, 0, 0)
 | pre, b :: r, i => if headE pre b = 0 then (if (entsE b.ents 0).2 = 0 then booksE (pre ++ [b]) r (i + 1) else ((i + 1 : Nat), (entsE b.ents 0).1, (entsE b.ents 0).2)) else ((i + 1 : Nat), 0, headE pre b)
def checkP (l : PLog) : Int × Int × Int :=
 if outB l.near 0 60 then (0, 0, 7) else if outB l.books.length 1 3 then (0, 0, 3) else booksE [] l.books 0
def triP (x : Int × Int × Int) : D := .tup [i64 x.1, i64 x.2.1, i64 x.2.2]
theorem out_4 (lo hi a b c d : Int) : FnV Tryz.prog 59 [i64 lo, i64 hi, .vs [[i64 a], [i64 b], [i64 c], [i64 d]]] (.bool (outB a lo hi || outB b lo hi || outB c lo hi || outB d lo hi)) := FnV.cast (fn51 lo hi [a, b, c, d] (by simp)) (by simp [outB, inB, Bool.or_assoc, Int.not_le]; grind)
theorem pa17 (l : PLog) : FnV Tryz.prog 17 [l.d] (triP (checkP l)) := by
 refine fnV_of mixed tysOk Tryz.func17 rfl (ft := ft17) 1 (by decide +kernel) (by rfl) fun {σ} Y st => ?_
 conv=>whnf
 unfold checkP
 refine CallA_view (out_1 0 60 _) rfl 1 rfl ?_
 cases h0 : outB l.near 0 60 with
 | true =>
  conv=>whnf
  exact RetA_view 0 rfl ⟨⟨rfl, rfl⟩, rfl⟩
 | false =>
  conv=>whnf
  refine CallA_view (out_1 1 3 l.books.length) rfl 1 (by
   show some _ = some _
   simp [booksD]) ?_
  conv=>whnf
  cases h1 : outB l.books.length 1 3 with
  | true =>
   conv=>whnf
   exact RetA_view 0 rfl ⟨⟨rfl, rfl⟩, rfl⟩
  | false =>
   have hlen : l.books.length ≤ 3 := by
    have h1 := h1
    unfold outB inB at h1
    simp at h1; omega
   simp only [if_false, Bool.false_eq_true]
   conv=>whnf
   generalize hK : booksE [] l.books 0 = K
   refine LoopA_i (T := tys) tysOk (by exact drawsB_spec mixed tysOk (by decide +kernel)) l.books (fun i (_ : Unit) => ⟨[(1, .ptr 1 0), (21, .d (booksD l.books)), (22, .d (i64 l.books.length)), (23, .d (i64 i))], [(1, .box (.dd l.cells))], st⟩)
    (fun i r _ => booksE (l.books.take i) r i = K) () (Wk.sub (by repeat' first|exact trivial|refine⟨?_,?_⟩|rfl|(simp only[List.length_map];rfl)|simp[PX.get]) ⟨(by first | rfl | (simp only [List.length_map]; rfl) | simp [PX.get]), trivial⟩) hK ?_ ?_
   ·rintro i b r _ hx hi hr he
    rw [booksE] at he
    have htk : l.books.take (i + 1) = l.books.take i ++ [b] := by rw [List.take_succ, hx]; rfl
    conv=>whnf
    refine brk_i (fun _ => ?_) (fun h => absurd hi (by simpa using h))
    conv=>whnf
    refine elemK_nat hx ?_
    conv=>whnf
    refine CallA_v (fn47 b.name) rfl rfl ?_
    unfold headE at he
    cases h2 : nameF b.name with
    | false =>
     rw [h2] at he
     simp only [if_false, Bool.false_eq_true] at he
     conv=>whnf
     refine arith_in (wrap_i64 (by (try dsimp only); omega)) ?_
     conv=>whnf
     rw [← he]
     exact RetA_view 0 rfl ⟨⟨rfl, rfl⟩, rfl⟩
    | true =>
     rw [h2] at he
     simp only [if_true] at he
     conv=>whnf
     refine chk_i (by simp; omega) ?_
     conv=>whnf
     refine chk_i (by cases l.books <;> rfl) ?_
     conv=>whnf
     refine CallA_view (ds := [booksD (l.books.take i), .clo 62 [.ref b.cells]]) (pa61 (l.books.take i) 62 [.ref b.cells] (fun y => decide (y.name = b.name)) (by simp; omega) fun y _ => pa62 y b) rfl 1 (by show some _ = some _; simp [booksD, List.map_take]; rfl) ?_
     generalize hany : ((l.books.take i).any fun y => decide (y.name = b.name)) = A at he ⊢
     cases A with
     | true =>
      simp only [if_true] at he
      conv=>whnf
      refine arith_in (wrap_i64 (by (try dsimp only); omega)) ?_
      conv=>whnf
      rw [← he]
      exact RetA_view 0 rfl ⟨⟨rfl, rfl⟩, rfl⟩
     | false =>
      simp only [if_false, Bool.false_eq_true] at he
      conv=>whnf
      refine CallA_view (out_4 (-720) 720 b.off.lo b.off.hi b.set.lo b.set.hi) rfl 1 rfl ?_
      generalize (outB b.off.lo (-720) 720 || outB b.off.hi (-720) 720 || outB b.set.lo (-720) 720 || outB b.set.hi (-720) 720) = A at he ⊢
      cases A with
      | true =>
       simp only [if_true] at he
       conv=>whnf
       refine arith_in (wrap_i64 (by (try dsimp only); omega)) ?_
       conv=>whnf
       rw [← he]
       exact RetA_view 0 rfl ⟨⟨rfl, rfl⟩, rfl⟩
      | false =>
       simp only [if_false, Bool.false_eq_true] at he
       conv=>whnf
       have e1 : decide (b.off.lo > b.off.hi) = decide (b.off.hi < b.off.lo) := rfl
       have e2 : decide (b.set.lo > b.set.hi) = decide (b.set.hi < b.set.lo) := rfl
       rw [e1, e2] at he
       generalize decide (b.off.hi < b.off.lo) = A at he ⊢
       cases A with
       | true =>
        simp only [Bool.true_or, if_true] at he
        conv=>whnf
        refine arith_in (wrap_i64 (by (try dsimp only); omega)) ?_
        conv=>whnf
        rw [← he]
        exact RetA_view 0 rfl ⟨⟨rfl, rfl⟩, rfl⟩
       | false =>
        simp only [Bool.false_or] at he
        conv=>whnf
        generalize decide (b.set.hi < b.set.lo) = B at he ⊢
        cases B with
        | true =>
         simp only [if_true] at he
         conv=>whnf
         refine arith_in (wrap_i64 (by (try dsimp only); omega)) ?_
         conv=>whnf
         rw [← he]
         exact RetA_view 0 rfl ⟨⟨rfl, rfl⟩, rfl⟩
        | false =>
         simp only [if_false, Bool.false_eq_true] at he
         conv=>whnf
         refine brk_i (fun h3 => ?_) (fun h3 => ?_)
         ·have h3 : b.ents.length > 8 := by have := of_decide_eq_true h3; simp at this; omega
          rw [if_pos h3] at he
          conv=>whnf
          refine arith_in (wrap_i64 (by (try dsimp only); omega)) ?_
          conv=>whnf
          rw [← he]
          exact RetA_view 0 rfl ⟨⟨rfl, rfl⟩, rfl⟩
         ·have h3 : ¬ b.ents.length > 8 := by have := of_decide_eq_false h3; simp at this; omega
          rw [if_neg h3, if_pos rfl] at he
          conv=>whnf
          generalize hE : entsE b.ents 0 = E at he
          refine LoopA_i (T := tys) tysOk (by exact drawsB_spec mixed tysOk (by decide +kernel)) b.ents (fun k (_ : Unit) => ⟨[(1, .ptr 1 0), (21, .d (booksD l.books)), (22, .d (i64 l.books.length)), (23, .d (i64 i)), (5, .d (i64 i)), (88, .d (entsD b.ents)), (89, .d (i64 b.ents.length)), (90, .d (i64 k))], [(1, .box (.dd l.cells))], st⟩)
           (fun k r _ => entsE r k = E) () (Wk.sub (by repeat' first|exact trivial|refine⟨?_,?_⟩|rfl|(simp only[List.length_map];rfl)|simp[PX.get]) ⟨(by first | rfl | (simp only [List.length_map]; rfl) | simp [PX.get]), trivial⟩) hE ?_ ?_
          ·rintro k y r2 _ hy hk hr2 he2
           rw [entsE] at he2
           conv=>whnf
           refine brk_i (fun _ => ?_) (fun h => absurd hk (by simpa using h))
           conv=>whnf
           refine elemK_nat hy ?_
           conv=>whnf
           refine CallA_v (pa63 y) rfl rfl ?_
           conv=>whnf
           refine brk_i (fun h4 => ?_) (fun h4 => ?_)
           ·have h4 : ¬ entE y = 0 := by simpa using h4
            rw [if_neg h4] at he2
            subst he2
            rw [if_neg h4] at he
            conv=>whnf
            refine arith_in (wrap_i64 (by (try dsimp only); omega)) ?_
            conv=>whnf
            rw [← he]
            exact RetA_view 0 rfl ⟨⟨rfl, rfl⟩, rfl⟩
           ·have h4 : entE y = 0 := by simpa using h4
            rw [if_pos h4] at he2
            conv=>whnf
            refine arith_in (wrap_i64 (by (try dsimp only); omega)) ?_
            conv=>whnf
            exact ⟨(), he2, (Wk.sub (by repeat' first|exact trivial|refine⟨?_,?_⟩|rfl|(simp only[List.length_map];rfl)|simp[PX.get]) ⟨(by first | rfl | (simp only [List.length_map]; rfl) | simp [PX.get]), trivial⟩)⟩
          ·rintro _ he2
           have he2 : ((0, 0) : Int × Int) = E := he2
           subst he2
           rw [if_pos rfl, ← htk] at he
           conv=>whnf
           refine brk_i (fun h => absurd h (by simp)) (fun _ => ?_)
           conv=>whnf
           refine arith_in (wrap_i64 (by (try dsimp only); omega)) ?_
           conv=>whnf
           exact ⟨(), he, (Wk.sub (by repeat' first|exact trivial|refine⟨?_,?_⟩|rfl|(simp only[List.length_map];rfl)|simp[PX.get]) ⟨(by first | rfl | (simp only [List.length_map]; rfl) | simp [PX.get]), trivial⟩)⟩
   ·rintro _ he
    rw [booksE] at he
    subst he
    conv=>whnf
    refine brk_i (fun h => absurd h (by simp)) (fun _ => ?_)
    conv=>whnf
    exact RetA_view 0 rfl ⟨⟨rfl, rfl⟩, rfl⟩
end Go.PX
namespace Go.PX
open Go.Proofs
section
variable {κ ν : Type} [DecidableEq κ] (kd : κ → D) (vd : ν → D)
def kvV (m : List (κ × ν)) : List (D × D) := m.map fun p => (kd p.1, vd p.2)
variable {kd vd}
theorem findV_none (hs : ∀ a b, sameD (kd a) (kd b) = some (decide (a = b))) {t : κ} : ∀ {m : List (κ × ν)}, getV m t = none → ∀ n, findD (kd t) (kvV kd vd m) n = some none
 | [], _, n => rfl
 | (u, x) :: r, h, n => by
  rw [getV] at h
  split at h
  ·cases h
  ·rename_i hu
   show (match sameD (kd t) (kd u) with
    | some true => some (some (n, vd x))
    | some false => findD (kd t) (kvV kd vd r) (n + 1)
    | none => none) = _
   rw [hs, decide_eq_false hu]
   exact findV_none hs h (n + 1)
theorem findV_some (hs : ∀ a b, sameD (kd a) (kd b) = some (decide (a = b))) {t : κ} {v : ν} : ∀ {m : List (κ × ν)}, getV m t = some v → ∀ n, ∃ i, i < m.length ∧ findD (kd t) (kvV kd vd m) n = some (some (n + i, vd v)) ∧ (∀ y, (kvV kd vd m).set i (kd t, vd y) = kvV kd vd (putV m t y)) ∧ setKey (kvV kd vd m) i (kd t) = kvV kd vd m ∧ ∀ y, setVal (kvV kd vd m) i (vd y) = kvV kd vd (putV m t y)
 | [], h, n => by cases h
 | (u, x) :: r, h, n => by
  rw [getV] at h
  split at h
  ·rename_i hu
   cases h
   subst hu
   refine ⟨0, by simp, ?_, fun y => ?_, rfl, fun y => ?_⟩
   ·show (match sameD (kd t) (kd t) with
     | some true => some (some (n, vd v))
     | some false => findD (kd t) (kvV kd vd r) (n + 1)
     | none => none) = _
    rw [hs, decide_eq_true rfl]; rfl
   ·rw [putV, if_pos rfl]; rfl
   ·rw [putV, if_pos rfl]; rfl
  ·rename_i hu
   obtain ⟨i, h0, h1, h2, h3, h4⟩ := findV_some hs h (n + 1)
   refine ⟨i + 1, by simp; omega, ?_, fun y => ?_, ?_, fun y => ?_⟩
   ·show (match sameD (kd t) (kd u) with
     | some true => some (some (n, vd x))
     | some false => findD (kd t) (kvV kd vd r) (n + 1)
     | none => none) = _
    rw [hs, decide_eq_false hu]
    show findD (kd t) (kvV kd vd r) (n + 1) = _
    rw [h1, show n + 1 + i = n + (i + 1) by omega]
   ·rw [putV, if_neg hu]
    show (kd u, vd x) :: (kvV kd vd r).set i (kd t, vd y) = (kd u, vd x) :: kvV kd vd (putV r t y)
    rw [h2 y]
   ·show (kd u, vd x) :: setKey (kvV kd vd r) i (kd t) = _
    rw [h3]; rfl
   ·rw [putV, if_neg hu]
    show (kd u, vd x) :: setVal (kvV kd vd r) i (vd y) = (kd u, vd x) :: kvV kd vd (putV r t y)
    rw [h4 y]
theorem putV2_none {t : κ} (y : ν) : ∀ {m : List (κ × ν)}, getV m t = none → kvV kd vd m ++ [(kd t, vd y)] = kvV kd vd (putV m t y)
 | [], _ => rfl
 | (u, x) :: r, h => by
  rw [getV] at h
  split at h
  ·cases h
  ·rename_i hu
   rw [putV, if_neg hu]
   show (kd u, vd x) :: (kvV kd vd r ++ [(kd t, vd y)]) = _
   rw [putV2_none y h]; rfl
end
def i64D (n : Int) : D := i64 n
theorem same_per (a b : Per) : sameD a.d b.d = some (decide (a = b)) := by
 show some (decide (a.book = b.book) && (decide (a.n = b.n) && true)) = _
 congr 1
 cases a; cases b
 simp
theorem same_int (a b : Int) : sameD (i64D a) (i64D b) = some (decide (a = b)) := rfl
def pmD (m : PM) : List (D × D) := kvV Per.d i64D m
def stepsD (l : List PStep) : D := .vs (l.map stepC)
def persD (l : List (List Per)) : D := .vs (l.map fun r => [.vs (r.map Per.cells)])
def lookC (l : PLog) (x : LkS) : List D := [i64 l.near, booksD l.books, stepsD x.steps, persD x.pers, i64 x.many]
def lookD (l : PLog) (x : LkS) : D := .ref (lookC l x)
end Go.PX
