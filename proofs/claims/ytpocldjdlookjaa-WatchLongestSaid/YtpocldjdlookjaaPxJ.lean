import Derived.Test.YtpocldjdlookjaaPxI
import Derived.Test.YtpocldjdlookjaaPxH
set_option linter.all false
set_option maxRecDepth 10000
namespace Go.PX
open Go.Proofs

theorem checkC_alt (c : Case) : checkC c = if (chainE c.chain).2.2 = 0 then restE c else chainE c.chain := by
  unfold checkC chainE rowsE
  by_cases h0 : plainF c.chain = 0
  · simp only [h0, if_true]
    grind
  · simp [h0]

theorem chainE_lens {c : Chain} (h : (chainE c).2.2 = 0) : c.shots.length ≤ 7 ∧ c.rows.length ≤ 6 := by
  apply plain_lens
  unfold chainE at h
  by_cases h0 : plainF c = 0
  · exact h0
  · rw [if_neg h0] at h; exact h

end Go.PX

namespace Go.PX
open Go.Proofs

/-- The truths with which gaugings agree, wear by wear. -/
def truthsL (set off : Int) (new : Int × Int) (gs : List Gauge) : Nat → Int → List (Int × (Int × Int))
  | 0, _ => []
  | n + 1, wear => match fitsF set off wear new gs with
    | none => truthsL set off new gs n (wear + 1)
    | some f => (wear, f) :: truthsL set off new gs n (wear + 1)

def truthsS (s : Shot) (off : Int) (gs : List Gauge) : List (Int × (Int × Int)) := truthsL s.set off (s.new.lo, s.new.hi) gs (s.wear.hi + 1 - s.wear.lo).toNat s.wear.lo

def truthD (t : Int × (Int × Int)) : D := .agg [i64 t.1, i64 t.2.1, i64 t.2.2]

def sCells (s : Shot) (off : Int) : List D := s.cells ++ [i64 off]

/-- What is needed of a shot that is looked at. -/
structure LookOk (s : Shot) (off : Int) (gs : List Gauge) : Prop where
  off : 0 ≤ off ∧ off ≤ 1000000
  shot : ShotOk s
  gok : ∀ g ∈ gs, gaugeOk g
  len : gs.length < 1000000

theorem lost_bd {wear day set : Int} (hw : 0 ≤ wear ∧ wear ≤ 1000000) (hd : 0 ≤ day ∧ day ≤ 1000000) (hs : 0 ≤ set ∧ set ≤ 1000000) : -1000000000000 ≤ wear * (day - set) ∧ wear * (day - set) ≤ 1000000000000 := by
  have := mul_bd (a := wear) (b := day - set) 1000000 1000000 (by omega) (by omega)
  omega

def thickStep (set day : Int) (acc : Span × Bool) (t : Int × (Int × Int)) : Span × Bool :=
  let out := if acc.2 then acc.1 else ⟨onF set t.2.1 t.1 day, onF set t.2.2 t.1 day⟩
  (⟨min out.lo (onF set t.2.1 t.1 day), max out.hi (onF set t.2.2 t.1 day)⟩, true)

theorem thick_eq (set off day : Int) (new : Int × Int) (gs : List Gauge) : ∀ (n : Nat) (wear : Int) (acc : Span × Bool), rangeF set off day new gs n wear acc = (truthsL set off new gs n wear).foldl (thickStep set day) acc
  | 0, wear, acc => rfl
  | n + 1, wear, acc => by
    simp only [rangeF, truthsL]
    cases fitsF set off wear new gs with
    | none => exact thick_eq set off day new gs n (wear + 1) acc
    | some f => exact thick_eq set off day new gs n (wear + 1) _

theorem rangeS_fold (s : Shot) (off : Int) (gs : List Gauge) (day : Int) : rangeS s off gs day = (truthsS s off gs).foldl (thickStep s.set day) (⟨0, 0⟩, false) := thick_eq _ _ _ _ _ _ _ _

theorem truthsL_ok {set off : Int} {new : Int × Int} {gs : List Gauge} (hn : 0 ≤ new.1 ∧ new.1 ≤ new.2 ∧ new.2 ≤ 1000000) : ∀ (n : Nat) (wear : Int), 0 ≤ wear → wear + n ≤ 1000000 → ∀ t ∈ truthsL set off new gs n wear, (0 ≤ t.1 ∧ t.1 ≤ 1000000) ∧ (0 ≤ t.2.1 ∧ t.2.1 ≤ 1000000) ∧ (0 ≤ t.2.2 ∧ t.2.2 ≤ 1000000)
  | 0, wear, h0, h1, t, ht => by cases ht
  | n + 1, wear, h0, h1, t, ht => by
    simp only [truthsL] at ht
    split at ht
    · exact truthsL_ok hn n (wear + 1) (by omega) (by omega) t ht
    · rename_i f hf
      rcases List.mem_cons.1 ht with rfl | ht
      · have := fitsF_le hn.2.1 hf
        simp only; omega
      · exact truthsL_ok hn n (wear + 1) (by omega) (by omega) t ht

theorem truthsS_ok {s : Shot} {off : Int} {gs : List Gauge} (h : LookOk s off gs) : ∀ t ∈ truthsS s off gs, (0 ≤ t.1 ∧ t.1 ≤ 1000000) ∧ (0 ≤ t.2.1 ∧ t.2.1 ≤ 1000000) ∧ (0 ≤ t.2.2 ∧ t.2.2 ≤ 1000000) := by
  obtain ⟨hoff, ⟨hset, hnew, hwear⟩, hg, hlen⟩ := h
  exact truthsL_ok (by simp only; omega) _ _ (by omega) (by omega)
end Go.PX

namespace Go.PX
open Go.Proofs

end Go.PX

namespace Go.PX
open Go.Proofs

theorem rangeS_some (s : Shot) (off : Int) (gs : List Gauge) (day : Int) : (rangeS s off gs day).2 = !(truthsS s off gs).isEmpty := by
  rw [rangeS_fold]
  cases truthsS s off gs with
  | nil => rfl
  | cons t r =>
    rw [List.foldl_cons]
    have : ∀ (l : List (Int × (Int × Int))) (acc : Span × Bool), acc.2 = true → (l.foldl (thickStep s.set day) acc).2 = true := by
      intro l
      induction l with
      | nil => exact fun _ h => h
      | cons a l ih => exact fun acc _ => ih _ rfl
    exact this r _ rfl
end Go.PX

namespace Go.PX
open Go.Proofs

/-- The error of a case and the index of a shot. -/
def openE (c : Case) (i : Int) : Int :=
  if (checkC c).2.2 = 0 then (if inB i 0 ((c.chain.shots.length : Int) - 1) then 0 else 4) else (checkC c).2.2

theorem inB_get {l : List Shot} {i : Int} (h : inB i 0 ((l.length : Int) - 1) = true) : ∃ s, 0 ≤ i ∧ l[i.toNat]? = some s := by
  simp only [inB, Bool.and_eq_true, decide_eq_true_eq] at h
  exact ⟨_, h.1, List.getElem?_eq_getElem (by omega)⟩

/-- The cells of a shot that is asked for; none are, if there is an error. -/
def openD (c : Case) (i : Int) : D :=
  if openE c i = 0 then (match c.chain.shots[i.toNat]? with
    | some s => .agg (sCells s c.chain.err)
    | none => .nilp) else .agg [.str ⟨#[]⟩, i64 0, i64 0, i64 0, i64 0, i64 0, i64 0, .nils, i64 0]

theorem chainE_ok {c : Case} (h : (checkC c).2.2 = 0) : (chainE c.chain).2.2 = 0 := by
  rw [checkC_alt] at h
  by_cases h0 : (chainE c.chain).2.2 = 0
  · exact h0
  · rw [if_neg h0] at h; exact absurd h h0

theorem case_lens {c : Case} (h : (checkC c).2.2 = 0) : c.chain.shots.length ≤ 7 ∧ c.chain.rows.length ≤ 6 := chainE_lens (chainE_ok h)

theorem firstE_all {α : Type} {f : List α → α → Int} : ∀ {l : List α} {b : List α} {i : Int}, (firstE f b l i).2 = 0 → ∀ x ∈ l, ∃ b', f b' x = 0
  | [], _, _, _, x, hx => by cases hx
  | y :: r, b, i, h, x, hx => by
    simp only [firstE] at h
    split at h
    · rename_i h0
      rcases List.mem_cons.1 hx with rfl | hx
      · exact ⟨b, h0⟩
      · exact firstE_all h x hx
    · rename_i h0; exact absurd h h0

theorem inB_iff {n lo hi : Int} : inB n lo hi = true ↔ lo ≤ n ∧ n ≤ hi := by
  simp [inB]

theorem gaugesL_ok {set : Int} : ∀ {l : List Gauge} {last : Int}, gaugesL set last l = 0 → ∀ g ∈ l, (set ≤ g.day ∧ g.day ≤ 40000) ∧ (0 ≤ g.shown ∧ g.shown ≤ 60000)
  | [], _, _, g, hg => by cases hg
  | x :: r, last, h, g, hg => by
    simp only [gaugesL] at h
    split at h
    · rename_i h1
      simp only [Bool.and_eq_true, inB_iff] at h1
      split at h
      · cases h
      · rcases List.mem_cons.1 hg with rfl | hg
        · exact h1
        · exact gaugesL_ok h g hg
    · cases h

/-- What holds of a shot without an error. -/
structure ShotR (s : Shot) : Prop where
  links : 1 ≤ s.links ∧ s.links ≤ 40
  set : 0 ≤ s.set ∧ s.set ≤ 40000
  new : 1 ≤ s.new.lo ∧ s.new.lo ≤ s.new.hi ∧ s.new.hi ≤ 60000
  wear : 0 ≤ s.wear.lo ∧ s.wear.lo ≤ s.wear.hi ∧ s.wear.hi ≤ 20
  len : s.gauges.length ≤ 6
  gauges : ∀ g ∈ s.gauges, (s.set ≤ g.day ∧ g.day ≤ 40000) ∧ (0 ≤ g.shown ∧ g.shown ≤ 60000)

theorem checkF_ok {s : Shot} (h : checkF s = 0) : ShotR s := by
  unfold checkF at h
  split at h
  · rename_i h1
    simp only [Bool.and_eq_true, inB_iff] at h1
    split at h
    · cases h
    · split at h
      · cases h
      · refine ⟨by omega, by omega, by omega, by omega, by omega, gaugesL_ok h⟩
  · cases h

/-- What holds of a case without an error. -/
structure CaseR (c : Case) : Prop where
  lens : 1 ≤ c.chain.shots.length ∧ c.chain.shots.length ≤ 7
  rlen : 1 ≤ c.chain.rows.length ∧ c.chain.rows.length ≤ 6
  long : 1 ≤ c.chain.long ∧ c.chain.long ≤ 50
  heavy : 0 ≤ c.chain.heavy ∧ c.chain.heavy ≤ 200
  err : 0 ≤ c.chain.err ∧ c.chain.err ≤ 2000
  hold : 0 ≤ c.chain.hold.lo ∧ c.chain.hold.lo ≤ c.chain.hold.hi ∧ c.chain.hold.hi ≤ 200000
  shots : ∀ s ∈ c.chain.shots, ShotR s ∧ s.set ≤ c.day
  rows : ∀ r ∈ c.chain.rows, (1 ≤ r.scope ∧ r.scope ≤ 200) ∧ (1 ≤ r.holds ∧ r.holds ≤ 1000)
  ship : (0 ≤ c.ship.wind ∧ c.ship.wind ≤ 10000) ∧ (0 ≤ c.ship.current ∧ c.ship.current ≤ 10000) ∧ (0 ≤ c.ship.swell ∧ c.ship.swell ≤ 10000) ∧ (0 ≤ c.ship.yaw ∧ c.ship.yaw ≤ 20)
  day : 0 ≤ c.day ∧ c.day ≤ 40000
  wlen : 1 ≤ c.weathers.length ∧ c.weathers.length ≤ 6
  weathers : ∀ w ∈ c.weathers, (1 ≤ w.depth.lo ∧ w.depth.lo ≤ w.depth.hi ∧ w.depth.hi ≤ 1000) ∧ (0 ≤ w.wind.lo ∧ w.wind.lo ≤ w.wind.hi ∧ w.wind.hi ≤ 80) ∧ (0 ≤ w.current.lo ∧ w.current.lo ≤ w.current.hi ∧ w.current.hi ≤ 80) ∧ (0 ≤ w.swell.lo ∧ w.swell.lo ≤ w.swell.hi ∧ w.swell.hi ≤ 150)

theorem case_ok {c : Case} (h : (checkC c).2.2 = 0) : CaseR c := by
  unfold checkC at h
  split at h
  case isFalse h0 => exact absurd h h0
  rename_i hp
  simp only at h
  split at h
  case isFalse h0 => exact absurd h h0
  rename_i hs
  unfold rowsE at h
  simp only at h
  split at h
  case isFalse h0 => exact absurd h h0
  rename_i hr
  unfold restE at h
  split at h
  case isFalse => cases h
  rename_i h1
  split at h
  case isFalse => cases h
  rename_i h2
  split at h
  case isTrue => cases h
  rename_i h3
  split at h
  case isFalse => cases h
  rename_i h4
  simp only at h
  split at h
  case isFalse h0 => exact absurd h h0
  rename_i hw
  unfold plainF at hp
  split at hp
  case isFalse => cases hp
  rename_i p1
  split at hp
  case isFalse => cases hp
  rename_i p2
  split at hp
  case isTrue => cases hp
  rename_i p3
  simp only [Bool.and_eq_true, inB_iff] at h1 h2 h4 p1 p2
  refine ⟨by omega, by omega, by omega, by omega, by omega, by omega, fun s hm => ⟨?_, ?_⟩, fun r hm => ?_, by omega, by omega, by omega, fun w hm => ?_⟩
  · obtain ⟨b, hb⟩ := firstE_all hs s hm
    unfold shotE at hb
    split at hb
    · split at hb
      · cases hb
      · exact checkF_ok hb
    · cases hb
  · rw [Bool.not_eq_true, List.any_eq_false] at h3
    have := h3 s hm
    simp at this; exact this
  · obtain ⟨b, hb⟩ := firstE_all hr r hm
    unfold rowE at hb
    split at hb
    · rename_i q; simp only [Bool.and_eq_true, inB_iff] at q; exact q
    · cases hb
  · obtain ⟨b, hb⟩ := firstE_all hw w hm
    unfold weatherE at hb
    split at hb
    · rename_i q
      simp only [Bool.and_eq_true, inB_iff] at q
      split at hb
      · cases hb
      · omega
    · cases hb

theorem CaseR.look {c : Case} (h : CaseR c) {s : Shot} (hs : s ∈ c.chain.shots) : LookOk s c.chain.err s.gauges := by
  obtain ⟨⟨h1, h2, h3, h4, h5, h6⟩, h7⟩ := h.shots s hs
  have he := h.err
  refine ⟨by omega, ⟨by omega, by omega, by omega⟩, fun g hg => ?_, by omega⟩
  have := h6 g hg
  unfold gaugeOk
  omega

/-- How thick a shot can be on a day, and the error. -/
def thickE (c : Case) (i day : Int) : Span × Int :=
  if openE c i = 0 then (match c.chain.shots[i.toNat]? with
    | some s => if inB day s.set 40000 then (if (rangeS s c.chain.err s.gauges day).2 then ((rangeS s c.chain.err s.gauges day).1, 0) else (⟨0, 0⟩, 9)) else (⟨0, 0⟩, 7)
    | none => (⟨0, 0⟩, 0)) else (⟨0, 0⟩, openE c i)

theorem openE_ok {c : Case} {i : Int} (h : openE c i = 0) : (checkC c).2.2 = 0 ∧ ∃ s, 0 ≤ i ∧ c.chain.shots[i.toNat]? = some s := by
  unfold openE at h
  split at h
  · rename_i h0
    split at h
    · rename_i h1
      obtain ⟨s, h2, h3⟩ := inB_get h1
      exact ⟨h0, s, h2, h3⟩
    · cases h
  · rename_i h0; exact absurd h h0

end Go.PX

namespace Go.PX
open Go.Proofs

/-- The first ascending list that goes on so and is wanted. -/
def fillF {τ : Type} (wf : List Int → τ × Bool) (many : Nat) : Nat → List Int → Nat → Option (List Int × τ)
  | 0, p, _ => if (wf p).2 then some (p, (wf p).1) else none
  | left + 1, p, start => (List.range' start (many - left - start)).findSome? fun (i : Nat) => fillF wf many left (p ++ [(i : Int)]) (i + 1)

def intsC (l : List Int) : List (List D) := l.map fun n => [i64 n]

def fillArgs (start left : Nat) : List V := [.d (i64 start), .d (i64 left), .ptr 1000000 0, .ptr 1000001 0, .ptr 1000002 0, .ptr 1000003 0, .ptr 1000004 0, .ptr 1000005 0]

def fillCaps : List V := [.ptr 1000000 0, .ptr 1000001 0, .ptr 1000002 0, .ptr 1000003 0, .ptr 1000004 0, .ptr 1000005 0]

/-- The boxes of a search, and its buffer. -/
def fillH (f g : FuncId) (caps : List D) (many : Nat) (k : Nat) (n : Nat) (p : List Int) (x is : D) : Heap :=
  [(1000000, .box (.dd [.clo g caps])), (1000001, .box (.vv [.sl k 1 0 n])), (1000002, .box (.dd [x])), (1000003, .box (.dd [is])), (1000004, .box (.dd [i64 many])), (1000005, .box (.vv [.clo f fillCaps])), (k, .arr 1 (.dd (intsC p)))]

/-- What is searched for. -/
def Want96 (g : FuncId) (caps : List D) (wf : List Int → Int × Bool) (many : Nat) : Prop :=
  ∀ q : List Int, (∀ i ∈ q, 0 ≤ i ∧ i < many) → q.length ≤ many → FnV Try.prog g (intsD q :: caps) (.tup [i64 (wf q).1, .bool (wf q).2])

end Go.PX

namespace Go.PX
open Go.Proofs

/-- The first one of the shortest lists that are wanted. -/
def chooseF {τ : Type} (wf : List Int → τ × Bool) (many : Nat) : Option (List Int × τ) := (List.range' 0 (many + 1)).findSome? fun (n : Nat) => fillF wf many n [] 0

theorem fillF_len {τ : Type} {wf : List Int → τ × Bool} {many : Nat} : ∀ {left : Nat} {p : List Int} {start : Nat} {q : List Int} {y : τ}, fillF wf many left p start = some (q, y) → q.length = p.length + left
  | 0, p, start, q, y, h => by
    simp only [fillF] at h
    split at h
    · cases h; rfl
    · cases h
  | left + 1, p, start, q, y, h => by
    simp only [fillF] at h
    obtain ⟨i, hi, h1⟩ := List.exists_of_findSome?_eq_some h
    have := fillF_len h1
    simp at this; omega

theorem fn98 (l : List Int) (v : Int) (hl : l.length < 4000000000000000000) : FnV Try.prog 113 [intsD l, i64 v] (i64 (indexOf (fun x => decide (v = x)) l 0)) := by
  refine fnV_of mixed tysOk Try.func113 rfl (ft := ft113) 2 (by decide +kernel) (by rfl) fun {σ} Y st => ?_
  conv => whnf
  refine LoopA_i (T := tys) tysOk (by exact drawsB_spec mixed tysOk (by decide +kernel)) l (fun i (_ : Unit) => ⟨[(0, .d (intsD l)), (1, .d (i64 v)), (7, .d (i64 l.length)), (8, .d (i64 i))], [], st⟩) (fun i r _ => indexOf (fun x => decide (v = x)) l 0 = indexOf (fun x => decide (v = x)) r i) ()
    (Wk.sub ⟨(by first | rfl | (simp only [List.length_map]; rfl) | simp [PX.get]), (by first | rfl | (simp only [List.length_map]; rfl) | simp [PX.get]), (by first | rfl | (simp only [List.length_map]; rfl) | simp [PX.get]), (by first | rfl | (simp only [List.length_map]; rfl) | simp [PX.get]), trivial⟩ trivial) rfl ?_ ?_
  · intro i x r _ hx hi hr he
    rw [indexOf] at he
    conv => whnf
    refine brk_i (fun _ => ?_) (fun h => absurd hi (by simpa using h))
    conv => whnf
    refine elemK_nat hx ?_
    conv => whnf
    refine brk_i (fun h1 => ?_) (fun h1 => ?_)
    · conv => whnf
      rw [if_pos h1] at he
      rw [he]
      exact RetA_view 0 rfl ⟨⟨rfl, rfl⟩, rfl⟩
    · conv => whnf
      rw [if_neg (by simp [h1])] at he
      refine arith_in (wrap_i64 (by (try dsimp only); omega)) ?_
      conv => whnf
      exact ⟨(), he, (Wk.sub ⟨(by first | rfl | (simp only [List.length_map]; rfl) | simp [PX.get]), (by first | rfl | (simp only [List.length_map]; rfl) | simp [PX.get]), (by first | rfl | (simp only [List.length_map]; rfl) | simp [PX.get]), (by first | rfl | (simp only [List.length_map]; rfl) | simp [PX.get]), trivial⟩ trivial)⟩
  · intro _ he
    conv => whnf
    refine brk_i (fun h => absurd h (by simp)) (fun _ => ?_)
    conv => whnf
    rw [he]
    exact RetA_view 0 rfl ⟨⟨rfl, rfl⟩, rfl⟩

theorem fn63 (l : List Int) (v : Int) (hl : l.length < 4000000000000000000) : FnV Try.prog 106 [intsD l, i64 v] (.bool (decide (v ∈ l))) := by
  refine fnV_of mixed tysOk Try.func106 rfl (ft := ft106) 2 (by decide +kernel) (by rfl) fun {σ} Y st => ?_
  conv => whnf
  refine CallA_v (fn98 l v hl) rfl rfl ?_
  conv => whnf
  refine RetA_view 0 rfl ⟨⟨?_, rfl⟩, rfl⟩
  have h1 := indexOf_any (fun x => decide (v = x)) l 0 (by omega)
  have h2 : (l.any fun x => decide (v = x)) = decide (v ∈ l) := by
    rw [Bool.eq_iff_iff]; simp
  rw [← h2, ← h1]; rfl

/-- What is wanted of doubts: the others do not contradict each other. -/
def doubtW (s : Shot) (off : Int) (q : List Int) : Int × Bool := ((withoutF q s.gauges 0).length, !(truthsS s off (withoutF q s.gauges 0)).isEmpty)

theorem withoutF_mem {α : Type} {q : List Int} : ∀ {l : List α} {i : Int}, ∀ x ∈ withoutF q l i, x ∈ l
  | [], i, x, h => by cases h
  | a :: r, i, x, h => by
    simp only [withoutF] at h
    split at h
    · exact List.mem_cons_of_mem _ (withoutF_mem x h)
    · rcases List.mem_cons.1 h with rfl | h
      · simp
      · exact List.mem_cons_of_mem _ (withoutF_mem x h)

theorem withoutF_len {α : Type} {q : List Int} : ∀ {l : List α} {i : Int}, (withoutF q l i).length ≤ l.length
  | [], i => by simp [withoutF]
  | a :: r, i => by
    simp only [withoutF]
    split
    · have := withoutF_len (q := q) (l := r) (i := i + 1); simp; omega
    · have := withoutF_len (q := q) (l := r) (i := i + 1); simp; omega

theorem LookOk.sub {s : Shot} {off : Int} {gs gs' : List Gauge} (h : LookOk s off gs) (hm : ∀ g ∈ gs', g ∈ gs) (hl : gs'.length ≤ gs.length) : LookOk s off gs' := ⟨h.off, h.shot, fun g hg => h.gok g (hm g hg), by have := h.len; omega⟩

def doubtsQ (s : Shot) (off : Int) : List Int :=
  match chooseF (doubtW s off) s.gauges.length with
  | some (q, _) => q
  | none => []

def doubtsE (c : Case) (i : Int) : List Int :=
  if openE c i = 0 then (match c.chain.shots[i.toNat]? with
    | some s => doubtsQ s c.chain.err
    | none => []) else []

end Go.PX

namespace Go.PX
open Go.Proofs

/- Watch: the plain data, and the looks at it. -/

theorem wa87 (n lo hi : Int) : FnV Try.prog 87 [i64 n, .ref [i64 lo], .ref [i64 hi]] (.bool (decide (n < lo) || decide (n > hi))) := by
  refine fnV_of mixed tysOk Try.func87 rfl (ft := ft87) 3 (by decide +kernel) (by rfl) fun {σ} Y st => ?_
  conv => whnf
  refine brk_i (fun hb => ?_) (fun hb => ?_)
  · have hb : n < lo := by simpa using hb
    conv => whnf
    refine RetA_view 0 rfl ⟨⟨?_, rfl⟩, rfl⟩
    simp_all [packD, hb]
  · have hb : ¬ n < lo := by simpa using hb
    conv => whnf
    refine RetA_view 0 rfl ⟨⟨?_, rfl⟩, rfl⟩
    simp [packD, hb]

theorem wa55 (lo hi : Int) (l : List Int) (hl : l.length < 4000000000000000000) : FnV Try.prog 55 [i64 lo, i64 hi, intsD l] (.bool (l.any fun n => decide (n < lo) || decide (n > hi))) := by
  refine fnV_of mixed tysOk Try.func55 rfl (ft := ft55) 3 (by decide +kernel) (by rfl) fun {σ} Y st => ?_
  conv => whnf
  refine CallA_view (fn86 l 87 [.ref [i64 lo], .ref [i64 hi]] (fun n => decide (n < lo) || decide (n > hi)) hl fun x _ => wa87 x lo hi) rfl 1 rfl ?_
  conv => whnf
  exact RetA_view 0 rfl ⟨⟨rfl, rfl⟩, rfl⟩

theorem outB (n lo hi : Int) : (decide (n < lo) || decide (n > hi)) = !inB n lo hi := by
  unfold inB
  rw [Bool.eq_iff_iff]
  simp

theorem wa55_1 (lo hi a : Int) : FnV Try.prog 55 [i64 lo, i64 hi, .vs [[i64 a]]] (.bool (!inB a lo hi)) := by
  exact FnV.cast (wa55 lo hi [a] (by simp)) (by simp [outB])

/-- The error of an ascending list of indices, behind its last one. -/
def ascF (many : Int) : Int → List Int → Int
  | _, [] => 0
  | last, i :: r => if inB i 0 (many - 1) then (if i ≤ last then 2 else ascF many i r) else 4

theorem wa59 (l : List Int) (many : Int) (hm : 0 ≤ many ∧ many ≤ 1000000) : FnV Try.prog 59 [intsD l, i64 many] (i64 (ascF many (-1) l)) := by
  refine fnV_of mixed tysOk Try.func59 rfl (ft := ft59) 2 (by decide +kernel) (by rfl) fun {σ} Y st => ?_
  conv => whnf
  refine LoopA_i (T := tys) tysOk (by exact drawsB_spec mixed tysOk (by decide +kernel)) l (fun i (last : Int) => ⟨[(1, .d (i64 many)), (5, .d (i64 last)), (8, .d (intsD l)), (9, .d (i64 l.length)), (10, .d (i64 i))], [], st⟩) (fun i r last => ascF many (-1) l = ascF many last r ∧ (i : Int) ≤ last + 1 ∧ last < many ∧ -1 ≤ last) (-1) (Wk.sub ⟨(by first | rfl | (simp only [List.length_map]; rfl) | simp [PX.get]), (by first | rfl | (simp only [List.length_map]; rfl) | simp [PX.get]), (by first | rfl | (simp only [List.length_map]; rfl) | simp [PX.get]), (by first | rfl | (simp only [List.length_map]; rfl) | simp [PX.get]), (by first | rfl | (simp only [List.length_map]; rfl) | simp [PX.get]), trivial⟩ trivial) ⟨rfl, by omega, by omega, by omega⟩ ?_ ?_
  · intro i x r last hx hi hr he
    obtain ⟨he, h1, h2, h3⟩ := he
    rw [ascF] at he
    conv => whnf
    refine brk_i (fun _ => ?_) (fun h => absurd hi (by simpa using h))
    conv => whnf
    refine elemK_nat hx ?_
    conv => whnf
    refine arith_in (wrap_i64 (by (try dsimp only); omega)) ?_
    conv => whnf
    refine CallA_view (wa55_1 0 (many - 1) x) rfl 1 rfl ?_
    conv => whnf
    refine brk_i (fun h4 => ?_) (fun h4 => ?_)
    · have h4 : inB x 0 (many - 1) = false := by simpa using h4
      conv => whnf
      rw [he, h4]
      exact RetA_view 0 rfl ⟨⟨rfl, rfl⟩, rfl⟩
    have h4 : inB x 0 (many - 1) = true := by simpa using h4
    rw [h4, if_pos rfl] at he
    rw [inB_iff] at h4
    conv => whnf
    refine brk_i (fun h5 => ?_) (fun h5 => ?_)
    · have h5 : x ≤ last := by simpa using h5
      conv => whnf
      rw [he, if_pos h5]
      exact RetA_view 0 rfl ⟨⟨rfl, rfl⟩, rfl⟩
    have h5 : ¬ x ≤ last := by simpa using h5
    rw [if_neg h5] at he
    conv => whnf
    refine arith_in (wrap_i64 (by (try dsimp only); omega)) ?_
    conv => whnf
    exact ⟨x, ⟨he, by omega, by omega, by omega⟩, (Wk.sub ⟨(by first | rfl | (simp only [List.length_map]; rfl) | simp [PX.get]), (by first | rfl | (simp only [List.length_map]; rfl) | simp [PX.get]), (by first | rfl | (simp only [List.length_map]; rfl) | simp [PX.get]), (by first | rfl | (simp only [List.length_map]; rfl) | simp [PX.get]), (by first | rfl | (simp only [List.length_map]; rfl) | simp [PX.get]), trivial⟩ trivial)⟩
  · intro last he
    conv => whnf
    refine brk_i (fun h => absurd h (by simp)) (fun _ => ?_)
    conv => whnf
    rw [he.1]
    exact RetA_view 0 rfl ⟨⟨rfl, rfl⟩, rfl⟩

structure Man where
  name : ByteArray
  kind : Int
  no : List Int
  deriving DecidableEq

structure Slot where
  men : Int
  least : Int
  deriving DecidableEq

structure WCase where
  men : List Man
  slots : List Slot
  run : Int
  rest : Int
  deriving DecidableEq

def Man.cells (m : Man) : List D := [.str m.name, i64 m.kind, intsD m.no]
def Slot.cells (s : Slot) : List D := [i64 s.men, i64 s.least]
def mansD (l : List Man) : D := .vs (l.map Man.cells)
def slotsD (l : List Slot) : D := .vs (l.map Slot.cells)
def WCase.cells (c : WCase) : List D := [mansD c.men, slotsD c.slots, i64 c.run, i64 c.rest]
def WCase.d (c : WCase) : D := .agg c.cells
def rotaD (l : List (List Int)) : D := .vs (l.map fun r => [intsD r])

theorem wa58 (y x : Man) : FnV Try.prog 58 [.agg y.cells, .ref x.cells] (.bool (decide (y.name = x.name))) := by
  refine fnV_of mixed tysOk Try.func58 rfl (ft := ft58) 2 (by decide +kernel) (by rfl) fun {σ} Y st => ?_
  conv => whnf
  exact RetA_view 0 rfl ⟨⟨rfl, rfl⟩, rfl⟩

theorem wa88 (l : List Man) (g : FuncId) (caps : List D) (p : Man → Bool) (hl : l.length < 4000000000000000000) (hp : ∀ x ∈ l, FnV Try.prog g (.agg x.cells :: caps) (.bool (p x))) :
    FnV Try.prog 88 [mansD l, .clo g caps] (i64 (indexOf p l 0)) := by
  refine fnV_of mixed tysOk Try.func88 rfl (ft := ft88) 2 (by decide +kernel) (by rfl) fun {σ} Y st => ?_
  conv => whnf
  refine LoopA_i (T := tys) tysOk (by exact drawsB_spec mixed tysOk (by decide +kernel)) l (fun i (_ : Unit) => ⟨[(0, .d (mansD l)), (1, .d (.clo g caps)), (7, .d (i64 l.length)), (8, .d (i64 i))], [], st⟩) (fun i r _ => indexOf p l 0 = indexOf p r i) () (Wk.sub ⟨(by first | rfl | (simp only [List.length_map]; rfl) | simp [PX.get]), (by first | rfl | (simp only [List.length_map]; rfl) | simp [PX.get]), (by first | rfl | (simp only [List.length_map]; rfl) | simp [PX.get]), (by first | rfl | (simp only [List.length_map]; rfl) | simp [PX.get]), trivial⟩ trivial) rfl ?_ ?_
  · intro i x r _ hx hi hr he
    rw [indexOf] at he
    conv => whnf
    refine brk_i (fun _ => ?_) (fun h => absurd hi (by simpa using h))
    conv => whnf
    refine elemK_nat hx ?_
    conv => whnf
    refine CallA_v (hp x (List.mem_of_getElem? hx)) rfl rfl ?_
    conv => whnf
    refine brk_i (fun h1 => ?_) (fun h1 => ?_)
    · conv => whnf
      rw [he, if_pos h1]
      exact RetA_view 0 rfl ⟨⟨rfl, rfl⟩, rfl⟩
    · rw [if_neg (by simp [h1])] at he
      conv => whnf
      refine arith_in (wrap_i64 (by (try dsimp only); omega)) ?_
      conv => whnf
      exact ⟨(), he, (Wk.sub ⟨(by first | rfl | (simp only [List.length_map]; rfl) | simp [PX.get]), (by first | rfl | (simp only [List.length_map]; rfl) | simp [PX.get]), (by first | rfl | (simp only [List.length_map]; rfl) | simp [PX.get]), (by first | rfl | (simp only [List.length_map]; rfl) | simp [PX.get]), trivial⟩ trivial)⟩
  · intro _ he
    conv => whnf
    refine brk_i (fun h => absurd h (by simp)) (fun _ => ?_)
    conv => whnf
    rw [he]
    exact RetA_view 0 rfl ⟨⟨rfl, rfl⟩, rfl⟩

theorem wa57 (l : List Man) (g : FuncId) (caps : List D) (p : Man → Bool) (hl : l.length < 4000000000000000000) (hp : ∀ x ∈ l, FnV Try.prog g (.agg x.cells :: caps) (.bool (p x))) :
    FnV Try.prog 57 [mansD l, .clo g caps] (.bool (l.any p)) := by
  refine fnV_of mixed tysOk Try.func57 rfl (ft := ft57) 2 (by decide +kernel) (by rfl) fun {σ} Y st => ?_
  conv => whnf
  refine CallA_v (wa88 l g caps p hl hp) rfl rfl ?_
  conv => whnf
  refine RetA_view 0 rfl ⟨⟨?_, rfl⟩, rfl⟩
  rw [← indexOf_any p l 0 (by omega)]; rfl

/-- The error of a man, behind the ones before him. -/
def manF (slots : Int) (b : List Man) (x : Man) : Int :=
  if nameF x.name then (if b.any (fun y => decide (y.name = x.name)) then 5 else if inB x.kind 0 3 then ascF slots (-1) x.no else 7) else 6

def slotF (_ : List Slot) (s : Slot) : Int := if inB s.men 1 2 && inB s.least 0 3 then 0 else 7

def checkM (c : WCase) : Int × Int × Int :=
  let p := firstE (manF c.slots.length) [] c.men 0
  if p.2 = 0 then (0, 0, 0) else (3, p.1, p.2)

def checkW (c : WCase) : Int × Int × Int :=
  if inB c.men.length 1 5 && inB c.slots.length 1 6 then
    (if inB c.run 1 3 && inB c.rest 1 3 then
      (let p := firstE slotF [] c.slots 0
       if p.2 = 0 then checkM c else (2, p.1, p.2))
    else (1, 0, 7))
  else (1, 0, 3)
end Go.PX

namespace Go.PX
open Go.Proofs

/- Watch: Check. -/

theorem wa15 (c : WCase) : FnV Try.prog 15 [c.d] (tri (checkW c)) := by
  refine fnV_of mixed tysOk Try.func15 rfl (ft := ft15) 1 (by decide +kernel) (by rfl) fun {σ} Y st => ?_
  conv => whnf
  unfold checkW
  refine CallA_view (wa55_1 1 5 _) rfl 1 rfl ?_
  conv => whnf
  refine brk_i (fun h0 => ?_) (fun h0 => ?_)
  · have h0 : inB c.men.length 1 5 = false := by simpa using h0
    conv => whnf
    rw [h0]
    exact RetA_view 0 rfl ⟨⟨rfl, rfl⟩, rfl⟩
  have h0 : inB c.men.length 1 5 = true := by simpa using h0
  conv => whnf
  refine CallA_view (wa55_1 1 6 _) rfl 1 rfl ?_
  conv => whnf
  refine brk_i (fun h1 => ?_) (fun h1 => ?_)
  · have h1 : inB c.slots.length 1 6 = false := by simpa using h1
    conv => whnf
    rw [h0, h1]
    exact RetA_view 0 rfl ⟨⟨rfl, rfl⟩, rfl⟩
  have h1 : inB c.slots.length 1 6 = true := by simpa using h1
  rw [h0, h1]
  rw [inB_iff] at h0 h1
  conv => whnf
  refine CallA_view (wa55_1 1 3 _) rfl 1 rfl ?_
  conv => whnf
  refine brk_i (fun h2 => ?_) (fun h2 => ?_)
  · have h2 : inB c.run 1 3 = false := by simpa using h2
    conv => whnf
    rw [h2]
    exact RetA_view 0 rfl ⟨⟨rfl, rfl⟩, rfl⟩
  have h2 : inB c.run 1 3 = true := by simpa using h2
  conv => whnf
  refine CallA_view (wa55_1 1 3 _) rfl 1 rfl ?_
  conv => whnf
  refine brk_i (fun h3 => ?_) (fun h3 => ?_)
  · have h3 : inB c.rest 1 3 = false := by simpa using h3
    conv => whnf
    rw [h2, h3]
    exact RetA_view 0 rfl ⟨⟨rfl, rfl⟩, rfl⟩
  have h3 : inB c.rest 1 3 = true := by simpa using h3
  rw [h2, h3]
  simp only [Bool.and_self, if_true]
  conv => whnf
  refine LoopA_i (T := tys) tysOk (by exact drawsB_spec mixed tysOk (by decide +kernel)) c.slots (fun i (_ : Unit) => ⟨[(1, .ptr 1 0), (34, .d (slotsD c.slots)), (35, .d (i64 c.slots.length)), (36, .d (i64 i))], [(1, .box (.dd c.cells))], st⟩) (fun i r _ => firstE slotF [] c.slots 0 = firstE slotF (c.slots.take i) r i) () (Wk.sub ⟨(by first | rfl | (simp only [List.length_map]; rfl) | simp [PX.get]), (by first | rfl | (simp only [List.length_map]; rfl) | simp [PX.get]), (by first | rfl | (simp only [List.length_map]; rfl) | simp [PX.get]), (by first | rfl | (simp only [List.length_map]; rfl) | simp [PX.get]), trivial⟩ ⟨(by first | rfl | (simp only [List.length_map]; rfl) | simp [PX.get]), trivial⟩) rfl ?_ ?_
  · intro i x r _ hx hi hr he
    rw [firstE] at he
    have htk : c.slots.take (i + 1) = c.slots.take i ++ [x] := by rw [List.take_succ, hx]; rfl
    conv => whnf
    refine brk_i (fun _ => ?_) (fun h => absurd hi (by simpa using h))
    conv => whnf
    refine elemK_nat hx ?_
    conv => whnf
    refine CallA_view (wa55_1 1 2 _) rfl 1 rfl ?_
    conv => whnf
    refine brk_i (fun h4 => ?_) (fun h4 => ?_)
    · have h4 : inB x.men 1 2 = false := by simpa using h4
      conv => whnf
      rw [he]
      simp only [slotF, h4]
      exact RetA_view 0 rfl ⟨⟨rfl, rfl⟩, rfl⟩
    have h4 : inB x.men 1 2 = true := by simpa using h4
    conv => whnf
    refine CallA_view (wa55_1 0 3 _) rfl 1 rfl ?_
    conv => whnf
    refine brk_i (fun h5 => ?_) (fun h5 => ?_)
    · have h5 : inB x.least 0 3 = false := by simpa using h5
      conv => whnf
      rw [he]
      simp only [slotF, h4, h5]
      exact RetA_view 0 rfl ⟨⟨rfl, rfl⟩, rfl⟩
    have h5 : inB x.least 0 3 = true := by simpa using h5
    have hs : slotF (c.slots.take i) x = 0 := by simp [slotF, h4, h5]
    rw [if_pos hs, ← htk] at he
    conv => whnf
    refine arith_in (wrap_i64 (by (try dsimp only); omega)) ?_
    conv => whnf
    exact ⟨(), he, (Wk.sub ⟨(by first | rfl | (simp only [List.length_map]; rfl) | simp [PX.get]), (by first | rfl | (simp only [List.length_map]; rfl) | simp [PX.get]), (by first | rfl | (simp only [List.length_map]; rfl) | simp [PX.get]), (by first | rfl | (simp only [List.length_map]; rfl) | simp [PX.get]), trivial⟩ ⟨(by first | rfl | (simp only [List.length_map]; rfl) | simp [PX.get]), trivial⟩)⟩
  intro _ he
  rw [List.take_length, firstE] at he
  rw [he]
  simp only [if_true]
  conv => whnf
  refine brk_i (fun h => absurd h (by simp)) (fun _ => ?_)
  conv => whnf
  unfold checkM
  refine LoopA_i (T := tys) tysOk (by exact drawsB_spec mixed tysOk (by decide +kernel)) c.men (fun i (_ : Unit) => ⟨[(1, .ptr 1 0), (54, .d (mansD c.men)), (55, .d (i64 c.men.length)), (56, .d (i64 i))], [(1, .box (.dd c.cells))], st⟩) (fun i r _ => firstE (manF c.slots.length) [] c.men 0 = firstE (manF c.slots.length) (c.men.take i) r i) () (Wk.sub ⟨(by first | rfl | (simp only [List.length_map]; rfl) | simp [PX.get]), (by first | rfl | (simp only [List.length_map]; rfl) | simp [PX.get]), (by first | rfl | (simp only [List.length_map]; rfl) | simp [PX.get]), (by first | rfl | (simp only [List.length_map]; rfl) | simp [PX.get]), trivial⟩ ⟨(by first | rfl | (simp only [List.length_map]; rfl) | simp [PX.get]), trivial⟩) rfl ?_ ?_
  · intro i x r _ hx hi hr he
    rw [firstE] at he
    have htk : c.men.take (i + 1) = c.men.take i ++ [x] := by rw [List.take_succ, hx]; rfl
    conv => whnf
    refine brk_i (fun _ => ?_) (fun h => absurd hi (by simpa using h))
    conv => whnf
    refine elemK_nat hx ?_
    conv => whnf
    refine CallA_v (fn47 x.name) rfl rfl ?_
    conv => whnf
    refine brk_i (fun h4 => ?_) (fun h4 => ?_)
    · conv => whnf
      have h4 : nameF x.name = false := by simpa using h4
      rw [he]
      simp only [manF, h4]
      exact RetA_view 0 rfl ⟨⟨rfl, rfl⟩, rfl⟩
    have h4 : nameF x.name = true := by simpa using h4
    conv => whnf
    refine chk_i (by simp; omega) ?_
    conv => whnf
    refine chk_i (by cases c.men <;> rfl) ?_
    conv => whnf
    refine CallA_view (ds := [mansD (c.men.take i), .clo 58 [.ref x.cells]]) (wa57 (c.men.take i) 58 [.ref x.cells] (fun y => decide (y.name = x.name)) (by simp; omega) fun y _ => wa58 y x) rfl 1 (by show some _ = some _; simp [mansD, List.map_take]; rfl) ?_
    conv => whnf
    refine brk_i (fun h5 => ?_) (fun h5 => ?_)
    · conv => whnf
      rw [he]
      simp only [manF, h4, h5]
      exact RetA_view 0 rfl ⟨⟨rfl, rfl⟩, rfl⟩
    conv => whnf
    refine CallA_view (wa55_1 0 3 _) rfl 1 rfl ?_
    conv => whnf
    refine brk_i (fun h6 => ?_) (fun h6 => ?_)
    · have h6 : inB x.kind 0 3 = false := by simpa using h6
      conv => whnf
      rw [he]
      simp only [manF, h4, h5, h6]
      exact RetA_view 0 rfl ⟨⟨rfl, rfl⟩, rfl⟩
    have h6 : inB x.kind 0 3 = true := by simpa using h6
    conv => whnf
    refine CallA_v (wa59 x.no _ (by simp only [List.length_map]; omega)) rfl rfl ?_
    generalize hF : ascF (List.map Slot.cells c.slots).length (-1) x.no = E
    rw [List.length_map] at hF
    conv => whnf
    refine brk_i (fun h7 => ?_) (fun h7 => ?_)
    · have h7 : E ≠ 0 := by simpa using h7
      conv => whnf
      rw [he]
      have : manF c.slots.length (c.men.take i) x = E := by simp [manF, h4, h5, h6, hF]
      rw [this, if_neg h7]
      dsimp only
      rw [if_neg h7]
      exact RetA_view 0 rfl ⟨⟨rfl, rfl⟩, rfl⟩
    have h7 : E = 0 := by simpa using h7
    have hs : manF c.slots.length (c.men.take i) x = 0 := by simp [manF, h4, h5, h6, hF, h7]
    rw [if_pos hs, ← htk] at he
    conv => whnf
    refine arith_in (wrap_i64 (by (try dsimp only); omega)) ?_
    conv => whnf
    exact ⟨(), he, (Wk.sub ⟨(by first | rfl | (simp only [List.length_map]; rfl) | simp [PX.get]), (by first | rfl | (simp only [List.length_map]; rfl) | simp [PX.get]), (by first | rfl | (simp only [List.length_map]; rfl) | simp [PX.get]), (by first | rfl | (simp only [List.length_map]; rfl) | simp [PX.get]), trivial⟩ ⟨(by first | rfl | (simp only [List.length_map]; rfl) | simp [PX.get]), trivial⟩)⟩
  intro _ he
  rw [List.take_length, firstE] at he
  rw [he]
  conv => whnf
  refine brk_i (fun h => absurd h (by simp)) (fun _ => ?_)
  conv => whnf
  exact RetA_view 0 rfl ⟨⟨rfl, rfl⟩, rfl⟩
end Go.PX

namespace Go.PX
open Go.Proofs Go.RowKit Go.ChangeShapes

theorem c3 : Try.prog.cellsOf 3 = 1 := by kernel_rfl
theorem c9 : Try.prog.cellsOf 9 = 1 := by kernel_rfl
theorem c32 : Try.prog.cellsOf 32 = 1 := by kernel_rfl
theorem c75 : Try.prog.cellsOf 75 = 3 := by kernel_rfl
theorem c73 : Try.prog.cellsOf 73 = 2 := by kernel_rfl
theorem c22 : Try.prog.cellsOf 22 = 1 := by kernel_rfl
theorem c23 : Try.prog.cellsOf 23 = 1 := by kernel_rfl
theorem c25 : Try.prog.cellsOf 25 = 4 := by kernel_rfl
theorem c26 : Try.prog.cellsOf 26 = 1 := by kernel_rfl

theorem wordIn {n : Int} (h : (Lit.int .u16 n).wf = true) : 0 ≤ n ∧ n ≤ 65535 := by
  simp only [Lit.wf, Bool.and_eq_true, decide_eq_true_eq] at h
  exact h
theorem byteIn {n : Int} (h : (Lit.int .u8 n).wf = true) : 0 ≤ n ∧ n ≤ 255 := by
  simp only [Lit.wf, Bool.and_eq_true, decide_eq_true_eq] at h
  exact h

section
variable (W : World)
theorem rdInt : Rd Try.prog W 3 fun ds => ∃ n, ds = [i64 n] := Rd.int Try.underlying3
theorem rdStr : Rd Try.prog W 9 fun ds => ∃ s, ds = [.str s] := Rd.str Try.underlying9

theorem rdInts : Rd Try.prog W 32 fun ds => ∃ l : List Int, ds = [intsD l] :=
  (Rd.slice Try.underlying32 c3 (by omega) (rdInt W)).mono fun ds h => by
    obtain ⟨es, rfl, he⟩ := h
    obtain ⟨l, rfl⟩ := list_of (f := fun n => [i64 n]) (fun _ h => h) he
    exact ⟨l, rfl⟩

theorem rdMan : Rd Try.prog W 75 fun ds => ∃ m : Man, ds = m.cells :=
  (Rd.struct Try.underlying75 c75 (.cons rfl c9 (rdStr W) (.cons rfl c3 (rdInt W) (.cons rfl c32 (rdInts W) (.nil _))))).mono fun ds h => by
    obtain ⟨_, _, rfl, ⟨a, rfl⟩, _, _, rfl, ⟨b, rfl⟩, _, _, rfl, ⟨c, rfl⟩, rfl⟩ := h
    exact ⟨⟨a, b, c⟩, rfl⟩

theorem rdSlot : Rd Try.prog W 73 fun ds => ∃ s : Slot, ds = s.cells :=
  (Rd.struct Try.underlying73 c73 (.cons rfl c3 (rdInt W) (.cons rfl c3 (rdInt W) (.nil _)))).mono fun ds h => by
    obtain ⟨_, _, rfl, ⟨a, rfl⟩, _, _, rfl, ⟨b, rfl⟩, rfl⟩ := h
    exact ⟨⟨a, b⟩, rfl⟩

theorem rdMen : Rd Try.prog W 22 fun ds => ∃ l : List Man, ds = [mansD l] :=
  (Rd.slice Try.underlying22 c75 (by omega) (rdMan W)).mono fun ds h => by
    obtain ⟨es, rfl, he⟩ := h
    obtain ⟨l, rfl⟩ := list_of (f := Man.cells) (fun _ h => h) he
    exact ⟨l, rfl⟩

theorem rdSlots : Rd Try.prog W 23 fun ds => ∃ l : List Slot, ds = [slotsD l] :=
  (Rd.slice Try.underlying23 c73 (by omega) (rdSlot W)).mono fun ds h => by
    obtain ⟨es, rfl, he⟩ := h
    obtain ⟨l, rfl⟩ := list_of (f := Slot.cells) (fun _ h => h) he
    exact ⟨l, rfl⟩

theorem rdCase : Rd Try.prog W 25 fun ds => ∃ c : WCase, ds = c.cells :=
  (Rd.struct Try.underlying25 c25 (.cons rfl c22 (rdMen W) (.cons rfl c23 (rdSlots W) (.cons rfl c3 (rdInt W) (.cons rfl c3 (rdInt W) (.nil _)))))).mono fun ds h => by
    obtain ⟨_, _, rfl, ⟨a, rfl⟩, _, _, rfl, ⟨b, rfl⟩, _, _, rfl, ⟨c, rfl⟩, _, _, rfl, ⟨d, rfl⟩, rfl⟩ := h
    exact ⟨⟨a, b, c, d⟩, rfl⟩

theorem rdRota : Rd Try.prog W 26 fun ds => ∃ l : List (List Int), ds = [rotaD l] :=
  (Rd.slice Try.underlying26 c32 (by omega) (rdInts W)).mono fun ds h => by
    obtain ⟨es, rfl, he⟩ := h
    obtain ⟨l, rfl⟩ := list_of (f := fun r => [intsD r]) (fun _ h => h) he
    exact ⟨l, rfl⟩
end
end Go.PX

namespace Go.PX
open Go.Proofs

/- Watch: a crew; the error of a case and a rota. -/

/-- The first error of a list. -/
def firstErr {α : Type} (f : α → Int) : List α → Int
  | [] => 0
  | x :: r => if f x = 0 then firstErr f r else f x

def entE (c : WCase) (rota : List (List Int)) : Int :=
  if (checkW c).2.2 = 0 then (if rota.length > 40 then 3 else firstErr (ascF c.men.length (-1)) rota) else (checkW c).2.2

def crewCells (c : WCase) (set : Int) : List D := [mansD c.men, slotsD c.slots, i64 c.run, i64 c.rest, i64 set]
def crewD (c : WCase) (set : Int) : D := .ref (crewCells c set)
def allMen (c : WCase) : Int := 2 ^ c.men.length - 1

structure WR (c : WCase) : Prop where
  men : 1 ≤ c.men.length ∧ c.men.length ≤ 5
  slots : 1 ≤ c.slots.length ∧ c.slots.length ≤ 6
  run : 1 ≤ c.run ∧ c.run ≤ 3
  rest : 1 ≤ c.rest ∧ c.rest ≤ 3
  slot : ∀ s ∈ c.slots, (1 ≤ s.men ∧ s.men ≤ 2) ∧ (0 ≤ s.least ∧ s.least ≤ 3)
  man : ∀ m ∈ c.men, (0 ≤ m.kind ∧ m.kind ≤ 3) ∧ ascF c.slots.length (-1) m.no = 0
  zero : checkW c = (0, 0, 0)

theorem wR {c : WCase} (h : (checkW c).2.2 = 0) : WR c := by
  have hz := h
  unfold checkW at h
  split at h
  case isFalse => cases h
  rename_i h0
  split at h
  case isFalse => cases h
  rename_i h1
  simp only [Bool.and_eq_true, inB_iff] at h0 h1
  dsimp only at h
  by_cases h2 : (firstE slotF [] c.slots 0).2 = 0
  · rw [if_pos h2] at h
    unfold checkM at h
    dsimp only at h
    by_cases h3 : (firstE (manF c.slots.length) [] c.men 0).2 = 0
    · have hs := firstE_all h2
      have hm := firstE_all h3
      refine ⟨by omega, by omega, h1.1, h1.2, fun s hs' => ?_, fun m hm' => ?_, ?_⟩
      · obtain ⟨b, hb⟩ := hs s hs'
        unfold slotF at hb
        split at hb
        case isFalse => cases hb
        rename_i h4
        simpa only [Bool.and_eq_true, inB_iff] using h4
      · obtain ⟨b, hb⟩ := hm m hm'
        unfold manF at hb
        split at hb
        case isFalse => cases hb
        split at hb
        · cases hb
        split at hb
        case isFalse => cases hb
        rename_i h4
        exact ⟨by simpa only [inB_iff] using h4, hb⟩
      · simp [checkW, checkM, h2, h3, inB_iff, h0, h1]
    · rw [if_neg h3] at h; exact absurd h h3
  · rw [if_neg h2] at h; exact absurd h h2

theorem wa63 (c : WCase) (rota : List (List Int)) : FnV Try.prog 63 [c.d, rotaD rota] (.tup [if entE c rota = 0 then crewD c (allMen c) else .nilp, i64 (entE c rota)]) := by
  refine fnV_of mixed tysOk Try.func63 rfl (ft := ft63) 2 (by decide +kernel) (by rfl) fun {σ} Y st => ?_
  conv => whnf
  refine CallA_v (wa15 c) rfl rfl ?_
  conv => whnf
  refine brk_i (fun h0 => ?_) (fun h0 => ?_)
  · have h0 : (checkW c).2.2 ≠ 0 := by simpa using h0
    conv => whnf
    have : entE c rota = (checkW c).2.2 := by simp [entE, h0]
    rw [this, if_neg h0]
    exact RetA_view 0 rfl ⟨⟨rfl, rfl⟩, rfl⟩
  have h0 : (checkW c).2.2 = 0 := by simpa using h0
  have hR := wR h0
  conv => whnf
  refine brk_i (fun h1 => ?_) (fun h1 => ?_)
  · have h1 : rota.length > 40 := by simp at h1; omega
    conv => whnf
    have : entE c rota = 3 := by simp [entE, h0, h1]
    rw [this]
    exact RetA_view 0 rfl ⟨⟨rfl, rfl⟩, rfl⟩
  have h1 : ¬ rota.length > 40 := by simp at h1; omega
  have hE : entE c rota = firstErr (ascF c.men.length (-1)) rota := by simp [entE, h0, h1]
  rw [hE]
  conv => whnf
  refine LoopA_i (T := tys) tysOk (by exact drawsB_spec mixed tysOk (by decide +kernel)) rota (fun i (_ : Unit) => ⟨[(2, .ptr 2 0), (25, .d (rotaD rota)), (26, .d (i64 rota.length)), (27, .d (i64 i))], [(2, .box (.dd c.cells))], st⟩) (fun i r _ => firstErr (ascF c.men.length (-1)) rota = firstErr (ascF c.men.length (-1)) r) () (Wk.sub ⟨(by first | rfl | (simp only [List.length_map]; rfl) | simp [PX.get]), (by first | rfl | (simp only [List.length_map]; rfl) | simp [PX.get]), (by first | rfl | (simp only [List.length_map]; rfl) | simp [PX.get]), (by first | rfl | (simp only [List.length_map]; rfl) | simp [PX.get]), trivial⟩ ⟨(by first | rfl | (simp only [List.length_map]; rfl) | simp [PX.get]), trivial⟩) rfl ?_ ?_
  · intro i x r _ hx hi hr he
    rw [firstErr] at he
    have hm := hR.men
    conv => whnf
    refine brk_i (fun _ => ?_) (fun h => absurd hi (by simpa using h))
    conv => whnf
    refine elemK_nat hx ?_
    conv => whnf
    refine CallA_v (wa59 x _ (by simp only [List.length_map]; omega)) rfl rfl ?_
    generalize hF : ascF (List.map Man.cells c.men).length (-1) x = E
    rw [List.length_map] at hF
    conv => whnf
    refine brk_i (fun h7 => ?_) (fun h7 => ?_)
    · have h7 : E ≠ 0 := by simpa using h7
      conv => whnf
      rw [he, hF, if_neg h7, if_neg h7]
      exact RetA_view 0 rfl ⟨⟨rfl, rfl⟩, rfl⟩
    have h7 : E = 0 := by simpa using h7
    rw [hF, if_pos h7] at he
    conv => whnf
    refine arith_in (wrap_i64 (by (try dsimp only); omega)) ?_
    conv => whnf
    exact ⟨(), he, (Wk.sub ⟨(by first | rfl | (simp only [List.length_map]; rfl) | simp [PX.get]), (by first | rfl | (simp only [List.length_map]; rfl) | simp [PX.get]), (by first | rfl | (simp only [List.length_map]; rfl) | simp [PX.get]), (by first | rfl | (simp only [List.length_map]; rfl) | simp [PX.get]), trivial⟩ ⟨(by first | rfl | (simp only [List.length_map]; rfl) | simp [PX.get]), trivial⟩)⟩
  intro _ he
  rw [firstErr] at he
  rw [he]
  conv => whnf
  refine brk_i (fun h => absurd h (by simp)) (fun _ => ?_)
  conv => whnf
  have hm := hR.men
  have h5 : (c.men.length = 1 ∨ c.men.length = 2 ∨ c.men.length = 3 ∨ c.men.length = 4 ∨ c.men.length = 5) := by omega
  have hp : (1 : Int) ≤ 2 ^ c.men.length ∧ (2 : Int) ^ c.men.length ≤ 32 := by rcases h5 with h | h | h | h | h <;> rw [h] <;> decide
  refine arith_to (2 ^ c.men.length) (by
    have : min (↑(List.map Man.cells c.men).length : Int).toNat IntKind.i64.bits = c.men.length := by
      rw [List.length_map]
      have : IntKind.i64.bits = 64 := rfl
      omega
    rw [this]; omega) (wrap_i64 (by omega)) ?_
  conv => whnf
  refine arith_to (allMen c) rfl (wrap_i64 (by unfold allMen; omega)) ?_
  conv => whnf
  exact RetA_view 1 rfl ⟨⟨rfl, rfl⟩, rfl⟩
end Go.PX

namespace Go.PX
open Go.Proofs

/- Watch: how tired men are behind a row. -/

structure Tired where
  slot : Int
  m0 : Int
  m1 : Int
  m2 : Int
  m3 : Int
  m4 : Int
  deriving DecidableEq

def Tired.cells (t : Tired) : List D := [i64 t.slot, i64 t.m0, i64 t.m1, i64 t.m2, i64 t.m3, i64 t.m4]
def Tired.d (t : Tired) : D := .agg t.cells
def Tired.zero : Tired := ⟨0, 0, 0, 0, 0, 0⟩
def Tired.get (t : Tired) : Nat → Int
  | 0 => t.m0
  | 1 => t.m1
  | 2 => t.m2
  | 3 => t.m3
  | _ => t.m4
def Tired.set (t : Tired) (i : Nat) (x : Int) : Tired :=
  match i with
  | 0 => { t with m0 := x }
  | 1 => { t with m1 := x }
  | 2 => { t with m2 := x }
  | 3 => { t with m3 := x }
  | _ => { t with m4 := x }

def tireF (rest : Int) (is : Bool) (n : Int) : Int :=
  if is then n + 1 else if n > 0 then 1 - rest else if n < 0 then n + 1 else n

/-- How tired so many men are behind a row, the others being as they were. -/
def tireTo (rest : Int) (group : List Int) : Nat → Tired → Tired
  | 0, t => t
  | n + 1, t => (tireTo rest group n t).set n (tireF rest (decide ((n : Int) ∈ group)) ((tireTo rest group n t).get n))

def behindF (c : WCase) (t : Tired) (group : List Int) : Tired :=
  tireTo c.rest group c.men.length { t with slot := (t.slot + 1).tmod c.slots.length }

/-- Numbers that are small. -/
structure TOk (t : Tired) : Prop where
  slot : 0 ≤ t.slot ∧ t.slot ≤ 1000
  m0 : -1000 ≤ t.m0 ∧ t.m0 ≤ 1000
  m1 : -1000 ≤ t.m1 ∧ t.m1 ≤ 1000
  m2 : -1000 ≤ t.m2 ∧ t.m2 ≤ 1000
  m3 : -1000 ≤ t.m3 ∧ t.m3 ≤ 1000
  m4 : -1000 ≤ t.m4 ∧ t.m4 ≤ 1000

/-- Numbers that are not above another one. -/
structure TB (t : Tired) (k : Int) : Prop where
  m0 : -k ≤ t.m0 ∧ t.m0 ≤ k
  m1 : -k ≤ t.m1 ∧ t.m1 ≤ k
  m2 : -k ≤ t.m2 ∧ t.m2 ≤ k
  m3 : -k ≤ t.m3 ∧ t.m3 ≤ k
  m4 : -k ≤ t.m4 ∧ t.m4 ≤ k

theorem wa92 (c : WCase) (hR : WR c) (set : Int) (t : Tired) (ht : TOk t) (group : List Int) (hg : group.length < 4000000000000000000) : FnV Try.prog 92 [crewD c set, t.d, intsD group] (behindF c t group).d := by
  refine fnV_of mixed tysOk Try.func92 rfl (ft := ft92) 3 (by decide +kernel) (by rfl) fun {σ} Y st => ?_
  conv => whnf
  obtain ⟨hts, ht0, ht1, ht2, ht3, ht4⟩ := ht
  have hm := hR.men
  have hs := hR.slots
  have hr := hR.rest
  refine arith_in (wrap_i64 (by (try dsimp only); omega)) ?_
  conv => whnf
  refine chk_i (decide_eq_true (by rw [List.length_map]; omega)) ?_
  conv => whnf
  rw [List.length_map]
  generalize hu : Tired.mk ((t.slot + 1).tmod c.slots.length) t.m0 t.m1 t.m2 t.m3 t.m4 = u0
  have hu0 : TB u0 1000 := by subst hu; exact ⟨ht0, ht1, ht2, ht3, ht4⟩
  have hB : behindF c t group = tireTo c.rest group c.men.length u0 := by subst hu; rfl
  rw [hB]
  refine LoopA_i (T := tys) tysOk (by exact drawsB_spec mixed tysOk (by decide +kernel)) c.men (fun i (u : Tired) => ⟨[(0, .d (crewD c set)), (2, .d (intsD group)), (4, .ptr 4 0), (6, .ptr 6 0), (25, .d (i64 c.men.length)), (26, .d (i64 i))], [(4, .box (.dd u.cells)), (6, .box (.dd Tired.zero.cells))], st⟩) (fun i r u => u = tireTo c.rest group i u0 ∧ TB u (1000 + i)) u0 (by subst hu; exact (Wk.sub ⟨(by first | rfl | (simp only [List.length_map]; rfl) | simp [PX.get]), (by first | rfl | (simp only [List.length_map]; rfl) | simp [PX.get]), (by first | rfl | (simp only [List.length_map]; rfl) | simp [PX.get]), (by first | rfl | (simp only [List.length_map]; rfl) | simp [PX.get]), (by first | rfl | (simp only [List.length_map]; rfl) | simp [PX.get]), (by first | rfl | (simp only [List.length_map]; rfl) | simp [PX.get]), trivial⟩ ⟨(by first | rfl | (simp only [List.length_map]; rfl) | simp [PX.get]), (by first | rfl | (simp only [List.length_map]; rfl) | simp [PX.get]), trivial⟩)) ⟨rfl, by simpa using hu0⟩ ?_ ?_
  · intro i x r u hx hi hr' he
    obtain ⟨he, hb⟩ := he
    have h5 : i = 0 ∨ i = 1 ∨ i = 2 ∨ i = 3 ∨ i = 4 := by omega
    have hnx : (tireTo c.rest group (i + 1) u0) = u.set i (tireF c.rest (decide ((i : Int) ∈ group)) (u.get i)) := by rw [tireTo, he]
    obtain ⟨hb0, hb1, hb2, hb3, hb4⟩ := hb
    rcases h5 with rfl | rfl | rfl | rfl | rfl
    · conv => whnf
      refine brk_i (fun _ => ?_) (fun h => absurd hi (by have := of_decide_eq_false h; omega))
      conv => whnf
      refine CallA_v (fn63 group _ hg) rfl rfl ?_
      conv => whnf
      refine brk_i (fun h1 => ?_) (fun h1 => ?_)
      · rw [h1] at hnx
        conv => whnf
        repeat' (first
          | (refine arith_in (wrap_i64 (by (try dsimp only); omega)) ?_; conv => whnf)
          | (refine elemK_nat (by assumption) ?_; conv => whnf)
          | (refine ownK_whole (by first | rfl | assumption | (simp [Els.len]; done) | (simp [Els.len]; omega)) ?_; conv => whnf)
          | (refine chk_i (by first | (exact decide_eq_true (by (try simp only [List.length_map]); omega)) | (simp [Els.len, Els.cons, V.cells, Els.toV, injL]; done) | (simp [Els.len, Els.cons, V.cells, Els.toV, injL]; omega)) ?_; conv => whnf)
          | fail)
        exact ⟨u.set 0 (u.get 0 + 1), ⟨hnx.symm, by constructor <;> simp only [Tired.set, Tired.get] <;> omega⟩, (Wk.sub ⟨(by first | rfl | (simp only [List.length_map]; rfl) | simp [PX.get]), (by first | rfl | (simp only [List.length_map]; rfl) | simp [PX.get]), (by first | rfl | (simp only [List.length_map]; rfl) | simp [PX.get]), (by first | rfl | (simp only [List.length_map]; rfl) | simp [PX.get]), (by first | rfl | (simp only [List.length_map]; rfl) | simp [PX.get]), (by first | rfl | (simp only [List.length_map]; rfl) | simp [PX.get]), trivial⟩ ⟨(by first | rfl | (simp only [List.length_map]; rfl) | simp [PX.get]), (by first | rfl | (simp only [List.length_map]; rfl) | simp [PX.get]), trivial⟩)⟩
      rw [h1] at hnx
      conv => whnf
      refine brk_i (fun h2 => ?_) (fun h2 => ?_)
      · have h2 : u.get 0 > 0 := of_decide_eq_true h2
        have hv : tireF c.rest false (u.get 0) = 0 - c.rest + 1 := by simp only [tireF, h2]; simp; omega
        rw [hv] at hnx
        conv => whnf
        repeat' (first
          | (refine arith_in (wrap_i64 (by (try dsimp only); omega)) ?_; conv => whnf)
          | (refine elemK_nat (by assumption) ?_; conv => whnf)
          | (refine ownK_whole (by first | rfl | assumption | (simp [Els.len]; done) | (simp [Els.len]; omega)) ?_; conv => whnf)
          | (refine chk_i (by first | (exact decide_eq_true (by (try simp only [List.length_map]); omega)) | (simp [Els.len, Els.cons, V.cells, Els.toV, injL]; done) | (simp [Els.len, Els.cons, V.cells, Els.toV, injL]; omega)) ?_; conv => whnf)
          | fail)
        exact ⟨u.set 0 (0 - c.rest + 1), ⟨hnx.symm, by constructor <;> simp only [Tired.set, Tired.get] <;> omega⟩, (Wk.sub ⟨(by first | rfl | (simp only [List.length_map]; rfl) | simp [PX.get]), (by first | rfl | (simp only [List.length_map]; rfl) | simp [PX.get]), (by first | rfl | (simp only [List.length_map]; rfl) | simp [PX.get]), (by first | rfl | (simp only [List.length_map]; rfl) | simp [PX.get]), (by first | rfl | (simp only [List.length_map]; rfl) | simp [PX.get]), (by first | rfl | (simp only [List.length_map]; rfl) | simp [PX.get]), trivial⟩ ⟨(by first | rfl | (simp only [List.length_map]; rfl) | simp [PX.get]), (by first | rfl | (simp only [List.length_map]; rfl) | simp [PX.get]), trivial⟩)⟩
      have h2 : ¬ u.get 0 > 0 := of_decide_eq_false h2
      conv => whnf
      refine brk_i (fun h3 => ?_) (fun h3 => ?_)
      · have h3 : u.get 0 < 0 := of_decide_eq_true h3
        have hv : tireF c.rest false (u.get 0) = u.get 0 + 1 := by simp [tireF, h2, h3]
        rw [hv] at hnx
        conv => whnf
        repeat' (first
          | (refine arith_in (wrap_i64 (by (try dsimp only); omega)) ?_; conv => whnf)
          | (refine elemK_nat (by assumption) ?_; conv => whnf)
          | (refine ownK_whole (by first | rfl | assumption | (simp [Els.len]; done) | (simp [Els.len]; omega)) ?_; conv => whnf)
          | (refine chk_i (by first | (exact decide_eq_true (by (try simp only [List.length_map]); omega)) | (simp [Els.len, Els.cons, V.cells, Els.toV, injL]; done) | (simp [Els.len, Els.cons, V.cells, Els.toV, injL]; omega)) ?_; conv => whnf)
          | fail)
        exact ⟨u.set 0 (u.get 0 + 1), ⟨hnx.symm, by constructor <;> simp only [Tired.set, Tired.get] <;> omega⟩, (Wk.sub ⟨(by first | rfl | (simp only [List.length_map]; rfl) | simp [PX.get]), (by first | rfl | (simp only [List.length_map]; rfl) | simp [PX.get]), (by first | rfl | (simp only [List.length_map]; rfl) | simp [PX.get]), (by first | rfl | (simp only [List.length_map]; rfl) | simp [PX.get]), (by first | rfl | (simp only [List.length_map]; rfl) | simp [PX.get]), (by first | rfl | (simp only [List.length_map]; rfl) | simp [PX.get]), trivial⟩ ⟨(by first | rfl | (simp only [List.length_map]; rfl) | simp [PX.get]), (by first | rfl | (simp only [List.length_map]; rfl) | simp [PX.get]), trivial⟩)⟩
      have h3 : ¬ u.get 0 < 0 := of_decide_eq_false h3
      have hv : tireF c.rest false (u.get 0) = u.get 0 := by simp [tireF, h2, h3]
      rw [hv] at hnx
      conv => whnf
      repeat' (first
        | (refine arith_in (wrap_i64 (by (try dsimp only); omega)) ?_; conv => whnf)
        | (refine elemK_nat (by assumption) ?_; conv => whnf)
        | (refine ownK_whole (by first | rfl | assumption | (simp [Els.len]; done) | (simp [Els.len]; omega)) ?_; conv => whnf)
        | (refine chk_i (by first | (exact decide_eq_true (by (try simp only [List.length_map]); omega)) | (simp [Els.len, Els.cons, V.cells, Els.toV, injL]; done) | (simp [Els.len, Els.cons, V.cells, Els.toV, injL]; omega)) ?_; conv => whnf)
        | fail)
      exact ⟨u.set 0 (u.get 0), ⟨hnx.symm, by constructor <;> simp only [Tired.set, Tired.get] <;> omega⟩, (Wk.sub ⟨(by first | rfl | (simp only [List.length_map]; rfl) | simp [PX.get]), (by first | rfl | (simp only [List.length_map]; rfl) | simp [PX.get]), (by first | rfl | (simp only [List.length_map]; rfl) | simp [PX.get]), (by first | rfl | (simp only [List.length_map]; rfl) | simp [PX.get]), (by first | rfl | (simp only [List.length_map]; rfl) | simp [PX.get]), (by first | rfl | (simp only [List.length_map]; rfl) | simp [PX.get]), trivial⟩ ⟨(by first | rfl | (simp only [List.length_map]; rfl) | simp [PX.get]), (by first | rfl | (simp only [List.length_map]; rfl) | simp [PX.get]), trivial⟩)⟩
    · conv => whnf
      refine brk_i (fun _ => ?_) (fun h => absurd hi (by have := of_decide_eq_false h; omega))
      conv => whnf
      refine CallA_v (fn63 group _ hg) rfl rfl ?_
      conv => whnf
      refine brk_i (fun h1 => ?_) (fun h1 => ?_)
      · rw [h1] at hnx
        conv => whnf
        repeat' (first
          | (refine arith_in (wrap_i64 (by (try dsimp only); omega)) ?_; conv => whnf)
          | (refine elemK_nat (by assumption) ?_; conv => whnf)
          | (refine ownK_whole (by first | rfl | assumption | (simp [Els.len]; done) | (simp [Els.len]; omega)) ?_; conv => whnf)
          | (refine chk_i (by first | (exact decide_eq_true (by (try simp only [List.length_map]); omega)) | (simp [Els.len, Els.cons, V.cells, Els.toV, injL]; done) | (simp [Els.len, Els.cons, V.cells, Els.toV, injL]; omega)) ?_; conv => whnf)
          | fail)
        exact ⟨u.set 1 (u.get 1 + 1), ⟨hnx.symm, by constructor <;> simp only [Tired.set, Tired.get] <;> omega⟩, (Wk.sub ⟨(by first | rfl | (simp only [List.length_map]; rfl) | simp [PX.get]), (by first | rfl | (simp only [List.length_map]; rfl) | simp [PX.get]), (by first | rfl | (simp only [List.length_map]; rfl) | simp [PX.get]), (by first | rfl | (simp only [List.length_map]; rfl) | simp [PX.get]), (by first | rfl | (simp only [List.length_map]; rfl) | simp [PX.get]), (by first | rfl | (simp only [List.length_map]; rfl) | simp [PX.get]), trivial⟩ ⟨(by first | rfl | (simp only [List.length_map]; rfl) | simp [PX.get]), (by first | rfl | (simp only [List.length_map]; rfl) | simp [PX.get]), trivial⟩)⟩
      rw [h1] at hnx
      conv => whnf
      refine brk_i (fun h2 => ?_) (fun h2 => ?_)
      · have h2 : u.get 1 > 0 := of_decide_eq_true h2
        have hv : tireF c.rest false (u.get 1) = 0 - c.rest + 1 := by simp only [tireF, h2]; simp; omega
        rw [hv] at hnx
        conv => whnf
        repeat' (first
          | (refine arith_in (wrap_i64 (by (try dsimp only); omega)) ?_; conv => whnf)
          | (refine elemK_nat (by assumption) ?_; conv => whnf)
          | (refine ownK_whole (by first | rfl | assumption | (simp [Els.len]; done) | (simp [Els.len]; omega)) ?_; conv => whnf)
          | (refine chk_i (by first | (exact decide_eq_true (by (try simp only [List.length_map]); omega)) | (simp [Els.len, Els.cons, V.cells, Els.toV, injL]; done) | (simp [Els.len, Els.cons, V.cells, Els.toV, injL]; omega)) ?_; conv => whnf)
          | fail)
        exact ⟨u.set 1 (0 - c.rest + 1), ⟨hnx.symm, by constructor <;> simp only [Tired.set, Tired.get] <;> omega⟩, (Wk.sub ⟨(by first | rfl | (simp only [List.length_map]; rfl) | simp [PX.get]), (by first | rfl | (simp only [List.length_map]; rfl) | simp [PX.get]), (by first | rfl | (simp only [List.length_map]; rfl) | simp [PX.get]), (by first | rfl | (simp only [List.length_map]; rfl) | simp [PX.get]), (by first | rfl | (simp only [List.length_map]; rfl) | simp [PX.get]), (by first | rfl | (simp only [List.length_map]; rfl) | simp [PX.get]), trivial⟩ ⟨(by first | rfl | (simp only [List.length_map]; rfl) | simp [PX.get]), (by first | rfl | (simp only [List.length_map]; rfl) | simp [PX.get]), trivial⟩)⟩
      have h2 : ¬ u.get 1 > 0 := of_decide_eq_false h2
      conv => whnf
      refine brk_i (fun h3 => ?_) (fun h3 => ?_)
      · have h3 : u.get 1 < 0 := of_decide_eq_true h3
        have hv : tireF c.rest false (u.get 1) = u.get 1 + 1 := by simp [tireF, h2, h3]
        rw [hv] at hnx
        conv => whnf
        repeat' (first
          | (refine arith_in (wrap_i64 (by (try dsimp only); omega)) ?_; conv => whnf)
          | (refine elemK_nat (by assumption) ?_; conv => whnf)
          | (refine ownK_whole (by first | rfl | assumption | (simp [Els.len]; done) | (simp [Els.len]; omega)) ?_; conv => whnf)
          | (refine chk_i (by first | (exact decide_eq_true (by (try simp only [List.length_map]); omega)) | (simp [Els.len, Els.cons, V.cells, Els.toV, injL]; done) | (simp [Els.len, Els.cons, V.cells, Els.toV, injL]; omega)) ?_; conv => whnf)
          | fail)
        exact ⟨u.set 1 (u.get 1 + 1), ⟨hnx.symm, by constructor <;> simp only [Tired.set, Tired.get] <;> omega⟩, (Wk.sub ⟨(by first | rfl | (simp only [List.length_map]; rfl) | simp [PX.get]), (by first | rfl | (simp only [List.length_map]; rfl) | simp [PX.get]), (by first | rfl | (simp only [List.length_map]; rfl) | simp [PX.get]), (by first | rfl | (simp only [List.length_map]; rfl) | simp [PX.get]), (by first | rfl | (simp only [List.length_map]; rfl) | simp [PX.get]), (by first | rfl | (simp only [List.length_map]; rfl) | simp [PX.get]), trivial⟩ ⟨(by first | rfl | (simp only [List.length_map]; rfl) | simp [PX.get]), (by first | rfl | (simp only [List.length_map]; rfl) | simp [PX.get]), trivial⟩)⟩
      have h3 : ¬ u.get 1 < 0 := of_decide_eq_false h3
      have hv : tireF c.rest false (u.get 1) = u.get 1 := by simp [tireF, h2, h3]
      rw [hv] at hnx
      conv => whnf
      repeat' (first
        | (refine arith_in (wrap_i64 (by (try dsimp only); omega)) ?_; conv => whnf)
        | (refine elemK_nat (by assumption) ?_; conv => whnf)
        | (refine ownK_whole (by first | rfl | assumption | (simp [Els.len]; done) | (simp [Els.len]; omega)) ?_; conv => whnf)
        | (refine chk_i (by first | (exact decide_eq_true (by (try simp only [List.length_map]); omega)) | (simp [Els.len, Els.cons, V.cells, Els.toV, injL]; done) | (simp [Els.len, Els.cons, V.cells, Els.toV, injL]; omega)) ?_; conv => whnf)
        | fail)
      exact ⟨u.set 1 (u.get 1), ⟨hnx.symm, by constructor <;> simp only [Tired.set, Tired.get] <;> omega⟩, (Wk.sub ⟨(by first | rfl | (simp only [List.length_map]; rfl) | simp [PX.get]), (by first | rfl | (simp only [List.length_map]; rfl) | simp [PX.get]), (by first | rfl | (simp only [List.length_map]; rfl) | simp [PX.get]), (by first | rfl | (simp only [List.length_map]; rfl) | simp [PX.get]), (by first | rfl | (simp only [List.length_map]; rfl) | simp [PX.get]), (by first | rfl | (simp only [List.length_map]; rfl) | simp [PX.get]), trivial⟩ ⟨(by first | rfl | (simp only [List.length_map]; rfl) | simp [PX.get]), (by first | rfl | (simp only [List.length_map]; rfl) | simp [PX.get]), trivial⟩)⟩
    · conv => whnf
      refine brk_i (fun _ => ?_) (fun h => absurd hi (by have := of_decide_eq_false h; omega))
      conv => whnf
      refine CallA_v (fn63 group _ hg) rfl rfl ?_
      conv => whnf
      refine brk_i (fun h1 => ?_) (fun h1 => ?_)
      · rw [h1] at hnx
        conv => whnf
        repeat' (first
          | (refine arith_in (wrap_i64 (by (try dsimp only); omega)) ?_; conv => whnf)
          | (refine elemK_nat (by assumption) ?_; conv => whnf)
          | (refine ownK_whole (by first | rfl | assumption | (simp [Els.len]; done) | (simp [Els.len]; omega)) ?_; conv => whnf)
          | (refine chk_i (by first | (exact decide_eq_true (by (try simp only [List.length_map]); omega)) | (simp [Els.len, Els.cons, V.cells, Els.toV, injL]; done) | (simp [Els.len, Els.cons, V.cells, Els.toV, injL]; omega)) ?_; conv => whnf)
          | fail)
        exact ⟨u.set 2 (u.get 2 + 1), ⟨hnx.symm, by constructor <;> simp only [Tired.set, Tired.get] <;> omega⟩, (Wk.sub ⟨(by first | rfl | (simp only [List.length_map]; rfl) | simp [PX.get]), (by first | rfl | (simp only [List.length_map]; rfl) | simp [PX.get]), (by first | rfl | (simp only [List.length_map]; rfl) | simp [PX.get]), (by first | rfl | (simp only [List.length_map]; rfl) | simp [PX.get]), (by first | rfl | (simp only [List.length_map]; rfl) | simp [PX.get]), (by first | rfl | (simp only [List.length_map]; rfl) | simp [PX.get]), trivial⟩ ⟨(by first | rfl | (simp only [List.length_map]; rfl) | simp [PX.get]), (by first | rfl | (simp only [List.length_map]; rfl) | simp [PX.get]), trivial⟩)⟩
      rw [h1] at hnx
      conv => whnf
      refine brk_i (fun h2 => ?_) (fun h2 => ?_)
      · have h2 : u.get 2 > 0 := of_decide_eq_true h2
        have hv : tireF c.rest false (u.get 2) = 0 - c.rest + 1 := by simp only [tireF, h2]; simp; omega
        rw [hv] at hnx
        conv => whnf
        repeat' (first
          | (refine arith_in (wrap_i64 (by (try dsimp only); omega)) ?_; conv => whnf)
          | (refine elemK_nat (by assumption) ?_; conv => whnf)
          | (refine ownK_whole (by first | rfl | assumption | (simp [Els.len]; done) | (simp [Els.len]; omega)) ?_; conv => whnf)
          | (refine chk_i (by first | (exact decide_eq_true (by (try simp only [List.length_map]); omega)) | (simp [Els.len, Els.cons, V.cells, Els.toV, injL]; done) | (simp [Els.len, Els.cons, V.cells, Els.toV, injL]; omega)) ?_; conv => whnf)
          | fail)
        exact ⟨u.set 2 (0 - c.rest + 1), ⟨hnx.symm, by constructor <;> simp only [Tired.set, Tired.get] <;> omega⟩, (Wk.sub ⟨(by first | rfl | (simp only [List.length_map]; rfl) | simp [PX.get]), (by first | rfl | (simp only [List.length_map]; rfl) | simp [PX.get]), (by first | rfl | (simp only [List.length_map]; rfl) | simp [PX.get]), (by first | rfl | (simp only [List.length_map]; rfl) | simp [PX.get]), (by first | rfl | (simp only [List.length_map]; rfl) | simp [PX.get]), (by first | rfl | (simp only [List.length_map]; rfl) | simp [PX.get]), trivial⟩ ⟨(by first | rfl | (simp only [List.length_map]; rfl) | simp [PX.get]), (by first | rfl | (simp only [List.length_map]; rfl) | simp [PX.get]), trivial⟩)⟩
      have h2 : ¬ u.get 2 > 0 := of_decide_eq_false h2
      conv => whnf
      refine brk_i (fun h3 => ?_) (fun h3 => ?_)
      · have h3 : u.get 2 < 0 := of_decide_eq_true h3
        have hv : tireF c.rest false (u.get 2) = u.get 2 + 1 := by simp [tireF, h2, h3]
        rw [hv] at hnx
        conv => whnf
        repeat' (first
          | (refine arith_in (wrap_i64 (by (try dsimp only); omega)) ?_; conv => whnf)
          | (refine elemK_nat (by assumption) ?_; conv => whnf)
          | (refine ownK_whole (by first | rfl | assumption | (simp [Els.len]; done) | (simp [Els.len]; omega)) ?_; conv => whnf)
          | (refine chk_i (by first | (exact decide_eq_true (by (try simp only [List.length_map]); omega)) | (simp [Els.len, Els.cons, V.cells, Els.toV, injL]; done) | (simp [Els.len, Els.cons, V.cells, Els.toV, injL]; omega)) ?_; conv => whnf)
          | fail)
        exact ⟨u.set 2 (u.get 2 + 1), ⟨hnx.symm, by constructor <;> simp only [Tired.set, Tired.get] <;> omega⟩, (Wk.sub ⟨(by first | rfl | (simp only [List.length_map]; rfl) | simp [PX.get]), (by first | rfl | (simp only [List.length_map]; rfl) | simp [PX.get]), (by first | rfl | (simp only [List.length_map]; rfl) | simp [PX.get]), (by first | rfl | (simp only [List.length_map]; rfl) | simp [PX.get]), (by first | rfl | (simp only [List.length_map]; rfl) | simp [PX.get]), (by first | rfl | (simp only [List.length_map]; rfl) | simp [PX.get]), trivial⟩ ⟨(by first | rfl | (simp only [List.length_map]; rfl) | simp [PX.get]), (by first | rfl | (simp only [List.length_map]; rfl) | simp [PX.get]), trivial⟩)⟩
      have h3 : ¬ u.get 2 < 0 := of_decide_eq_false h3
      have hv : tireF c.rest false (u.get 2) = u.get 2 := by simp [tireF, h2, h3]
      rw [hv] at hnx
      conv => whnf
      repeat' (first
        | (refine arith_in (wrap_i64 (by (try dsimp only); omega)) ?_; conv => whnf)
        | (refine elemK_nat (by assumption) ?_; conv => whnf)
        | (refine ownK_whole (by first | rfl | assumption | (simp [Els.len]; done) | (simp [Els.len]; omega)) ?_; conv => whnf)
        | (refine chk_i (by first | (exact decide_eq_true (by (try simp only [List.length_map]); omega)) | (simp [Els.len, Els.cons, V.cells, Els.toV, injL]; done) | (simp [Els.len, Els.cons, V.cells, Els.toV, injL]; omega)) ?_; conv => whnf)
        | fail)
      exact ⟨u.set 2 (u.get 2), ⟨hnx.symm, by constructor <;> simp only [Tired.set, Tired.get] <;> omega⟩, (Wk.sub ⟨(by first | rfl | (simp only [List.length_map]; rfl) | simp [PX.get]), (by first | rfl | (simp only [List.length_map]; rfl) | simp [PX.get]), (by first | rfl | (simp only [List.length_map]; rfl) | simp [PX.get]), (by first | rfl | (simp only [List.length_map]; rfl) | simp [PX.get]), (by first | rfl | (simp only [List.length_map]; rfl) | simp [PX.get]), (by first | rfl | (simp only [List.length_map]; rfl) | simp [PX.get]), trivial⟩ ⟨(by first | rfl | (simp only [List.length_map]; rfl) | simp [PX.get]), (by first | rfl | (simp only [List.length_map]; rfl) | simp [PX.get]), trivial⟩)⟩
    · conv => whnf
      refine brk_i (fun _ => ?_) (fun h => absurd hi (by have := of_decide_eq_false h; omega))
      conv => whnf
      refine CallA_v (fn63 group _ hg) rfl rfl ?_
      conv => whnf
      refine brk_i (fun h1 => ?_) (fun h1 => ?_)
      · rw [h1] at hnx
        conv => whnf
        repeat' (first
          | (refine arith_in (wrap_i64 (by (try dsimp only); omega)) ?_; conv => whnf)
          | (refine elemK_nat (by assumption) ?_; conv => whnf)
          | (refine ownK_whole (by first | rfl | assumption | (simp [Els.len]; done) | (simp [Els.len]; omega)) ?_; conv => whnf)
          | (refine chk_i (by first | (exact decide_eq_true (by (try simp only [List.length_map]); omega)) | (simp [Els.len, Els.cons, V.cells, Els.toV, injL]; done) | (simp [Els.len, Els.cons, V.cells, Els.toV, injL]; omega)) ?_; conv => whnf)
          | fail)
        exact ⟨u.set 3 (u.get 3 + 1), ⟨hnx.symm, by constructor <;> simp only [Tired.set, Tired.get] <;> omega⟩, (Wk.sub ⟨(by first | rfl | (simp only [List.length_map]; rfl) | simp [PX.get]), (by first | rfl | (simp only [List.length_map]; rfl) | simp [PX.get]), (by first | rfl | (simp only [List.length_map]; rfl) | simp [PX.get]), (by first | rfl | (simp only [List.length_map]; rfl) | simp [PX.get]), (by first | rfl | (simp only [List.length_map]; rfl) | simp [PX.get]), (by first | rfl | (simp only [List.length_map]; rfl) | simp [PX.get]), trivial⟩ ⟨(by first | rfl | (simp only [List.length_map]; rfl) | simp [PX.get]), (by first | rfl | (simp only [List.length_map]; rfl) | simp [PX.get]), trivial⟩)⟩
      rw [h1] at hnx
      conv => whnf
      refine brk_i (fun h2 => ?_) (fun h2 => ?_)
      · have h2 : u.get 3 > 0 := of_decide_eq_true h2
        have hv : tireF c.rest false (u.get 3) = 0 - c.rest + 1 := by simp only [tireF, h2]; simp; omega
        rw [hv] at hnx
        conv => whnf
        repeat' (first
          | (refine arith_in (wrap_i64 (by (try dsimp only); omega)) ?_; conv => whnf)
          | (refine elemK_nat (by assumption) ?_; conv => whnf)
          | (refine ownK_whole (by first | rfl | assumption | (simp [Els.len]; done) | (simp [Els.len]; omega)) ?_; conv => whnf)
          | (refine chk_i (by first | (exact decide_eq_true (by (try simp only [List.length_map]); omega)) | (simp [Els.len, Els.cons, V.cells, Els.toV, injL]; done) | (simp [Els.len, Els.cons, V.cells, Els.toV, injL]; omega)) ?_; conv => whnf)
          | fail)
        exact ⟨u.set 3 (0 - c.rest + 1), ⟨hnx.symm, by constructor <;> simp only [Tired.set, Tired.get] <;> omega⟩, (Wk.sub ⟨(by first | rfl | (simp only [List.length_map]; rfl) | simp [PX.get]), (by first | rfl | (simp only [List.length_map]; rfl) | simp [PX.get]), (by first | rfl | (simp only [List.length_map]; rfl) | simp [PX.get]), (by first | rfl | (simp only [List.length_map]; rfl) | simp [PX.get]), (by first | rfl | (simp only [List.length_map]; rfl) | simp [PX.get]), (by first | rfl | (simp only [List.length_map]; rfl) | simp [PX.get]), trivial⟩ ⟨(by first | rfl | (simp only [List.length_map]; rfl) | simp [PX.get]), (by first | rfl | (simp only [List.length_map]; rfl) | simp [PX.get]), trivial⟩)⟩
      have h2 : ¬ u.get 3 > 0 := of_decide_eq_false h2
      conv => whnf
      refine brk_i (fun h3 => ?_) (fun h3 => ?_)
      · have h3 : u.get 3 < 0 := of_decide_eq_true h3
        have hv : tireF c.rest false (u.get 3) = u.get 3 + 1 := by simp [tireF, h2, h3]
        rw [hv] at hnx
        conv => whnf
        repeat' (first
          | (refine arith_in (wrap_i64 (by (try dsimp only); omega)) ?_; conv => whnf)
          | (refine elemK_nat (by assumption) ?_; conv => whnf)
          | (refine ownK_whole (by first | rfl | assumption | (simp [Els.len]; done) | (simp [Els.len]; omega)) ?_; conv => whnf)
          | (refine chk_i (by first | (exact decide_eq_true (by (try simp only [List.length_map]); omega)) | (simp [Els.len, Els.cons, V.cells, Els.toV, injL]; done) | (simp [Els.len, Els.cons, V.cells, Els.toV, injL]; omega)) ?_; conv => whnf)
          | fail)
        exact ⟨u.set 3 (u.get 3 + 1), ⟨hnx.symm, by constructor <;> simp only [Tired.set, Tired.get] <;> omega⟩, (Wk.sub ⟨(by first | rfl | (simp only [List.length_map]; rfl) | simp [PX.get]), (by first | rfl | (simp only [List.length_map]; rfl) | simp [PX.get]), (by first | rfl | (simp only [List.length_map]; rfl) | simp [PX.get]), (by first | rfl | (simp only [List.length_map]; rfl) | simp [PX.get]), (by first | rfl | (simp only [List.length_map]; rfl) | simp [PX.get]), (by first | rfl | (simp only [List.length_map]; rfl) | simp [PX.get]), trivial⟩ ⟨(by first | rfl | (simp only [List.length_map]; rfl) | simp [PX.get]), (by first | rfl | (simp only [List.length_map]; rfl) | simp [PX.get]), trivial⟩)⟩
      have h3 : ¬ u.get 3 < 0 := of_decide_eq_false h3
      have hv : tireF c.rest false (u.get 3) = u.get 3 := by simp [tireF, h2, h3]
      rw [hv] at hnx
      conv => whnf
      repeat' (first
        | (refine arith_in (wrap_i64 (by (try dsimp only); omega)) ?_; conv => whnf)
        | (refine elemK_nat (by assumption) ?_; conv => whnf)
        | (refine ownK_whole (by first | rfl | assumption | (simp [Els.len]; done) | (simp [Els.len]; omega)) ?_; conv => whnf)
        | (refine chk_i (by first | (exact decide_eq_true (by (try simp only [List.length_map]); omega)) | (simp [Els.len, Els.cons, V.cells, Els.toV, injL]; done) | (simp [Els.len, Els.cons, V.cells, Els.toV, injL]; omega)) ?_; conv => whnf)
        | fail)
      exact ⟨u.set 3 (u.get 3), ⟨hnx.symm, by constructor <;> simp only [Tired.set, Tired.get] <;> omega⟩, (Wk.sub ⟨(by first | rfl | (simp only [List.length_map]; rfl) | simp [PX.get]), (by first | rfl | (simp only [List.length_map]; rfl) | simp [PX.get]), (by first | rfl | (simp only [List.length_map]; rfl) | simp [PX.get]), (by first | rfl | (simp only [List.length_map]; rfl) | simp [PX.get]), (by first | rfl | (simp only [List.length_map]; rfl) | simp [PX.get]), (by first | rfl | (simp only [List.length_map]; rfl) | simp [PX.get]), trivial⟩ ⟨(by first | rfl | (simp only [List.length_map]; rfl) | simp [PX.get]), (by first | rfl | (simp only [List.length_map]; rfl) | simp [PX.get]), trivial⟩)⟩
    · conv => whnf
      refine brk_i (fun _ => ?_) (fun h => absurd hi (by have := of_decide_eq_false h; omega))
      conv => whnf
      refine CallA_v (fn63 group _ hg) rfl rfl ?_
      conv => whnf
      refine brk_i (fun h1 => ?_) (fun h1 => ?_)
      · rw [h1] at hnx
        conv => whnf
        repeat' (first
          | (refine arith_in (wrap_i64 (by (try dsimp only); omega)) ?_; conv => whnf)
          | (refine elemK_nat (by assumption) ?_; conv => whnf)
          | (refine ownK_whole (by first | rfl | assumption | (simp [Els.len]; done) | (simp [Els.len]; omega)) ?_; conv => whnf)
          | (refine chk_i (by first | (exact decide_eq_true (by (try simp only [List.length_map]); omega)) | (simp [Els.len, Els.cons, V.cells, Els.toV, injL]; done) | (simp [Els.len, Els.cons, V.cells, Els.toV, injL]; omega)) ?_; conv => whnf)
          | fail)
        exact ⟨u.set 4 (u.get 4 + 1), ⟨hnx.symm, by constructor <;> simp only [Tired.set, Tired.get] <;> omega⟩, (Wk.sub ⟨(by first | rfl | (simp only [List.length_map]; rfl) | simp [PX.get]), (by first | rfl | (simp only [List.length_map]; rfl) | simp [PX.get]), (by first | rfl | (simp only [List.length_map]; rfl) | simp [PX.get]), (by first | rfl | (simp only [List.length_map]; rfl) | simp [PX.get]), (by first | rfl | (simp only [List.length_map]; rfl) | simp [PX.get]), (by first | rfl | (simp only [List.length_map]; rfl) | simp [PX.get]), trivial⟩ ⟨(by first | rfl | (simp only [List.length_map]; rfl) | simp [PX.get]), (by first | rfl | (simp only [List.length_map]; rfl) | simp [PX.get]), trivial⟩)⟩
      rw [h1] at hnx
      conv => whnf
      refine brk_i (fun h2 => ?_) (fun h2 => ?_)
      · have h2 : u.get 4 > 0 := of_decide_eq_true h2
        have hv : tireF c.rest false (u.get 4) = 0 - c.rest + 1 := by simp only [tireF, h2]; simp; omega
        rw [hv] at hnx
        conv => whnf
        repeat' (first
          | (refine arith_in (wrap_i64 (by (try dsimp only); omega)) ?_; conv => whnf)
          | (refine elemK_nat (by assumption) ?_; conv => whnf)
          | (refine ownK_whole (by first | rfl | assumption | (simp [Els.len]; done) | (simp [Els.len]; omega)) ?_; conv => whnf)
          | (refine chk_i (by first | (exact decide_eq_true (by (try simp only [List.length_map]); omega)) | (simp [Els.len, Els.cons, V.cells, Els.toV, injL]; done) | (simp [Els.len, Els.cons, V.cells, Els.toV, injL]; omega)) ?_; conv => whnf)
          | fail)
        exact ⟨u.set 4 (0 - c.rest + 1), ⟨hnx.symm, by constructor <;> simp only [Tired.set, Tired.get] <;> omega⟩, (Wk.sub ⟨(by first | rfl | (simp only [List.length_map]; rfl) | simp [PX.get]), (by first | rfl | (simp only [List.length_map]; rfl) | simp [PX.get]), (by first | rfl | (simp only [List.length_map]; rfl) | simp [PX.get]), (by first | rfl | (simp only [List.length_map]; rfl) | simp [PX.get]), (by first | rfl | (simp only [List.length_map]; rfl) | simp [PX.get]), (by first | rfl | (simp only [List.length_map]; rfl) | simp [PX.get]), trivial⟩ ⟨(by first | rfl | (simp only [List.length_map]; rfl) | simp [PX.get]), (by first | rfl | (simp only [List.length_map]; rfl) | simp [PX.get]), trivial⟩)⟩
      have h2 : ¬ u.get 4 > 0 := of_decide_eq_false h2
      conv => whnf
      refine brk_i (fun h3 => ?_) (fun h3 => ?_)
      · have h3 : u.get 4 < 0 := of_decide_eq_true h3
        have hv : tireF c.rest false (u.get 4) = u.get 4 + 1 := by simp [tireF, h2, h3]
        rw [hv] at hnx
        conv => whnf
        repeat' (first
          | (refine arith_in (wrap_i64 (by (try dsimp only); omega)) ?_; conv => whnf)
          | (refine elemK_nat (by assumption) ?_; conv => whnf)
          | (refine ownK_whole (by first | rfl | assumption | (simp [Els.len]; done) | (simp [Els.len]; omega)) ?_; conv => whnf)
          | (refine chk_i (by first | (exact decide_eq_true (by (try simp only [List.length_map]); omega)) | (simp [Els.len, Els.cons, V.cells, Els.toV, injL]; done) | (simp [Els.len, Els.cons, V.cells, Els.toV, injL]; omega)) ?_; conv => whnf)
          | fail)
        exact ⟨u.set 4 (u.get 4 + 1), ⟨hnx.symm, by constructor <;> simp only [Tired.set, Tired.get] <;> omega⟩, (Wk.sub ⟨(by first | rfl | (simp only [List.length_map]; rfl) | simp [PX.get]), (by first | rfl | (simp only [List.length_map]; rfl) | simp [PX.get]), (by first | rfl | (simp only [List.length_map]; rfl) | simp [PX.get]), (by first | rfl | (simp only [List.length_map]; rfl) | simp [PX.get]), (by first | rfl | (simp only [List.length_map]; rfl) | simp [PX.get]), (by first | rfl | (simp only [List.length_map]; rfl) | simp [PX.get]), trivial⟩ ⟨(by first | rfl | (simp only [List.length_map]; rfl) | simp [PX.get]), (by first | rfl | (simp only [List.length_map]; rfl) | simp [PX.get]), trivial⟩)⟩
      have h3 : ¬ u.get 4 < 0 := of_decide_eq_false h3
      have hv : tireF c.rest false (u.get 4) = u.get 4 := by simp [tireF, h2, h3]
      rw [hv] at hnx
      conv => whnf
      repeat' (first
        | (refine arith_in (wrap_i64 (by (try dsimp only); omega)) ?_; conv => whnf)
        | (refine elemK_nat (by assumption) ?_; conv => whnf)
        | (refine ownK_whole (by first | rfl | assumption | (simp [Els.len]; done) | (simp [Els.len]; omega)) ?_; conv => whnf)
        | (refine chk_i (by first | (exact decide_eq_true (by (try simp only [List.length_map]); omega)) | (simp [Els.len, Els.cons, V.cells, Els.toV, injL]; done) | (simp [Els.len, Els.cons, V.cells, Els.toV, injL]; omega)) ?_; conv => whnf)
        | fail)
      exact ⟨u.set 4 (u.get 4), ⟨hnx.symm, by constructor <;> simp only [Tired.set, Tired.get] <;> omega⟩, (Wk.sub ⟨(by first | rfl | (simp only [List.length_map]; rfl) | simp [PX.get]), (by first | rfl | (simp only [List.length_map]; rfl) | simp [PX.get]), (by first | rfl | (simp only [List.length_map]; rfl) | simp [PX.get]), (by first | rfl | (simp only [List.length_map]; rfl) | simp [PX.get]), (by first | rfl | (simp only [List.length_map]; rfl) | simp [PX.get]), (by first | rfl | (simp only [List.length_map]; rfl) | simp [PX.get]), trivial⟩ ⟨(by first | rfl | (simp only [List.length_map]; rfl) | simp [PX.get]), (by first | rfl | (simp only [List.length_map]; rfl) | simp [PX.get]), trivial⟩)⟩
  · intro u he
    obtain ⟨he, hb⟩ := he
    conv => whnf
    refine brk_i (fun h => absurd h (by simp)) (fun _ => ?_)
    conv => whnf
    rw [← he]
    exact RetA_view 0 rfl ⟨⟨rfl, rfl⟩, rfl⟩
end Go.PX

namespace Go.PX
open Go.Proofs

/- Watch: why a row is bad: the looks at one man. -/

def manAt (c : WCase) (m : Int) : Man := (c.men[m.toNat]?).getD ⟨⟨#[]⟩, 0, []⟩
def inSet (set m : Int) : Bool := !decide (bitsI .and .i64 (set.fdiv (2 ^ (min m.toNat 64))) 1 = 0)

theorem manAt_nat {c : WCase} {k : Nat} {x : Man} (h : c.men[k]? = some x) : manAt c k = x := by simp [manAt, h]

theorem wa104 (c : WCase) (set : Int) (s : Slot) (k : Nat) (x : Man) (hx : c.men[k]? = some x) : FnV Try.prog 104 [i64 k, .ref [crewD c set], .ref s.cells] (.bool (decide (x.kind ≥ s.least))) := by
  refine fnV_of mixed tysOk Try.func104 rfl (ft := ft104) 3 (by decide +kernel) (by rfl) fun {σ} Y st => ?_
  conv => whnf
  refine elemK_nat hx ?_
  conv => whnf
  exact RetA_view 0 rfl ⟨⟨rfl, rfl⟩, rfl⟩

theorem wa108 (t : Tired) (k : Nat) (hk : k < 5) : FnV Try.prog 108 [i64 k, .ref t.cells] (.bool (decide (t.get k < 0))) := by
  refine fnV_of mixed tysOk Try.func108 rfl (ft := ft108) 2 (by decide +kernel) (by rfl) fun {σ} Y st => ?_
  conv => whnf
  have h5 : k = 0 ∨ k = 1 ∨ k = 2 ∨ k = 3 ∨ k = 4 := by omega
  rcases h5 with rfl | rfl | rfl | rfl | rfl
  · conv => whnf
    exact RetA_view 0 rfl ⟨⟨rfl, rfl⟩, rfl⟩
  · conv => whnf
    exact RetA_view 0 rfl ⟨⟨rfl, rfl⟩, rfl⟩
  · conv => whnf
    exact RetA_view 0 rfl ⟨⟨rfl, rfl⟩, rfl⟩
  · conv => whnf
    exact RetA_view 0 rfl ⟨⟨rfl, rfl⟩, rfl⟩
  · conv => whnf
    exact RetA_view 0 rfl ⟨⟨rfl, rfl⟩, rfl⟩

theorem wa107 (c : WCase) (set : Int) (t : Tired) (k : Nat) (hk : k < 5) : FnV Try.prog 107 [i64 k, .ref t.cells, .ref [crewD c set]] (.bool (decide (t.get k ≥ c.run))) := by
  refine fnV_of mixed tysOk Try.func107 rfl (ft := ft107) 3 (by decide +kernel) (by rfl) fun {σ} Y st => ?_
  conv => whnf
  have h5 : k = 0 ∨ k = 1 ∨ k = 2 ∨ k = 3 ∨ k = 4 := by omega
  rcases h5 with rfl | rfl | rfl | rfl | rfl
  · conv => whnf
    exact RetA_view 0 rfl ⟨⟨rfl, rfl⟩, rfl⟩
  · conv => whnf
    exact RetA_view 0 rfl ⟨⟨rfl, rfl⟩, rfl⟩
  · conv => whnf
    exact RetA_view 0 rfl ⟨⟨rfl, rfl⟩, rfl⟩
  · conv => whnf
    exact RetA_view 0 rfl ⟨⟨rfl, rfl⟩, rfl⟩
  · conv => whnf
    exact RetA_view 0 rfl ⟨⟨rfl, rfl⟩, rfl⟩

theorem wa105 (c : WCase) (set : Int) (t : Tired) (k : Nat) (x : Man) (hx : c.men[k]? = some x) (hn : x.no.length < 4000000000000000000) : FnV Try.prog 105 [i64 k, .ref [crewD c set], .ref t.cells] (.bool (!inSet set k || decide (t.slot ∈ x.no))) := by
  refine fnV_of mixed tysOk Try.func105 rfl (ft := ft105) 3 (by decide +kernel) (by rfl) fun {σ} Y st => ?_
  conv => whnf
  have hb : decide (bitsI .and .i64 (set.fdiv (2 ^ min (k : Int).toNat IntKind.i64.bits)) 1 = 0) = !inSet set k := by
    unfold inSet
    rw [Bool.not_not]; rfl
  rw [hb]
  cases hs : inSet set k
  · conv => whnf
    exact RetA_view 0 rfl ⟨⟨rfl, rfl⟩, rfl⟩
  conv => whnf
  refine elemK_nat hx ?_
  conv => whnf
  refine DrawCall_v (fn63 x.no t.slot hn) rfl rfl ?_
  conv => whnf
  exact RetA_view 0 rfl ⟨⟨rfl, rfl⟩, rfl⟩
end Go.PX
