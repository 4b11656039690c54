import Derived.Test.YtifbnniijibfgaaPxP
import Derived.Test.YtifbnniijibfgaaPxL
import Derived.Laws.RangeString
set_option linter.all false
set_option maxRecDepth 10000
namespace Go.PX
open Go.Proofs

theorem out_eq (lo hi n : Int) : (decide (n < lo) || decide (n > hi)) = !inB n lo hi := by
  simp only [inB]
  by_cases h1 : lo ≤ n <;> by_cases h2 : n ≤ hi <;> simp [h1, h2] <;> omega

theorem FnV.cast {P : Program} {f : FuncId} {ds : List D} {r r' : D} (h : FnV P f ds r) (e : r = r') : FnV P f ds r' := by subst e; exact h

theorem fn51_1 (lo hi a : Int) : FnV Try.prog 51 [i64 lo, i64 hi, .vs [[i64 a]]] (.bool (!inB a lo hi)) := by
  exact FnV.cast (fn51 lo hi [a] (by simp)) (by simp [out_eq])
theorem fn51_2 (lo hi a b : Int) : FnV Try.prog 51 [i64 lo, i64 hi, .vs [[i64 a], [i64 b]]] (.bool (!(inB a lo hi && inB b lo hi))) := by
  exact FnV.cast (fn51 lo hi [a, b] (by simp)) (by simp [out_eq])
theorem fn51_3 (lo hi a b c : Int) : FnV Try.prog 51 [i64 lo, i64 hi, .vs [[i64 a], [i64 b], [i64 c]]] (.bool (!(inB a lo hi && (inB b lo hi && inB c lo hi)))) := by
  exact FnV.cast (fn51 lo hi [a, b, c] (by simp)) (by simp [out_eq])

theorem fn89 (s : Span) : FnV Try.prog 89 [s.d] (.bool (decide (s.lo > s.hi))) := by
  refine fnV_of mixed tysOk Try.func89 rfl (ft := ft89) 1 (by decide +kernel) (by rfl) fun {σ} Y st => ?_
  conv => whnf
  exact RetA_view 0 rfl ⟨⟨rfl, rfl⟩, rfl⟩

theorem fn110 (l : List Span) (g : FuncId) (caps : List D) (p : Span → Bool) (hl : l.length < 4000000000000000000) (hp : ∀ x ∈ l, FnV Try.prog g (x.d :: caps) (.bool (p x))) :
    FnV Try.prog 110 [spansD l, .clo g caps] (i64 (indexOf p l 0)) := by
  refine fnV_of mixed tysOk Try.func110 rfl (ft := ft110) 2 (by decide +kernel) (by rfl) fun {σ} Y st => ?_
  conv => whnf
  refine LoopA_l (T := tys) tysOk (by exact drawsB_spec mixed tysOk (by decide +kernel)) l (fun i (_ : Unit) => ⟨[(0, .d (spansD l)), (1, .d (.clo g caps)), (7, .d (i64 l.length)), (8, .d (i64 i))], [], st⟩) (fun r _ => (∀ x ∈ r, FnV Try.prog g (x.d :: caps) (.bool (p x))) ∧ indexOf p l 0 = indexOf p r (l.length - r.length)) ()
    (Wk.sub ⟨rfl, rfl, by simp [PX.get], rfl, trivial⟩ trivial) ⟨hp, by simp⟩ ?_ ?_
  · intro i x r _ hx hi hr ⟨hp, he⟩
    rw [indexOf] at he
    conv => whnf
    refine brk_i (fun _ => ?_) (fun h => absurd hi (by simpa using h))
    conv => whnf
    refine elemK_nat hx ?_
    conv => whnf
    refine CallA_v (ds := x.d :: caps) (hp x (by simp)) rfl rfl ?_
    conv => whnf
    refine brk_i (fun h1 => ?_) (fun h1 => ?_)
    · conv => whnf
      rw [if_pos h1] at he
      rw [he]
      have : ((l.length : Int) - ((x :: r).length : Nat)) = i := by simp; omega
      rw [this]
      exact RetA_view 0 rfl ⟨⟨rfl, rfl⟩, rfl⟩
    · conv => whnf
      rw [if_neg (by simp [h1])] at he
      refine arith_in (wrap_i64 (by (try dsimp only); omega)) ?_
      conv => whnf
      exact ⟨(), ⟨fun y hy => hp y (by simp [hy]), by rw [he]; congr 1; simp; omega⟩, Wk.sub ⟨rfl, rfl, rfl, rfl, trivial⟩ trivial⟩
  · intro _ ⟨_, he⟩
    conv => whnf
    refine brk_i (fun h => absurd h (by simp)) (fun _ => ?_)
    conv => whnf
    rw [he]
    exact RetA_view 0 rfl ⟨⟨rfl, rfl⟩, rfl⟩

theorem fn88 (l : List Span) (g : FuncId) (caps : List D) (p : Span → Bool) (hl : l.length < 4000000000000000000) (hp : ∀ x ∈ l, FnV Try.prog g (x.d :: caps) (.bool (p x))) :
    FnV Try.prog 88 [spansD l, .clo g caps] (.bool (l.any p)) := by
  refine fnV_of mixed tysOk Try.func88 rfl (ft := ft88) 2 (by decide +kernel) (by rfl) fun {σ} Y st => ?_
  conv => whnf
  refine CallA_v (fn110 l g caps p hl hp) rfl rfl ?_
  conv => whnf
  refine RetA_view 0 rfl ⟨⟨?_, rfl⟩, rfl⟩
  rw [← indexOf_any p l 0 (by omega)]; rfl

theorem fn53 (l : List Span) (hl : l.length < 4000000000000000000) : FnV Try.prog 53 [spansD l] (.bool (l.any fun s => decide (s.lo > s.hi))) := by
  refine fnV_of mixed tysOk Try.func53 rfl (ft := ft53) 1 (by decide +kernel) (by rfl) fun {σ} Y st => ?_
  conv => whnf
  refine CallA_v (fn88 l 89 [] (fun s => decide (s.lo > s.hi)) hl fun x _ => fn89 x) rfl rfl ?_
  conv => whnf
  exact RetA_view 0 rfl ⟨⟨rfl, rfl⟩, rfl⟩
end Go.PX

namespace Go.PX
open Go.Proofs

/-- The error of a chain but its shots and rows. -/
def plainF (c : Chain) : Int :=
  if inB c.shots.length 1 7 && inB c.rows.length 1 6 then
    (if inB c.long 1 50 && (inB c.heavy 0 200 && (inB c.err 0 2000 && (inB c.hold.lo 0 200000 && inB c.hold.hi 0 200000))) then (if c.hold.lo > c.hold.hi then 2 else 0) else 7)
  else 3

theorem fn53_1 (a b : Int) : FnV Try.prog 53 [.vs [[i64 a, i64 b]]] (.bool (decide (a > b))) :=
  FnV.cast (fn53 [⟨a, b⟩] (by simp)) (by simp)
theorem fn53_2 (a b c d : Int) : FnV Try.prog 53 [.vs [[i64 a, i64 b], [i64 c, i64 d]]] (.bool (decide (a > b) || decide (c > d))) :=
  FnV.cast (fn53 [⟨a, b⟩, ⟨c, d⟩] (by simp)) (by simp)

theorem fn46 (c : Chain) : FnV Try.prog 46 [c.d] (i64 (plainF c)) := by
  refine fnV_of mixed tysOk Try.func46 rfl (ft := ft46) 1 (by decide +kernel) (by rfl) fun {σ} Y st => ?_
  conv => whnf
  repeat' (first
    | (refine CallA_v (fn51_1 _ _ _) rfl rfl ?_; conv => whnf)
    | (refine CallA_view (fn51_1 _ _ _) rfl 1 rfl ?_; conv => whnf)
    | (refine DrawCall_v (fn51_1 _ _ _) rfl rfl ?_; conv => whnf)
    | (refine DrawCall_view (fn51_1 _ _ _) rfl 1 rfl ?_; conv => whnf)
    | (refine CallA_v (fn51_2 _ _ _ _) rfl rfl ?_; conv => whnf)
    | (refine CallA_view (fn51_2 _ _ _ _) rfl 1 rfl ?_; conv => whnf)
    | (refine DrawCall_v (fn51_2 _ _ _ _) rfl rfl ?_; conv => whnf)
    | (refine DrawCall_view (fn51_2 _ _ _ _) rfl 1 rfl ?_; conv => whnf)
    | (refine CallA_v (fn53_1 _ _) rfl rfl ?_; conv => whnf)
    | (refine CallA_view (fn53_1 _ _) rfl 1 rfl ?_; conv => whnf)
    | (refine DrawCall_v (fn53_1 _ _) rfl rfl ?_; conv => whnf)
    | (refine DrawCall_view (fn53_1 _ _) rfl 1 rfl ?_; conv => whnf)
    | (refine arith_in (wrap_i64 (by (try dsimp only); omega)) ?_; conv => whnf)
    | (refine brk_i (fun h => ?_) (fun h => ?_) <;> conv => whnf))
  all_goals (refine RetA_view 0 rfl ⟨⟨?_, rfl⟩, rfl⟩; first | (simp_all [packD, plainF]; done) | (simp_all [packD, plainF]; grind) | grind [packD, plainF])

/-- The error of the gaugings, in order. -/
def gaugesL (set : Int) : Int → List Gauge → Int
  | _, [] => 0
  | last, g :: r => if inB g.day set 40000 && inB g.shown 0 60000 then (if g.day < last then 2 else gaugesL set g.day r) else 7

/-- The error of a shot but its name. -/
def checkF (s : Shot) : Int :=
  if inB s.links 1 40 && (inB s.set 0 40000 && (inB s.new.lo 1 60000 && inB s.new.hi 1 60000 && (inB s.wear.lo 0 20 && inB s.wear.hi 0 20))) then
    (if s.new.lo > s.new.hi ∨ s.wear.lo > s.wear.hi then 2 else (if 6 < s.gauges.length then 3 else gaugesL s.set s.set s.gauges))
  else 7

theorem fn50 (s : Shot) (off : Int) : FnV Try.prog 50 [.agg (s.cells ++ [i64 off])] (i64 (checkF s)) := by
  refine fnV_of mixed tysOk Try.func50 rfl (ft := ft50) 1 (by decide +kernel) (by rfl) fun {σ} Y st => ?_
  conv => whnf
  repeat' (first
    | (refine CallA_v (fn51_1 _ _ _) rfl rfl ?_; conv => whnf)
    | (refine CallA_view (fn51_1 _ _ _) rfl 1 rfl ?_; conv => whnf)
    | (refine DrawCall_v (fn51_1 _ _ _) rfl rfl ?_; conv => whnf)
    | (refine DrawCall_view (fn51_1 _ _ _) rfl 1 rfl ?_; conv => whnf)
    | (refine CallA_v (fn51_2 _ _ _ _) rfl rfl ?_; conv => whnf)
    | (refine CallA_view (fn51_2 _ _ _ _) rfl 1 rfl ?_; conv => whnf)
    | (refine DrawCall_v (fn51_2 _ _ _ _) rfl rfl ?_; conv => whnf)
    | (refine DrawCall_view (fn51_2 _ _ _ _) rfl 1 rfl ?_; conv => whnf)
    | (refine CallA_v (fn53_2 _ _ _ _) rfl rfl ?_; conv => whnf)
    | (refine CallA_view (fn53_2 _ _ _ _) rfl 1 rfl ?_; conv => whnf)
    | (refine DrawCall_v (fn53_2 _ _ _ _) rfl rfl ?_; conv => whnf)
    | (refine DrawCall_view (fn53_2 _ _ _ _) rfl 1 rfl ?_; conv => whnf)
    | (refine arith_in (wrap_i64 (by (try dsimp only); omega)) ?_; conv => whnf)
    | (refine brk_i (fun h => ?_) (fun h => ?_) <;> conv => whnf))
  all_goals first
    | (refine RetA_view 0 rfl ⟨⟨?_, rfl⟩, rfl⟩; grind [packD, checkF])
    | skip
  have hlen : s.gauges.length ≤ 6 := by simp_all; omega
  have hF : checkF s = gaugesL s.set s.set s.gauges := by grind [checkF]
  rw [hF]
  refine LoopA_l (T := tys) tysOk (by exact drawsB_spec mixed tysOk (by decide +kernel)) s.gauges (fun i (last : Int) => ⟨[(1, .ptr 1 0), (3, .d (i64 last)), (63, .d (gaugesD s.gauges)), (64, .d (i64 s.gauges.length)), (65, .d (i64 i))], [(1, .box (.dd (s.cells ++ [i64 off])))], st⟩) (fun r last => gaugesL s.set s.set s.gauges = gaugesL s.set last r) s.set
    (Wk.sub ⟨(by first | rfl | (simp only [List.length_map]; rfl) | simp [PX.get]), (by first | rfl | (simp only [List.length_map]; rfl) | simp [PX.get]), (by first | rfl | (simp only [List.length_map]; rfl) | simp [PX.get]), (by first | rfl | (simp only [List.length_map]; rfl) | simp [PX.get]), (by first | rfl | (simp only [List.length_map]; rfl) | simp [PX.get]), trivial⟩ ⟨(by first | rfl | (simp only [List.length_map]; rfl) | simp [PX.get]), trivial⟩) rfl ?_ ?_
  · intro i g r last hx hi hr he
    rw [gaugesL] at he
    conv => whnf
    refine brk_i (fun _ => ?_) (fun h => absurd hi (by simpa using h))
    conv => whnf
    refine elemK_nat hx ?_
    conv => whnf
    repeat' (first
      | (refine CallA_v (fn51_1 _ _ _) rfl rfl ?_; conv => whnf)
      | (refine CallA_view (fn51_1 _ _ _) rfl 1 rfl ?_; conv => whnf)
      | (refine DrawCall_v (fn51_1 _ _ _) rfl rfl ?_; conv => whnf)
      | (refine DrawCall_view (fn51_1 _ _ _) rfl 1 rfl ?_; conv => whnf)
      | (refine arith_in (wrap_i64 (by (try dsimp only); omega)) ?_; conv => whnf)
      | (refine brk_i (fun h => ?_) (fun h => ?_) <;> conv => whnf))
    all_goals first
      | (refine RetA_view 0 rfl ⟨⟨?_, rfl⟩, rfl⟩; grind [packD])
      | exact ⟨g.day, by grind, Wk.sub ⟨rfl, rfl, rfl, rfl, rfl, trivial⟩ ⟨rfl, trivial⟩⟩
  · intro last he
    conv => whnf
    refine brk_i (fun h => absurd h (by simp)) (fun _ => ?_)
    conv => whnf
    rw [he]
    exact RetA_view 0 rfl ⟨⟨rfl, rfl⟩, rfl⟩
end Go.PX

namespace Go.PX
open Go.Proofs
open Go

theorem fn49 (s : Shot) (n : Shot) : FnV Try.prog 49 [s.d, .ref n.cells] (.bool (decide (s.name = n.name))) := by
  refine fnV_of mixed tysOk Try.func49 rfl (ft := ft49) 2 (by decide +kernel) (by rfl) fun {σ} Y st => ?_
  conv => whnf
  exact RetA_view 0 rfl ⟨⟨rfl, rfl⟩, rfl⟩
theorem fn52 (s : Shot) (c : Case) : FnV Try.prog 52 [s.d, .ref c.cells] (.bool (decide (s.set > c.day))) := by
  refine fnV_of mixed tysOk Try.func52 rfl (ft := ft52) 2 (by decide +kernel) (by rfl) fun {σ} Y st => ?_
  conv => whnf
  exact RetA_view 0 rfl ⟨⟨rfl, rfl⟩, rfl⟩

theorem fn85 (l : List Shot) (g : FuncId) (caps : List D) (p : Shot → Bool) (hl : l.length < 4000000000000000000) (hp : ∀ x ∈ l, FnV Try.prog g (x.d :: caps) (.bool (p x))) :
    FnV Try.prog 85 [shotsD l, .clo g caps] (i64 (indexOf p l 0)) := by
  refine fnV_of mixed tysOk Try.func85 rfl (ft := ft85) 2 (by decide +kernel) (by rfl) fun {σ} Y st => ?_
  conv => whnf
  refine LoopA_l (T := tys) tysOk (by exact drawsB_spec mixed tysOk (by decide +kernel)) l (fun i (_ : Unit) => ⟨[(0, .d (shotsD l)), (1, .d (.clo g caps)), (7, .d (i64 l.length)), (8, .d (i64 i))], [], st⟩) (fun r _ => (∀ x ∈ r, FnV Try.prog g (x.d :: caps) (.bool (p x))) ∧ indexOf p l 0 = indexOf p r (l.length - r.length)) ()
    (Wk.sub ⟨(by first | rfl | (simp only [List.length_map]; rfl) | simp [PX.get]), (by first | rfl | (simp only [List.length_map]; rfl) | simp [PX.get]), (by first | rfl | (simp only [List.length_map]; rfl) | simp [PX.get]), (by first | rfl | (simp only [List.length_map]; rfl) | simp [PX.get]), trivial⟩ trivial) ⟨hp, by simp⟩ ?_ ?_
  · intro i x r _ hx hi hr ⟨hp, he⟩
    rw [indexOf] at he
    conv => whnf
    refine brk_i (fun _ => ?_) (fun h => absurd hi (by simpa using h))
    conv => whnf
    refine elemK_nat hx ?_
    conv => whnf
    refine CallA_v (ds := x.d :: caps) (hp x (by simp)) rfl rfl ?_
    conv => whnf
    refine brk_i (fun h1 => ?_) (fun h1 => ?_)
    · conv => whnf
      rw [if_pos h1] at he
      rw [he]
      have : ((l.length : Int) - ((x :: r).length : Nat)) = i := by simp; omega
      rw [this]
      exact RetA_view 0 rfl ⟨⟨rfl, rfl⟩, rfl⟩
    · conv => whnf
      rw [if_neg (by simp [h1])] at he
      refine arith_in (wrap_i64 (by (try dsimp only); omega)) ?_
      conv => whnf
      exact ⟨(), ⟨fun y hy => hp y (by simp [hy]), by rw [he]; congr 1; simp; omega⟩, Wk.sub ⟨rfl, rfl, rfl, rfl, trivial⟩ trivial⟩
  · intro _ ⟨_, he⟩
    conv => whnf
    refine brk_i (fun h => absurd h (by simp)) (fun _ => ?_)
    conv => whnf
    rw [he]
    exact RetA_view 0 rfl ⟨⟨rfl, rfl⟩, rfl⟩

theorem fn48 (l : List Shot) (g : FuncId) (caps : List D) (p : Shot → Bool) (hl : l.length < 4000000000000000000) (hp : ∀ x ∈ l, FnV Try.prog g (x.d :: caps) (.bool (p x))) :
    FnV Try.prog 48 [shotsD l, .clo g caps] (.bool (l.any p)) := by
  refine fnV_of mixed tysOk Try.func48 rfl (ft := ft48) 2 (by decide +kernel) (by rfl) fun {σ} Y st => ?_
  conv => whnf
  refine CallA_v (fn85 l g caps p hl hp) rfl rfl ?_
  conv => whnf
  refine RetA_view 0 rfl ⟨⟨?_, rfl⟩, rfl⟩
  rw [← indexOf_any p l 0 (by omega)]; rfl

/-- Names, rune by rune. -/
def nameGo : Nat → List UInt8 → Bool
  | last, [] => decide (last ≠ 45)
  | last, c :: r => if 97 ≤ c.toNat ∧ c.toNat ≤ 122 then nameGo c.toNat r else if c.toNat = 45 ∧ last ≠ 45 then nameGo 45 r else false

theorem nameGo_eq (b : List UInt8) : ∀ (r : List UInt8) (i last : Nat), r ≠ [] → r = b.drop i → (i = 0 → last = 45) → (∀ p, i ≠ 0 → b[i - 1]? = some p → last = p.toNat) → nameGo last r = nameL b i r
  | [], i, last, h, _, _, _ => absurd rfl h
  | c :: r, i, last, _, hd, h0, h1 => by
    have hlen : i + 1 + r.length = b.length := by
      have := congrArg List.length hd
      simp at this; omega
    have hget : b[i]? = some c := by
      have := congrArg (fun l => l[0]?) hd
      simpa using this.symm
    have hr : r = b.drop (i + 1) := by
      have := congrArg List.tail hd
      simpa using this
    have ih : ∀ last', last' = c.toNat → r ≠ [] → nameGo last' r = nameL b (i + 1) r := fun last' hl hne =>
      nameGo_eq b r (i + 1) last' hne hr (fun h => by omega) (fun p _ hp => by simp at hp; rw [hget] at hp; cases hp; exact hl)
    have hprev : i ≠ 0 → ∃ p, b[i - 1]? = some p ∧ last = p.toNat := fun hi => by
      have : i - 1 < b.length := by omega
      exact ⟨_, List.getElem?_eq_getElem this, h1 _ hi (List.getElem?_eq_getElem this)⟩
    simp only [nameGo, nameL, okAt]
    by_cases ha : 97 ≤ c.toNat ∧ c.toNat ≤ 122
    · rw [if_pos ha]
      simp only [ha.1, ha.2, decide_true, Bool.and_self, Bool.true_or, Bool.true_and]
      by_cases hne : r = []
      · subst hne
        simp [nameGo, nameL]; omega
      · exact ih _ rfl hne
    · rw [if_neg ha]
      have hf : (decide (97 ≤ c.toNat) && decide (c.toNat ≤ 122)) = false := by
        simp only [Bool.and_eq_false_iff, decide_eq_false_iff_not]; omega
      rw [hf, Bool.false_or]
      by_cases hc : c.toNat = 45
      · by_cases hi : i = 0
        · have := h0 hi
          simp [hc, hi, this]
        · obtain ⟨p, hp, hl⟩ := hprev hi
          rw [hp]
          by_cases hpl : p.toNat = 45
          · simp [hc, hl, hpl]
          · by_cases hne : r = []
            · have : i + 1 = b.length := by subst hne; simpa using hlen
              subst hne
              simp [hc, hl, hpl, nameGo, this]
            · have : i + 1 ≠ b.length := by
                have := List.length_pos_iff.2 hne; omega
              rw [if_pos ⟨hc, by rw [hl]; exact hpl⟩, ih 45 hc.symm hne]
              simp [hc, hi, hpl, this]
      · simp [hc]

theorem nameF_go (s : ByteArray) : nameF s = (decide (s.size ≤ 14) && nameGo 45 s.data.toList) := by
  have hsz : s.size = s.data.toList.length := by simp
  unfold nameF inB
  cases hb : s.data.toList with
  | nil =>
    have : s.size = 0 := by rw [hsz, hb]; rfl
    simp [this, nameGo]
  | cons c r =>
    rw [← hb, nameGo_eq s.data.toList s.data.toList 0 45 (by rw [hb]; simp) rfl (fun _ => rfl) (fun p h => absurd rfl h)]
    have h1 : 1 ≤ s.size := by rw [hsz, hb]; simp
    have e1 : decide ((1 : Int) ≤ (s.size : Int)) = true := by simp; omega
    have e2 : decide ((s.size : Int) ≤ 14) = decide (s.size ≤ 14) := by simp; omega
    rw [e1, e2]; simp

theorem decode_big (s : ByteArray) (i : Nat) (h : ¬ (s.get! (i + 0)).toNat < 128) : 128 ≤ (Utf8.decode s i).1 := by
  unfold Utf8.decode
  simp only [h, if_false]
  split
  · split
    · simp only; omega
    · simp [Utf8.runeError]
  · split
    · split
      · rename_i h1
        simp only [Bool.and_eq_true, decide_eq_true_eq] at h1
        simp only; omega
      · simp [Utf8.runeError]
    · split
      · split
        · rename_i h1
          simp only [Bool.and_eq_true, decide_eq_true_eq] at h1
          simp only; omega
        · simp [Utf8.runeError]
      · simp [Utf8.runeError]
end Go.PX

namespace Go.PX
open Go.Proofs
open Go

theorem fn47 (s : ByteArray) : FnV Try.prog 47 [.str s] (.bool (nameF s)) := by
  refine fnV_of mixed tysOk Try.func47 rfl (ft := ft47) 1 (by decide +kernel) (by rfl) fun {σ} Y st => ?_
  conv => whnf
  refine LoopA_p (T := tys) tysOk (by exact drawsB_spec mixed tysOk (by decide +kernel)) (α := Nat × Nat)
    (fun x => ⟨[(0, .d (.str s)), (3, .d (.int .i32 x.2)), (7, .it 7)], [(7, .iter s x.1)], st⟩) (fun x => x.1 ≤ s.size ∧ nameF s = (decide (s.size ≤ 14) && nameGo x.2 (s.data.toList.drop x.1))) (fun x => s.size - x.1) (0, 45)
    (Wk.sub ⟨(by first | rfl | (simp only [List.length_map]; rfl) | simp [PX.get]), (by first | rfl | (simp only [List.length_map]; rfl) | simp [PX.get]), (by first | rfl | (simp only [List.length_map]; rfl) | simp [PX.get]), trivial⟩ ⟨(by first | rfl | (simp only [List.length_map]; rfl) | simp [PX.get]), trivial⟩) ⟨by simp, by rw [nameF_go]; rfl⟩ ?_
  rintro ⟨p, last⟩ ⟨hp, he⟩
  simp only at hp he
  have hsz : s.size = s.data.toList.length := by simp
  conv => whnf
  refine brk_i (fun h1 => ?_) (fun h1 => ?_)
  · have h1 : p < s.size := of_decide_eq_true h1
    have hd : s.data.toList.drop p = s[p] :: s.data.toList.drop (p + 1) := by
      rw [List.drop_eq_getElem_cons (by omega)]; rfl
    rw [hd, nameGo] at he
    refine ⟨?_⟩
    by_cases hb : s[p].toNat < 128
    · rw [decode_ascii s p h1 hb]
      conv => whnf
      refine brk_i (fun h2 => ?_) (fun h2 => ?_)
      · have h2 : 97 ≤ s[p].toNat := by have := of_decide_eq_true h2; omega
        conv => whnf
        refine brk_i (fun h3 => ?_) (fun h3 => ?_)
        · have h3 : s[p].toNat ≤ 122 := by have := of_decide_eq_true h3; omega
          conv => whnf
          rw [if_pos ⟨h2, h3⟩] at he
          exact ⟨(p + 1, s[p].toNat), by simp only; omega, ⟨h1, he⟩, (Wk.sub ⟨(by first | rfl | (simp only [List.length_map]; rfl) | simp [PX.get]), (by first | rfl | (simp only [List.length_map]; rfl) | simp [PX.get]), (by first | rfl | (simp only [List.length_map]; rfl) | simp [PX.get]), trivial⟩ ⟨(by first | rfl | (simp only [List.length_map]; rfl) | simp [PX.get]), trivial⟩)⟩
        · have h3 : ¬ s[p].toNat ≤ 122 := by have := of_decide_eq_false h3; omega
          conv => whnf
          rw [if_neg (by omega), if_neg (by omega)] at he
          refine brk_i (fun h4 => ?_) (fun h4 => ?_)
          · conv => whnf
            rw [he, Bool.and_false]
            exact RetA_view 0 rfl ⟨⟨rfl, rfl⟩, rfl⟩
          · exact absurd h4 (by simp; omega)
      · have h2 : ¬ 97 ≤ s[p].toNat := by have := of_decide_eq_false h2; omega
        conv => whnf
        rw [if_neg (by omega)] at he
        refine brk_i (fun h4 => ?_) (fun h4 => ?_)
        · have h4 : s[p].toNat ≠ 45 := by simp at h4; omega
          conv => whnf
          rw [if_neg (by omega)] at he
          rw [he, Bool.and_false]
          exact RetA_view 0 rfl ⟨⟨rfl, rfl⟩, rfl⟩
        · have h4 : s[p].toNat = 45 := by simp at h4; omega
          conv => whnf
          refine brk_i (fun h5 => ?_) (fun h5 => ?_)
          · have h5 : last = 45 := by have := of_decide_eq_true h5; omega
            conv => whnf
            rw [if_neg (by omega)] at he
            rw [he, Bool.and_false]
            exact RetA_view 0 rfl ⟨⟨rfl, rfl⟩, rfl⟩
          · have h5 : last ≠ 45 := by have := of_decide_eq_false h5; omega
            conv => whnf
            rw [if_pos ⟨h4, h5⟩] at he
            exact ⟨(p + 1, 45), by simp only; omega, ⟨h1, he⟩, by rw [← h4]; exact (Wk.sub ⟨(by first | rfl | (simp only [List.length_map]; rfl) | simp [PX.get]), (by first | rfl | (simp only [List.length_map]; rfl) | simp [PX.get]), (by first | rfl | (simp only [List.length_map]; rfl) | simp [PX.get]), trivial⟩ ⟨(by first | rfl | (simp only [List.length_map]; rfl) | simp [PX.get]), trivial⟩)⟩
    · have hbig := decode_big s p (by
        have e : s.get! (p + 0) = s[p]'h1 := by
          show s.get! p = _
          simp [ByteArray.get!, getElem!_pos, h1]
          rfl
        rw [e]; exact hb)
      generalize (Utf8.decode s p).1 = c at hbig
      generalize (Utf8.decode s p).2 = n
      rw [if_neg (by omega), if_neg (by omega)] at he
      conv => whnf
      refine brk_i (fun h2 => ?_) (fun h2 => ?_)
      · conv => whnf
        refine brk_i (fun h3 => ?_) (fun h3 => ?_)
        · have := of_decide_eq_true h3; omega
        · conv => whnf
          refine brk_i (fun h4 => ?_) (fun h4 => ?_)
          · conv => whnf
            rw [he, Bool.and_false]
            exact RetA_view 0 rfl ⟨⟨rfl, rfl⟩, rfl⟩
          · exact absurd h4 (by simp; omega)
      · have := of_decide_eq_false h2; omega
  · have h1 : ¬ p < s.size := of_decide_eq_false h1
    conv => whnf
    have hnil : s.data.toList.drop p = [] := List.drop_of_length_le (by omega)
    rw [hnil, nameGo] at he
    refine brk_i (fun h2 => ?_) (fun h2 => ?_)
    · conv => whnf
      refine RetA_view 0 rfl ⟨⟨?_, rfl⟩, rfl⟩
      have h2 : s.size ≤ 14 := by have := of_decide_eq_true h2; omega
      rw [he]
      show V.d (.bool (!decide ((last : Int) = 45))) = _
      simp [h2]; omega
    · conv => whnf
      refine RetA_view 0 rfl ⟨⟨?_, rfl⟩, rfl⟩
      have h2 : ¬ s.size ≤ 14 := by have := of_decide_eq_false h2; omega
      rw [he]
      simp [h2, packD]
end Go.PX
