import Derived.Test.YtiflhdanniajdaaPxJ
import Derived.Test.YtiflhdanniajdaaPxI
import Derived.Laws.RangeString
import Derived.Test.YtiflhdanniajdaaPxH
set_option linter.all false
set_option maxRecDepth 10000
namespace Go.PX
open Go.Proofs

/-- May this byte stand here in a name? -/
def okAt (b : List UInt8) (i : Nat) (c : UInt8) : Bool :=
  (decide (97 ≤ c.toNat) && decide (c.toNat ≤ 122)) || (decide (c.toNat = 45) && decide (i ≠ 0) && decide (i + 1 ≠ b.length) && (match b[i - 1]? with
    | some p => decide (p.toNat ≠ 45)
    | none => false))

def nameL (b : List UInt8) : Nat → List UInt8 → Bool
  | _, [] => true
  | i, c :: r => okAt b i c && nameL b (i + 1) r

def nameF (s : ByteArray) : Bool := inB s.size 1 14 && nameL s.data.toList 0 s.data.toList

theorem fn112 (s : ByteArray) : FnV Try.prog 107 [.str s] (.bool (nameF s)) := by
  refine fnV_of mixed tysOk Try.func107 rfl (ft := ft107) 1 (by decide +kernel) (by rfl) fun {σ} Y st => ?_
  have hsz : s.size = s.data.toList.length := by simp
  conv => whnf
  refine CallA_v (ds := [i64 s.size, i64 1, i64 14]) (fn118 _ _ _) rfl rfl ?_
  conv => whnf
  refine brk_i (fun h0 => ?_) (fun h0 => ?_)
  · conv => whnf
    have : nameF s = false := by simp at h0; simp [nameF, h0]
    rw [this]
    exact RetA_view 0 rfl ⟨⟨rfl, rfl⟩, rfl⟩
  · have h0 : inB s.size 1 14 = true := by simpa using h0
    have hlen : s.data.toList.length ≤ 14 := by
      simp only [inB, Bool.and_eq_true, decide_eq_true_eq] at h0; omega
    have hn : nameF s = nameL s.data.toList 0 s.data.toList := by simp [nameF, h0]
    rw [hn]
    conv => whnf
    refine LoopA_p (T := tys) tysOk (by exact drawsB_spec mixed tysOk (by decide +kernel)) (α := Nat)
      (fun i => ⟨[(0, .d (.str s)), (3, .d (i64 i))], [], st⟩) (fun i => i ≤ s.data.toList.length ∧ nameL s.data.toList 0 s.data.toList = nameL s.data.toList i (s.data.toList.drop i)) (fun i => s.data.toList.length - i) 0
      (Wk.sub ⟨rfl, rfl, trivial⟩ trivial) (by simp) ?_
    rintro i ⟨hi, he⟩
    conv => whnf
    refine brk_i (fun hc => ?_) (fun hc => ?_)
    · have hc : i < s.data.toList.length := by
        have := of_decide_eq_true hc
        omega
      obtain ⟨c, hcc⟩ : ∃ c, s.data.toList[i]? = some c := ⟨_, List.getElem?_eq_getElem hc⟩
      have hd : s.data.toList.drop i = c :: s.data.toList.drop (i + 1) := by
        rw [List.drop_eq_getElem_cons hc]
        rw [List.getElem?_eq_getElem hc] at hcc
        rw [Option.some.inj hcc]
      rw [hd, nameL] at he
      have bad : okAt s.data.toList i c = false → RetA [V.d (.bool false)] [] st fun v h' s' => (v = V.d (.bool (nameL s.data.toList 0 s.data.toList)) ∧ h' = []) ∧ s' = st := by
        intro hb
        rw [he, hb]
        exact RetA_view 0 rfl ⟨⟨rfl, rfl⟩, rfl⟩
      have good : okAt s.data.toList i c = true → ∀ {st' : St σ}, Wk st' ⟨[(0, .d (.str s)), (3, .d (i64 ((i : Int) + 1)))], [], st⟩ → ∃ y, s.data.toList.length - y < s.data.toList.length - i ∧ (y ≤ s.data.toList.length ∧ nameL s.data.toList 0 s.data.toList = nameL s.data.toList y (s.data.toList.drop y)) ∧
          Wk st' ⟨[(0, .d (.str s)), (3, .d (i64 (y : Nat)))], [], st⟩ := by
        intro hb st' hw
        exact ⟨i + 1, by omega, ⟨hc, by rw [he, hb]; rfl⟩, by simpa using hw⟩
      conv => whnf
      refine cellK_i c (by simpa using hcc) ?_
      conv => whnf
      refine brk_i (fun h1 => ?_) (fun h1 => ?_)
      · have h1 : 97 ≤ c.toNat := by
          have := of_decide_eq_true h1
          omega
        conv => whnf
        refine cellK_i c (by simpa using hcc) ?_
        conv => whnf
        refine brk_i (fun h2 => ?_) (fun h2 => ?_)
        · have h2 : c.toNat ≤ 122 := by
            have := of_decide_eq_true h2
            omega
          conv => whnf
          refine arith_in (wrap_i64 (by (try dsimp only); omega)) ?_
          conv => whnf
          exact good (by simp [okAt, h1, h2]) (Wk.sub ⟨rfl, rfl, trivial⟩ trivial)
        · have h2 : ¬ c.toNat ≤ 122 := by
            have := of_decide_eq_false h2
            omega
          conv => whnf
          refine cellK_i c (by simpa using hcc) ?_
          conv => whnf
          refine brk_i (fun k1 => ?_) (fun k1 => ?_)
          · have k1 : c.toNat ≠ 45 := by
              have := k1
              simp at this; omega
            conv => whnf
            exact bad (by simp [okAt, k1]; omega)
          · have k1 : c.toNat = 45 := by
              have := k1
              simp at this; omega
            conv => whnf
            refine brk_i (fun k2 => ?_) (fun k2 => ?_)
            · have k2 : i = 0 := by
                have := of_decide_eq_true k2
                omega
              conv => whnf
              exact bad (by simp [okAt, k1, k2])
            · have k2 : i ≠ 0 := by
                have := of_decide_eq_false k2
                omega
              conv => whnf
              refine arith_in (wrap_i64 (by (try dsimp only); omega)) ?_
              conv => whnf
              refine brk_i (fun k3 => ?_) (fun k3 => ?_)
              · have k3 : i + 1 = s.data.toList.length := by
                  have := of_decide_eq_true k3
                  omega
                conv => whnf
                exact bad (by simp only [okAt, k1, k3]; simp)
              · have k3 : i + 1 ≠ s.data.toList.length := by
                  have := of_decide_eq_false k3
                  omega
                obtain ⟨p, hp⟩ : ∃ p, s.data.toList[i - 1]? = some p := ⟨_, List.getElem?_eq_getElem (by omega)⟩
                conv => whnf
                refine arith_in (wrap_i64 (by (try dsimp only); omega)) ?_
                conv => whnf
                refine chk_i (by simp; omega) ?_
                conv => whnf
                refine cellK_i p (by rw [show ((i : Int) - 1).toNat = i - 1 by omega]; exact hp) ?_
                conv => whnf
                refine brk_i (fun k4 => ?_) (fun k4 => ?_)
                · have k4 : p.toNat = 45 := by
                    have := of_decide_eq_true k4
                    omega
                  conv => whnf
                  exact bad (by simp only [okAt, hp, k4, k1]; simp)
                · have k4 : p.toNat ≠ 45 := by
                    have := of_decide_eq_false k4
                    omega
                  conv => whnf
                  refine arith_in (wrap_i64 (by (try dsimp only); omega)) ?_
                  conv => whnf
                  exact good (by simp only [okAt, hp, k1]; simp [k2, k4]; omega) (Wk.sub ⟨rfl, rfl, trivial⟩ trivial)

      · have h1 : ¬ 97 ≤ c.toNat := by
          have := of_decide_eq_false h1
          omega
        conv => whnf
        refine cellK_i c (by simpa using hcc) ?_
        conv => whnf
        refine brk_i (fun k1 => ?_) (fun k1 => ?_)
        · have k1 : c.toNat ≠ 45 := by
            have := k1
            simp at this; omega
          conv => whnf
          exact bad (by simp [okAt, k1]; omega)
        · have k1 : c.toNat = 45 := by
            have := k1
            simp at this; omega
          conv => whnf
          refine brk_i (fun k2 => ?_) (fun k2 => ?_)
          · have k2 : i = 0 := by
              have := of_decide_eq_true k2
              omega
            conv => whnf
            exact bad (by simp [okAt, k1, k2])
          · have k2 : i ≠ 0 := by
              have := of_decide_eq_false k2
              omega
            conv => whnf
            refine arith_in (wrap_i64 (by (try dsimp only); omega)) ?_
            conv => whnf
            refine brk_i (fun k3 => ?_) (fun k3 => ?_)
            · have k3 : i + 1 = s.data.toList.length := by
                have := of_decide_eq_true k3
                omega
              conv => whnf
              exact bad (by simp only [okAt, k1, k3]; simp)
            · have k3 : i + 1 ≠ s.data.toList.length := by
                have := of_decide_eq_false k3
                omega
              obtain ⟨p, hp⟩ : ∃ p, s.data.toList[i - 1]? = some p := ⟨_, List.getElem?_eq_getElem (by omega)⟩
              conv => whnf
              refine arith_in (wrap_i64 (by (try dsimp only); omega)) ?_
              conv => whnf
              refine chk_i (by simp; omega) ?_
              conv => whnf
              refine cellK_i p (by rw [show ((i : Int) - 1).toNat = i - 1 by omega]; exact hp) ?_
              conv => whnf
              refine brk_i (fun k4 => ?_) (fun k4 => ?_)
              · have k4 : p.toNat = 45 := by
                  have := of_decide_eq_true k4
                  omega
                conv => whnf
                exact bad (by simp only [okAt, hp, k4, k1]; simp)
              · have k4 : p.toNat ≠ 45 := by
                  have := of_decide_eq_false k4
                  omega
                conv => whnf
                refine arith_in (wrap_i64 (by (try dsimp only); omega)) ?_
                conv => whnf
                exact good (by simp only [okAt, hp, k1]; simp [k2, k4]; omega) (Wk.sub ⟨rfl, rfl, trivial⟩ trivial)
    · have hc : ¬ i < s.data.toList.length := by
        have := of_decide_eq_false hc
        omega
      conv => whnf
      rw [List.drop_of_length_le (by omega)] at he
      rw [he]
      exact RetA_view 0 rfl ⟨⟨rfl, rfl⟩, rfl⟩
end Go.PX

namespace Go.PX
open Go.Proofs

/-- ErrForm, ErrTwice or OK of a name. -/
def freshF (x : ByteArray) (before : List ByteArray) : Int :=
  if nameF x then (if before.any fun y => decide (y = x) then 5 else 0) else 6

theorem fn91 (x : ByteArray) (l : List ByteArray) (hl : l.length < 1000000) : FnV Try.prog 70 [.str x, strsD l] (i64 (freshF x l)) := by
  refine fnV_of mixed tysOk Try.func70 rfl (ft := ft70) 2 (by decide +kernel) (by rfl) fun {σ} Y st => ?_
  conv => whnf
  refine CallA_v (ds := [.str x]) (fn112 x) rfl rfl ?_
  conv => whnf
  refine brk_i (fun h1 => ?_) (fun h1 => ?_)
  · have h1 : nameF x = false := by simpa using h1
    conv => whnf
    simp only [freshF, h1]
    exact RetA_view 0 rfl ⟨⟨rfl, rfl⟩, rfl⟩
  · have h1 : nameF x = true := by simpa using h1
    conv => whnf
    refine CallA_v (ds := [strsD l, .str x]) (fn113 l x hl) rfl rfl ?_
    conv => whnf
    have hany := indexOf_any (fun y => decide (y = x)) l 0 (by omega)
    refine brk_i (fun h2 => ?_) (fun h2 => ?_)
    · have h2 : (l.any fun y => decide (y = x)) = true := by rw [← hany]; exact h2
      conv => whnf
      simp only [freshF, h1, h2]
      exact RetA_view 0 rfl ⟨⟨rfl, rfl⟩, rfl⟩
    · have h2 : (l.any fun y => decide (y = x)) = false := by rw [← hany]; exact h2
      conv => whnf
      simp only [freshF, h1, h2]
      exact RetA_view 0 rfl ⟨⟨rfl, rfl⟩, rfl⟩
end Go.PX

namespace Go.PX
open Go.Proofs

structure Weather where
  depth : Span
  wind : Span
  current : Span
  swell : Span
def Weather.cells (w : Weather) : List D := [i64 w.depth.lo, i64 w.depth.hi, i64 w.wind.lo, i64 w.wind.hi, i64 w.current.lo, i64 w.current.hi, i64 w.swell.lo, i64 w.swell.hi]
def Weather.d (w : Weather) : D := .agg w.cells

/-- The first error that is ErrRange; else the last one. -/
def worstErr : List Int → Int → Int
  | [], e => e
  | x :: r, e => if x = 7 then 7 else worstErr r (if x ≠ 0 then x else e)

def weatherErrs (w : Weather) : List Int := [spread 1 1000 [w.depth] 0, spread 0 80 [w.wind] 0, spread 0 80 [w.current] 0, spread 0 150 [w.swell] 0]
def weatherF (w : Weather) : Int := worstErr (weatherErrs w) 0

end Go.PX

namespace Go.PX
open Go.Proofs

structure Ship where
  wind : Int
  current : Int
  swell : Int
  yaw : Int
structure Case where
  chain : Chain
  ship : Ship
  day : Int
  weathers : List Weather
def weathersD (l : List Weather) : D := .vs (l.map Weather.cells)
def Case.cells (c : Case) : List D := [shotsD c.chain.shots, i64 c.chain.long, i64 c.chain.heavy, i64 c.chain.err, i64 c.chain.hold.lo, i64 c.chain.hold.hi, rowsD c.chain.rows,
  i64 c.ship.wind, i64 c.ship.current, i64 c.ship.swell, i64 c.ship.yaw, i64 c.day, weathersD c.weathers]
def Case.d (c : Case) : D := .agg c.cells

/-- What is needed of a case for its shots to be looked at. -/
structure CaseOk (c : Case) : Prop where
  len : c.chain.shots.length ≤ 7
  err : 0 ≤ c.chain.err ∧ c.chain.err ≤ 2000
  day : 0 ≤ c.day ∧ c.day ≤ 40000
  shots : ∀ s ∈ c.chain.shots, ShotOk s ∧ (∀ g ∈ s.gauges, gaugeOk g) ∧ s.gauges.length ≤ 6

def soundL (off day : Int) : List Shot → Int → Int
  | [], e => e
  | s :: r, e => if e = 0 then soundL off day r (if (rangeS s off s.gauges day).2 then e else 8) else e

end Go.PX

namespace Go.PX
open Go.Proofs

theorem out_eq (lo hi n : Int) : (decide (n < lo) || decide (n > hi)) = !inB n lo hi := by
  simp only [inB]
  by_cases h1 : lo ≤ n <;> by_cases h2 : n ≤ hi <;> simp [h1, h2] <;> omega

theorem FnV.cast {P : Program} {f : FuncId} {ds : List D} {r r' : D} (h : FnV P f ds r) (e : r = r') : FnV P f ds r' := by subst e; exact h

theorem fn51_1 (lo hi a : Int) : FnV Try.prog 61 [i64 lo, i64 hi, .vs [[i64 a]]] (.bool (!inB a lo hi)) := by
  exact FnV.cast (fn51 lo hi [a] (by simp)) (by simp [out_eq])
theorem fn51_2 (lo hi a b : Int) : FnV Try.prog 61 [i64 lo, i64 hi, .vs [[i64 a], [i64 b]]] (.bool (!(inB a lo hi && inB b lo hi))) := by
  exact FnV.cast (fn51 lo hi [a, b] (by simp)) (by simp [out_eq])
theorem fn51_3 (lo hi a b c : Int) : FnV Try.prog 61 [i64 lo, i64 hi, .vs [[i64 a], [i64 b], [i64 c]]] (.bool (!(inB a lo hi && (inB b lo hi && inB c lo hi)))) := by
  exact FnV.cast (fn51 lo hi [a, b, c] (by simp)) (by simp [out_eq])

end Go.PX

namespace Go.PX
open Go.Proofs

/-- The error of a chain but its shots and rows. -/
def plainF (c : Chain) : Int :=
  if inB c.shots.length 1 7 && inB c.rows.length 1 6 then
    (if inB c.long 1 50 && (inB c.heavy 0 200 && (inB c.err 0 2000 && (inB c.hold.lo 0 200000 && inB c.hold.hi 0 200000))) then (if c.hold.lo > c.hold.hi then 2 else 0) else 7)
  else 3

/-- The error of the gaugings, in order. -/
def gaugesL (set : Int) : Int → List Gauge → Int
  | _, [] => 0
  | last, g :: r => if inB g.day set 40000 && inB g.shown 0 60000 then (if g.day < last then 2 else gaugesL set g.day r) else 7

/-- The error of a shot but its name. -/
def checkF (s : Shot) : Int :=
  if inB s.links 1 40 && (inB s.set 0 40000 && (inB s.new.lo 1 60000 && inB s.new.hi 1 60000 && (inB s.wear.lo 0 20 && inB s.wear.hi 0 20))) then
    (if s.new.lo > s.new.hi ∨ s.wear.lo > s.wear.hi then 2 else (if 6 < s.gauges.length then 3 else gaugesL s.set s.set s.gauges))
  else 7

end Go.PX

namespace Go.PX
open Go.Proofs
open Go

/-- Names, rune by rune. -/
def nameGo : Nat → List UInt8 → Bool
  | last, [] => decide (last ≠ 45)
  | last, c :: r => if 97 ≤ c.toNat ∧ c.toNat ≤ 122 then nameGo c.toNat r else if c.toNat = 45 ∧ last ≠ 45 then nameGo 45 r else false

theorem nameGo_eq (b : List UInt8) : ∀ (r : List UInt8) (i last : Nat), r ≠ [] → r = b.drop i → (i = 0 → last = 45) → (∀ p, i ≠ 0 → b[i - 1]? = some p → last = p.toNat) → nameGo last r = nameL b i r
  | [], i, last, h, _, _, _ => absurd rfl h
  | c :: r, i, last, _, hd, h0, h1 => by
    have hlen : i + 1 + r.length = b.length := by
      have := congrArg List.length hd
      simp at this; omega
    have hget : b[i]? = some c := by
      have := congrArg (fun l => l[0]?) hd
      simpa using this.symm
    have hr : r = b.drop (i + 1) := by
      have := congrArg List.tail hd
      simpa using this
    have ih : ∀ last', last' = c.toNat → r ≠ [] → nameGo last' r = nameL b (i + 1) r := fun last' hl hne =>
      nameGo_eq b r (i + 1) last' hne hr (fun h => by omega) (fun p _ hp => by simp at hp; rw [hget] at hp; cases hp; exact hl)
    have hprev : i ≠ 0 → ∃ p, b[i - 1]? = some p ∧ last = p.toNat := fun hi => by
      have : i - 1 < b.length := by omega
      exact ⟨_, List.getElem?_eq_getElem this, h1 _ hi (List.getElem?_eq_getElem this)⟩
    simp only [nameGo, nameL, okAt]
    by_cases ha : 97 ≤ c.toNat ∧ c.toNat ≤ 122
    · rw [if_pos ha]
      simp only [ha.1, ha.2, decide_true, Bool.and_self, Bool.true_or, Bool.true_and]
      by_cases hne : r = []
      · subst hne
        simp [nameGo, nameL]; omega
      · exact ih _ rfl hne
    · rw [if_neg ha]
      have hf : (decide (97 ≤ c.toNat) && decide (c.toNat ≤ 122)) = false := by
        simp only [Bool.and_eq_false_iff, decide_eq_false_iff_not]; omega
      rw [hf, Bool.false_or]
      by_cases hc : c.toNat = 45
      · by_cases hi : i = 0
        · have := h0 hi
          simp [hc, hi, this]
        · obtain ⟨p, hp, hl⟩ := hprev hi
          rw [hp]
          by_cases hpl : p.toNat = 45
          · simp [hc, hl, hpl]
          · by_cases hne : r = []
            · have : i + 1 = b.length := by subst hne; simpa using hlen
              subst hne
              simp [hc, hl, hpl, nameGo, this]
            · have : i + 1 ≠ b.length := by
                have := List.length_pos_iff.2 hne; omega
              rw [if_pos ⟨hc, by rw [hl]; exact hpl⟩, ih 45 hc.symm hne]
              simp [hc, hi, hpl, this]
      · simp [hc]

theorem nameF_go (s : ByteArray) : nameF s = (decide (s.size ≤ 14) && nameGo 45 s.data.toList) := by
  have hsz : s.size = s.data.toList.length := by simp
  unfold nameF inB
  cases hb : s.data.toList with
  | nil =>
    have : s.size = 0 := by rw [hsz, hb]; rfl
    simp [this, nameGo]
  | cons c r =>
    rw [← hb, nameGo_eq s.data.toList s.data.toList 0 45 (by rw [hb]; simp) rfl (fun _ => rfl) (fun p h => absurd rfl h)]
    have h1 : 1 ≤ s.size := by rw [hsz, hb]; simp
    have e1 : decide ((1 : Int) ≤ (s.size : Int)) = true := by simp; omega
    have e2 : decide ((s.size : Int) ≤ 14) = decide (s.size ≤ 14) := by simp; omega
    rw [e1, e2]; simp

theorem decode_big (s : ByteArray) (i : Nat) (h : ¬ (s.get! (i + 0)).toNat < 128) : 128 ≤ (Utf8.decode s i).1 := by
  unfold Utf8.decode
  simp only [h, if_false]
  split
  · split
    · simp only; omega
    · simp [Utf8.runeError]
  · split
    · split
      · rename_i h1
        simp only [Bool.and_eq_true, decide_eq_true_eq] at h1
        simp only; omega
      · simp [Utf8.runeError]
    · split
      · split
        · rename_i h1
          simp only [Bool.and_eq_true, decide_eq_true_eq] at h1
          simp only; omega
        · simp [Utf8.runeError]
      · simp [Utf8.runeError]
end Go.PX

namespace Go.PX
open Go.Proofs
open Go

theorem fn47 (s : ByteArray) : FnV Try.prog 64 [.str s] (.bool (nameF s)) := by
  refine fnV_of mixed tysOk Try.func64 rfl (ft := ft64) 1 (by decide +kernel) (by rfl) fun {σ} Y st => ?_
  conv => whnf
  refine LoopA_p (T := tys) tysOk (by exact drawsB_spec mixed tysOk (by decide +kernel)) (α := Nat × Nat)
    (fun x => ⟨[(0, .d (.str s)), (3, .d (.int .i32 x.2)), (7, .it 7)], [(7, .iter s x.1)], st⟩) (fun x => x.1 ≤ s.size ∧ nameF s = (decide (s.size ≤ 14) && nameGo x.2 (s.data.toList.drop x.1))) (fun x => s.size - x.1) (0, 45)
    (Wk.sub ⟨(by first | rfl | (simp only [List.length_map]; rfl) | simp [PX.get]), (by first | rfl | (simp only [List.length_map]; rfl) | simp [PX.get]), (by first | rfl | (simp only [List.length_map]; rfl) | simp [PX.get]), trivial⟩ ⟨(by first | rfl | (simp only [List.length_map]; rfl) | simp [PX.get]), trivial⟩) ⟨by simp, by rw [nameF_go]; rfl⟩ ?_
  rintro ⟨p, last⟩ ⟨hp, he⟩
  simp only at hp he
  have hsz : s.size = s.data.toList.length := by simp
  conv => whnf
  refine brk_i (fun h1 => ?_) (fun h1 => ?_)
  · have h1 : p < s.size := of_decide_eq_true h1
    have hd : s.data.toList.drop p = s[p] :: s.data.toList.drop (p + 1) := by
      rw [List.drop_eq_getElem_cons (by omega)]; rfl
    rw [hd, nameGo] at he
    refine ⟨?_⟩
    by_cases hb : s[p].toNat < 128
    · rw [decode_ascii s p h1 hb]
      conv => whnf
      refine brk_i (fun h2 => ?_) (fun h2 => ?_)
      · have h2 : 97 ≤ s[p].toNat := by have := of_decide_eq_true h2; omega
        conv => whnf
        refine brk_i (fun h3 => ?_) (fun h3 => ?_)
        · have h3 : s[p].toNat ≤ 122 := by have := of_decide_eq_true h3; omega
          conv => whnf
          rw [if_pos ⟨h2, h3⟩] at he
          exact ⟨(p + 1, s[p].toNat), by simp only; omega, ⟨h1, he⟩, (Wk.sub ⟨(by first | rfl | (simp only [List.length_map]; rfl) | simp [PX.get]), (by first | rfl | (simp only [List.length_map]; rfl) | simp [PX.get]), (by first | rfl | (simp only [List.length_map]; rfl) | simp [PX.get]), trivial⟩ ⟨(by first | rfl | (simp only [List.length_map]; rfl) | simp [PX.get]), trivial⟩)⟩
        · have h3 : ¬ s[p].toNat ≤ 122 := by have := of_decide_eq_false h3; omega
          conv => whnf
          rw [if_neg (by omega), if_neg (by omega)] at he
          refine brk_i (fun h4 => ?_) (fun h4 => ?_)
          · conv => whnf
            rw [he, Bool.and_false]
            exact RetA_view 0 rfl ⟨⟨rfl, rfl⟩, rfl⟩
          · exact absurd h4 (by simp; omega)
      · have h2 : ¬ 97 ≤ s[p].toNat := by have := of_decide_eq_false h2; omega
        conv => whnf
        rw [if_neg (by omega)] at he
        refine brk_i (fun h4 => ?_) (fun h4 => ?_)
        · have h4 : s[p].toNat ≠ 45 := by simp at h4; omega
          conv => whnf
          rw [if_neg (by omega)] at he
          rw [he, Bool.and_false]
          exact RetA_view 0 rfl ⟨⟨rfl, rfl⟩, rfl⟩
        · have h4 : s[p].toNat = 45 := by simp at h4; omega
          conv => whnf
          refine brk_i (fun h5 => ?_) (fun h5 => ?_)
          · have h5 : last = 45 := by have := of_decide_eq_true h5; omega
            conv => whnf
            rw [if_neg (by omega)] at he
            rw [he, Bool.and_false]
            exact RetA_view 0 rfl ⟨⟨rfl, rfl⟩, rfl⟩
          · have h5 : last ≠ 45 := by have := of_decide_eq_false h5; omega
            conv => whnf
            rw [if_pos ⟨h4, h5⟩] at he
            exact ⟨(p + 1, 45), by simp only; omega, ⟨h1, he⟩, by rw [← h4]; exact (Wk.sub ⟨(by first | rfl | (simp only [List.length_map]; rfl) | simp [PX.get]), (by first | rfl | (simp only [List.length_map]; rfl) | simp [PX.get]), (by first | rfl | (simp only [List.length_map]; rfl) | simp [PX.get]), trivial⟩ ⟨(by first | rfl | (simp only [List.length_map]; rfl) | simp [PX.get]), trivial⟩)⟩
    · have hbig := decode_big s p (by
        have e : s.get! (p + 0) = s[p]'h1 := by
          show s.get! p = _
          simp [ByteArray.get!, getElem!_pos, h1]
          rfl
        rw [e]; exact hb)
      generalize (Utf8.decode s p).1 = c at hbig
      generalize (Utf8.decode s p).2 = n
      rw [if_neg (by omega), if_neg (by omega)] at he
      conv => whnf
      refine brk_i (fun h2 => ?_) (fun h2 => ?_)
      · conv => whnf
        refine brk_i (fun h3 => ?_) (fun h3 => ?_)
        · have := of_decide_eq_true h3; omega
        · conv => whnf
          refine brk_i (fun h4 => ?_) (fun h4 => ?_)
          · conv => whnf
            rw [he, Bool.and_false]
            exact RetA_view 0 rfl ⟨⟨rfl, rfl⟩, rfl⟩
          · exact absurd h4 (by simp; omega)
      · have := of_decide_eq_false h2; omega
  · have h1 : ¬ p < s.size := of_decide_eq_false h1
    conv => whnf
    have hnil : s.data.toList.drop p = [] := List.drop_of_length_le (by omega)
    rw [hnil, nameGo] at he
    refine brk_i (fun h2 => ?_) (fun h2 => ?_)
    · conv => whnf
      refine RetA_view 0 rfl ⟨⟨?_, rfl⟩, rfl⟩
      have h2 : s.size ≤ 14 := by have := of_decide_eq_true h2; omega
      rw [he]
      show V.d (.bool (!decide ((last : Int) = 45))) = _
      simp [h2]; omega
    · conv => whnf
      refine RetA_view 0 rfl ⟨⟨?_, rfl⟩, rfl⟩
      have h2 : ¬ s.size ≤ 14 := by have := of_decide_eq_false h2; omega
      rw [he]
      simp [h2, packD]
end Go.PX

namespace Go.PX
open Go.Proofs

/-- The first one with an error, and the error; behind the ones before it. -/
def firstE {α : Type} (f : List α → α → Int) : List α → List α → Int → Int × Int
  | _, [], _ => (0, 0)
  | b, x :: r, i => if f b x = 0 then firstE f (b ++ [x]) r (i + 1) else (i, f b x)

def shotE (b : List Shot) (x : Shot) : Int := if nameF x.name then (if b.any (fun y => decide (y.name = x.name)) then 5 else checkF x) else 6
def lastR (b : List Row) : Row := b.getLast?.getD ⟨0, 0⟩
def rowE (b : List Row) (r : Row) : Int :=
  if inB r.scope 1 200 && inB r.holds 1 1000 then (if r.scope ≤ (lastR b).scope ∨ r.holds ≤ (lastR b).holds then 2 else 0) else 7
def weatherE (_ : List Weather) (w : Weather) : Int :=
  if inB w.depth.lo 1 1000 && inB w.depth.hi 1 1000 && (inB w.wind.lo 0 80 && inB w.wind.hi 0 80 && (inB w.current.lo 0 80 && inB w.current.hi 0 80 && (inB w.swell.lo 0 150 && inB w.swell.hi 0 150))) then
    (if w.depth.lo > w.depth.hi ∨ w.wind.lo > w.wind.hi ∨ w.current.lo > w.current.hi ∨ w.swell.lo > w.swell.hi then 2 else 0) else 7

def restE (c : Case) : Int × Int × Int :=
  if inB c.ship.wind 0 10000 && (inB c.ship.current 0 10000 && inB c.ship.swell 0 10000) && inB c.ship.yaw 0 20 then
    (if inB c.day 0 40000 then
      (if c.chain.shots.any (fun s => decide (s.set > c.day)) then (5, 0, 2) else
        (if inB c.weathers.length 1 6 then
          (let p := firstE weatherE [] c.weathers 0
           if p.2 = 0 then (0, 0, 0) else (6, p.1, p.2))
        else (6, 0, 3)))
    else (5, 0, 7))
  else (4, 0, 7)

def rowsE (c : Case) : Int × Int × Int :=
  let p := firstE rowE [] c.chain.rows 0
  if p.2 = 0 then restE c else (3, p.1, p.2)

def checkC (c : Case) : Int × Int × Int :=
  if plainF c.chain = 0 then
    (let p := firstE shotE [] c.chain.shots 0
     if p.2 = 0 then rowsE c else (2, p.1, p.2))
  else (1, 0, plainF c.chain)

def tri (p : Int × Int × Int) : D := .tup [i64 p.1, i64 p.2.1, i64 p.2.2]

theorem any_take {l : List Shot} {i : Nat} {p : Shot → Bool} {q : Bool} (h : (l.take i).any p = q) : (((l.map Shot.cells).take i).drop 0) = ((l.take i).map Shot.cells) := by simp

theorem plain_lens {c : Chain} (h : plainF c = 0) : c.shots.length ≤ 7 ∧ c.rows.length ≤ 6 := by
  unfold plainF inB at h
  split at h
  · rename_i h1
    simp only [Bool.and_eq_true, decide_eq_true_eq] at h1
    omega
  · cases h

theorem restE_end {c : Case} (h1 : (inB c.ship.wind 0 10000 && (inB c.ship.current 0 10000 && inB c.ship.swell 0 10000)) = true) (h2 : inB c.ship.yaw 0 20 = true) (h3 : inB c.day 0 40000 = true) (h4 : (c.chain.shots.any fun s => decide (s.set > c.day)) = false) (h5 : inB c.weathers.length 1 6 = true) :
    restE c = (if (firstE weatherE [] c.weathers 0).2 = 0 then (0, 0, 0) else (6, (firstE weatherE [] c.weathers 0).1, (firstE weatherE [] c.weathers 0).2)) := by
  simp [restE, h1, h2, h3, h4, h5]

end Go.PX

namespace Go.PX
open Go.Proofs

theorem spread_one (lo hi : Int) (s : Span) : spread lo hi [s] 0 = if inB s.lo lo hi && inB s.hi lo hi then (if s.lo > s.hi then 2 else 0) else 7 := by
  simp [spread]

theorem gaugesF_some (set : Int) : ∀ (d : Int) (l : List Gauge), gaugesF set (some d) l = gaugesL set d l
  | d, [] => rfl
  | d, g :: r => by
    simp only [gaugesF, gaugesL, gaugesF_some set g.day r, decide_eq_true_eq]

theorem gaugesF_none (set : Int) : ∀ (l : List Gauge), gaugesF set none l = gaugesL set set l
  | [] => rfl
  | g :: r => by
    simp only [gaugesF, gaugesL, gaugesF_some set g.day r]
    by_cases h : (inB g.day set 40000 && inB g.shown 0 60000) = true
    · have : ¬ g.day < set := by
        simp only [inB, Bool.and_eq_true, decide_eq_true_eq] at h; omega
      simp [h, this]
    · simp [h]

theorem shotF_eq (s : Shot) : shotF s = checkF s := by
  unfold shotF checkF
  rw [spread_one, spread_one, gaugesF_none]
  grind

theorem weatherF_eq (b : List Weather) (w : Weather) : weatherF w = weatherE b w := by
  unfold weatherF weatherErrs weatherE
  simp only [worstErr, spread_one]
  grind

theorem shotE_eq (b : List Shot) (x : Shot) : shotE b x = if freshF x.name (b.map (·.name)) = 0 then shotF x else freshF x.name (b.map (·.name)) := by
  rw [shotF_eq]
  unfold shotE freshF
  simp only [List.any_map]
  have : ((fun y => decide (y = x.name)) ∘ fun s : Shot => s.name) = fun y : Shot => decide (y.name = x.name) := rfl
  rw [this]
  grind

/-- The part, the index and the error of a chain. -/
def chainE (c : Chain) : Int × Int × Int :=
  if plainF c = 0 then
    (let p := firstE shotE [] c.shots 0
     if p.2 = 0 then (let p := firstE rowE [] c.rows 0
      if p.2 = 0 then (0, 0, 0) else (3, p.1, p.2)) else (2, p.1, p.2))
  else (1, 0, plainF c)

theorem plainF_alt (c : Chain) : plainF c = if inB c.shots.length 1 7 && inB c.rows.length 1 6 then (if inB c.long 1 50 && (inB c.heavy 0 200 && inB c.err 0 2000) then spread 0 200000 [c.hold] 0 else 7) else 3 := by
  unfold plainF
  rw [spread_one]
  grind

theorem lastR_take {l : List Row} {i : Nat} {p : Row} (hi : i ≠ 0) (h : l[i - 1]? = some p) : lastR (l.take i) = p := by
  have : i = (i - 1) + 1 := by omega
  rw [this, List.take_succ, h]
  simp [lastR]

theorem prev_elem {l : List Row} {i : Nat} {p : Row} (hi : i ≠ 0) (h : l[i - 1]? = some p) : 0 ≤ (i : Int) - 1 ∧ (l.map Row.cells)[((i : Int) - 1).toNat]? = some p.cells := by
  have : ((i : Int) - 1).toNat = i - 1 := by omega
  rw [this]
  exact ⟨by omega, by simp [h]⟩

end Go.PX

namespace Go.PX
open Go.Proofs

theorem checkC_alt (c : Case) : checkC c = if (chainE c.chain).2.2 = 0 then restE c else chainE c.chain := by
  unfold checkC chainE rowsE
  by_cases h0 : plainF c.chain = 0
  · simp only [h0, if_true]
    grind
  · simp [h0]

theorem chainE_lens {c : Chain} (h : (chainE c).2.2 = 0) : c.shots.length ≤ 7 ∧ c.rows.length ≤ 6 := by
  apply plain_lens
  unfold chainE at h
  by_cases h0 : plainF c = 0
  · exact h0
  · rw [if_neg h0] at h; exact h

end Go.PX

namespace Go.PX
open Go.Proofs

/-- The truths with which gaugings agree, wear by wear. -/
def truthsL (set off : Int) (new : Int × Int) (gs : List Gauge) : Nat → Int → List (Int × (Int × Int))
  | 0, _ => []
  | n + 1, wear => match fitsF set off wear new gs with
    | none => truthsL set off new gs n (wear + 1)
    | some f => (wear, f) :: truthsL set off new gs n (wear + 1)

def truthsS (s : Shot) (off : Int) (gs : List Gauge) : List (Int × (Int × Int)) := truthsL s.set off (s.new.lo, s.new.hi) gs (s.wear.hi + 1 - s.wear.lo).toNat s.wear.lo

def truthD (t : Int × (Int × Int)) : D := .agg [i64 t.1, i64 t.2.1, i64 t.2.2]

def sCells (s : Shot) (off : Int) : List D := s.cells ++ [i64 off]

/-- What is needed of a shot that is looked at. -/
structure LookOk (s : Shot) (off : Int) (gs : List Gauge) : Prop where
  off : 0 ≤ off ∧ off ≤ 1000000
  shot : ShotOk s
  gok : ∀ g ∈ gs, gaugeOk g
  len : gs.length < 1000000

theorem lost_bd {wear day set : Int} (hw : 0 ≤ wear ∧ wear ≤ 1000000) (hd : 0 ≤ day ∧ day ≤ 1000000) (hs : 0 ≤ set ∧ set ≤ 1000000) : -1000000000000 ≤ wear * (day - set) ∧ wear * (day - set) ≤ 1000000000000 := by
  have := mul_bd (a := wear) (b := day - set) 1000000 1000000 (by omega) (by omega)
  omega

def thickStep (set day : Int) (acc : Span × Bool) (t : Int × (Int × Int)) : Span × Bool :=
  let out := if acc.2 then acc.1 else ⟨onF set t.2.1 t.1 day, onF set t.2.2 t.1 day⟩
  (⟨min out.lo (onF set t.2.1 t.1 day), max out.hi (onF set t.2.2 t.1 day)⟩, true)

theorem thick_eq (set off day : Int) (new : Int × Int) (gs : List Gauge) : ∀ (n : Nat) (wear : Int) (acc : Span × Bool), rangeF set off day new gs n wear acc = (truthsL set off new gs n wear).foldl (thickStep set day) acc
  | 0, wear, acc => rfl
  | n + 1, wear, acc => by
    simp only [rangeF, truthsL]
    cases fitsF set off wear new gs with
    | none => exact thick_eq set off day new gs n (wear + 1) acc
    | some f => exact thick_eq set off day new gs n (wear + 1) _

theorem rangeS_fold (s : Shot) (off : Int) (gs : List Gauge) (day : Int) : rangeS s off gs day = (truthsS s off gs).foldl (thickStep s.set day) (⟨0, 0⟩, false) := thick_eq _ _ _ _ _ _ _ _

theorem truthsL_ok {set off : Int} {new : Int × Int} {gs : List Gauge} (hn : 0 ≤ new.1 ∧ new.1 ≤ new.2 ∧ new.2 ≤ 1000000) : ∀ (n : Nat) (wear : Int), 0 ≤ wear → wear + n ≤ 1000000 → ∀ t ∈ truthsL set off new gs n wear, (0 ≤ t.1 ∧ t.1 ≤ 1000000) ∧ (0 ≤ t.2.1 ∧ t.2.1 ≤ 1000000) ∧ (0 ≤ t.2.2 ∧ t.2.2 ≤ 1000000)
  | 0, wear, h0, h1, t, ht => by cases ht
  | n + 1, wear, h0, h1, t, ht => by
    simp only [truthsL] at ht
    split at ht
    · exact truthsL_ok hn n (wear + 1) (by omega) (by omega) t ht
    · rename_i f hf
      rcases List.mem_cons.1 ht with rfl | ht
      · have := fitsF_le hn.2.1 hf
        simp only; omega
      · exact truthsL_ok hn n (wear + 1) (by omega) (by omega) t ht

theorem truthsS_ok {s : Shot} {off : Int} {gs : List Gauge} (h : LookOk s off gs) : ∀ t ∈ truthsS s off gs, (0 ≤ t.1 ∧ t.1 ≤ 1000000) ∧ (0 ≤ t.2.1 ∧ t.2.1 ≤ 1000000) ∧ (0 ≤ t.2.2 ∧ t.2.2 ≤ 1000000) := by
  obtain ⟨hoff, ⟨hset, hnew, hwear⟩, hg, hlen⟩ := h
  exact truthsL_ok (by simp only; omega) _ _ (by omega) (by omega)
end Go.PX

namespace Go.PX
open Go.Proofs

end Go.PX

namespace Go.PX
open Go.Proofs

theorem rangeS_some (s : Shot) (off : Int) (gs : List Gauge) (day : Int) : (rangeS s off gs day).2 = !(truthsS s off gs).isEmpty := by
  rw [rangeS_fold]
  cases truthsS s off gs with
  | nil => rfl
  | cons t r =>
    rw [List.foldl_cons]
    have : ∀ (l : List (Int × (Int × Int))) (acc : Span × Bool), acc.2 = true → (l.foldl (thickStep s.set day) acc).2 = true := by
      intro l
      induction l with
      | nil => exact fun _ h => h
      | cons a l ih => exact fun acc _ => ih _ rfl
    exact this r _ rfl
end Go.PX

namespace Go.PX
open Go.Proofs

/-- The error of a case and the index of a shot. -/
def openE (c : Case) (i : Int) : Int :=
  if (checkC c).2.2 = 0 then (if inB i 0 ((c.chain.shots.length : Int) - 1) then 0 else 4) else (checkC c).2.2

theorem inB_get {l : List Shot} {i : Int} (h : inB i 0 ((l.length : Int) - 1) = true) : ∃ s, 0 ≤ i ∧ l[i.toNat]? = some s := by
  simp only [inB, Bool.and_eq_true, decide_eq_true_eq] at h
  exact ⟨_, h.1, List.getElem?_eq_getElem (by omega)⟩

/-- The cells of a shot that is asked for; none are, if there is an error. -/
def openD (c : Case) (i : Int) : D :=
  if openE c i = 0 then (match c.chain.shots[i.toNat]? with
    | some s => .agg (sCells s c.chain.err)
    | none => .nilp) else .agg [.str ⟨#[]⟩, i64 0, i64 0, i64 0, i64 0, i64 0, i64 0, .nils, i64 0]

theorem chainE_ok {c : Case} (h : (checkC c).2.2 = 0) : (chainE c.chain).2.2 = 0 := by
  rw [checkC_alt] at h
  by_cases h0 : (chainE c.chain).2.2 = 0
  · exact h0
  · rw [if_neg h0] at h; exact absurd h h0

theorem case_lens {c : Case} (h : (checkC c).2.2 = 0) : c.chain.shots.length ≤ 7 ∧ c.chain.rows.length ≤ 6 := chainE_lens (chainE_ok h)

theorem firstE_all {α : Type} {f : List α → α → Int} : ∀ {l : List α} {b : List α} {i : Int}, (firstE f b l i).2 = 0 → ∀ x ∈ l, ∃ b', f b' x = 0
  | [], _, _, _, x, hx => by cases hx
  | y :: r, b, i, h, x, hx => by
    simp only [firstE] at h
    split at h
    · rename_i h0
      rcases List.mem_cons.1 hx with rfl | hx
      · exact ⟨b, h0⟩
      · exact firstE_all h x hx
    · rename_i h0; exact absurd h h0

theorem inB_iff {n lo hi : Int} : inB n lo hi = true ↔ lo ≤ n ∧ n ≤ hi := by
  simp [inB]

theorem gaugesL_ok {set : Int} : ∀ {l : List Gauge} {last : Int}, gaugesL set last l = 0 → ∀ g ∈ l, (set ≤ g.day ∧ g.day ≤ 40000) ∧ (0 ≤ g.shown ∧ g.shown ≤ 60000)
  | [], _, _, g, hg => by cases hg
  | x :: r, last, h, g, hg => by
    simp only [gaugesL] at h
    split at h
    · rename_i h1
      simp only [Bool.and_eq_true, inB_iff] at h1
      split at h
      · cases h
      · rcases List.mem_cons.1 hg with rfl | hg
        · exact h1
        · exact gaugesL_ok h g hg
    · cases h

/-- What holds of a shot without an error. -/
structure ShotR (s : Shot) : Prop where
  links : 1 ≤ s.links ∧ s.links ≤ 40
  set : 0 ≤ s.set ∧ s.set ≤ 40000
  new : 1 ≤ s.new.lo ∧ s.new.lo ≤ s.new.hi ∧ s.new.hi ≤ 60000
  wear : 0 ≤ s.wear.lo ∧ s.wear.lo ≤ s.wear.hi ∧ s.wear.hi ≤ 20
  len : s.gauges.length ≤ 6
  gauges : ∀ g ∈ s.gauges, (s.set ≤ g.day ∧ g.day ≤ 40000) ∧ (0 ≤ g.shown ∧ g.shown ≤ 60000)

theorem checkF_ok {s : Shot} (h : checkF s = 0) : ShotR s := by
  unfold checkF at h
  split at h
  · rename_i h1
    simp only [Bool.and_eq_true, inB_iff] at h1
    split at h
    · cases h
    · split at h
      · cases h
      · refine ⟨by omega, by omega, by omega, by omega, by omega, gaugesL_ok h⟩
  · cases h

/-- What holds of a case without an error. -/
structure CaseR (c : Case) : Prop where
  lens : 1 ≤ c.chain.shots.length ∧ c.chain.shots.length ≤ 7
  rlen : 1 ≤ c.chain.rows.length ∧ c.chain.rows.length ≤ 6
  long : 1 ≤ c.chain.long ∧ c.chain.long ≤ 50
  heavy : 0 ≤ c.chain.heavy ∧ c.chain.heavy ≤ 200
  err : 0 ≤ c.chain.err ∧ c.chain.err ≤ 2000
  hold : 0 ≤ c.chain.hold.lo ∧ c.chain.hold.lo ≤ c.chain.hold.hi ∧ c.chain.hold.hi ≤ 200000
  shots : ∀ s ∈ c.chain.shots, ShotR s ∧ s.set ≤ c.day
  rows : ∀ r ∈ c.chain.rows, (1 ≤ r.scope ∧ r.scope ≤ 200) ∧ (1 ≤ r.holds ∧ r.holds ≤ 1000)
  ship : (0 ≤ c.ship.wind ∧ c.ship.wind ≤ 10000) ∧ (0 ≤ c.ship.current ∧ c.ship.current ≤ 10000) ∧ (0 ≤ c.ship.swell ∧ c.ship.swell ≤ 10000) ∧ (0 ≤ c.ship.yaw ∧ c.ship.yaw ≤ 20)
  day : 0 ≤ c.day ∧ c.day ≤ 40000
  wlen : 1 ≤ c.weathers.length ∧ c.weathers.length ≤ 6
  weathers : ∀ w ∈ c.weathers, (1 ≤ w.depth.lo ∧ w.depth.lo ≤ w.depth.hi ∧ w.depth.hi ≤ 1000) ∧ (0 ≤ w.wind.lo ∧ w.wind.lo ≤ w.wind.hi ∧ w.wind.hi ≤ 80) ∧ (0 ≤ w.current.lo ∧ w.current.lo ≤ w.current.hi ∧ w.current.hi ≤ 80) ∧ (0 ≤ w.swell.lo ∧ w.swell.lo ≤ w.swell.hi ∧ w.swell.hi ≤ 150)

theorem case_ok {c : Case} (h : (checkC c).2.2 = 0) : CaseR c := by
  unfold checkC at h
  split at h
  case isFalse h0 => exact absurd h h0
  rename_i hp
  simp only at h
  split at h
  case isFalse h0 => exact absurd h h0
  rename_i hs
  unfold rowsE at h
  simp only at h
  split at h
  case isFalse h0 => exact absurd h h0
  rename_i hr
  unfold restE at h
  split at h
  case isFalse => cases h
  rename_i h1
  split at h
  case isFalse => cases h
  rename_i h2
  split at h
  case isTrue => cases h
  rename_i h3
  split at h
  case isFalse => cases h
  rename_i h4
  simp only at h
  split at h
  case isFalse h0 => exact absurd h h0
  rename_i hw
  unfold plainF at hp
  split at hp
  case isFalse => cases hp
  rename_i p1
  split at hp
  case isFalse => cases hp
  rename_i p2
  split at hp
  case isTrue => cases hp
  rename_i p3
  simp only [Bool.and_eq_true, inB_iff] at h1 h2 h4 p1 p2
  refine ⟨by omega, by omega, by omega, by omega, by omega, by omega, fun s hm => ⟨?_, ?_⟩, fun r hm => ?_, by omega, by omega, by omega, fun w hm => ?_⟩
  · obtain ⟨b, hb⟩ := firstE_all hs s hm
    unfold shotE at hb
    split at hb
    · split at hb
      · cases hb
      · exact checkF_ok hb
    · cases hb
  · rw [Bool.not_eq_true, List.any_eq_false] at h3
    have := h3 s hm
    simp at this; exact this
  · obtain ⟨b, hb⟩ := firstE_all hr r hm
    unfold rowE at hb
    split at hb
    · rename_i q; simp only [Bool.and_eq_true, inB_iff] at q; exact q
    · cases hb
  · obtain ⟨b, hb⟩ := firstE_all hw w hm
    unfold weatherE at hb
    split at hb
    · rename_i q
      simp only [Bool.and_eq_true, inB_iff] at q
      split at hb
      · cases hb
      · omega
    · cases hb

theorem CaseR.look {c : Case} (h : CaseR c) {s : Shot} (hs : s ∈ c.chain.shots) : LookOk s c.chain.err s.gauges := by
  obtain ⟨⟨h1, h2, h3, h4, h5, h6⟩, h7⟩ := h.shots s hs
  have he := h.err
  refine ⟨by omega, ⟨by omega, by omega, by omega⟩, fun g hg => ?_, by omega⟩
  have := h6 g hg
  unfold gaugeOk
  omega

/-- How thick a shot can be on a day, and the error. -/
def thickE (c : Case) (i day : Int) : Span × Int :=
  if openE c i = 0 then (match c.chain.shots[i.toNat]? with
    | some s => if inB day s.set 40000 then (if (rangeS s c.chain.err s.gauges day).2 then ((rangeS s c.chain.err s.gauges day).1, 0) else (⟨0, 0⟩, 9)) else (⟨0, 0⟩, 7)
    | none => (⟨0, 0⟩, 0)) else (⟨0, 0⟩, openE c i)

theorem openE_ok {c : Case} {i : Int} (h : openE c i = 0) : (checkC c).2.2 = 0 ∧ ∃ s, 0 ≤ i ∧ c.chain.shots[i.toNat]? = some s := by
  unfold openE at h
  split at h
  · rename_i h0
    split at h
    · rename_i h1
      obtain ⟨s, h2, h3⟩ := inB_get h1
      exact ⟨h0, s, h2, h3⟩
    · cases h
  · rename_i h0; exact absurd h h0

end Go.PX

/- PX: a call by value whose arguments are frozen for good. -/
namespace Go.PX

def delL : List Nat → List Wr
  | [] => []
  | i :: r => .del i :: delL r

theorem applyWs_delL {σ : Type} : ∀ (l : List Nat) (st : St σ), applyWs st (delL l) = ⟨st.env, cutL st.heap l, st.s⟩
  | [], st => rfl
  | i :: r, st => by
    show applyWs (applyW st (.del i)) (delL r) = _
    rw [applyWs_delL r]; rfl

theorem applyWs_append {σ : Type} : ∀ (a b : List Wr) (st : St σ), applyWs st (a ++ b) = applyWs (applyWs st a) b
  | [], b, st => rfl
  | w :: a, b, st => applyWs_append a b (applyW st w)

section
variable {P : Program} {σ : Type}

/-- The objects of a part are frozen for good. -/
theorem Good.frzPart {cx : Cx σ} {r : Option Nat} {m : List Nat} {L : Loc} {F : Nat → Nat} {st : St σ} {a : Act} {w : World} (hg : Good cx r m L F st a w) {h : Heap} (hsub : SubT h st.heap) (n : Nat) :
    ∃ F1, Good cx r m L F1 (applyWs st (delL (keysOf h))) a w ∧ Tr F w F1 w ∧ ∀ args vals ds, viewL (objD h n) args = some ds → RepVL cx.yv L F w args vals → RepDL F1 w ds vals := by
  have hok : HeapOk cx L F h st.s w := (hg.sub (e := st.env) (h := h) (fun _ _ h => h) hsub).heap
  have tr := frzAll_tr hok
  have hF1C : ∀ b, cx.C st.s b → frzAll L F h w b = F b := fun b hb => frzAll_C hok hb
  have hF1o : ∀ id o, get st.heap id = some o → id ∉ keysOf h → Backed L id o → frzAll L F h w (L.ρ id) = F (L.ρ id) := by
    intro id o hi hn hb
    refine frzAll_other ?_
    rintro ⟨j, p, hj, hbj, hij⟩
    have := hg.heap.inj j id p o (hsub j p hj) hi hbj hb hij
    subst this
    exact hn (keysOf_mem hj)
  have hfr := frzAll_fresh hok
  have hobj := objD_t hok n
  generalize frzAll L F h w = F1 at tr hF1C hF1o hfr hobj
  rw [applyWs_delL]
  have hget : ∀ i o, get (cutL st.heap (keysOf h)) i = some o → i ∉ keysOf h ∧ get st.heap i = some o := by
    intro i o hi
    rw [get_cutL] at hi
    split at hi
    · cases hi
    · rename_i hn; exact ⟨hn, hi⟩
  refine ⟨F1, ⟨⟨cx.stable hg.heap.hg tr hfr fun b hb => ⟨rfl, hF1C b hb⟩, hg.heap.csz, hfr, ?_, ?_, ?_⟩, ?_, hg.dfr, hg.mks, hg.mnd, hg.lk, hg.pin, hg.tsz⟩, tr, fun args vals ds hv hr => viewL_t tr hobj args vals ds hv hr⟩
  · intro i o hi
    exact RepO.mono tr i o (fun _ _ => ⟨rfl, rfl⟩) ⟨rfl, rfl⟩ (fun _ => rfl) (hg.heap.obj i o (hget i o hi).2)
  · intro i o hi hb
    obtain ⟨hn, h0⟩ := hget i o hi
    rw [hF1o i o h0 hn hb]
    exact hg.heap.own i o h0 hb
  · intro i j o p hi hj hbi hbj he
    exact hg.heap.inj i j o p (hget i o hi).2 (hget j p hj).2 hbi hbj he
  · intro t v ht
    obtain ⟨x, hx, hr⟩ := hg.env t v ht
    exact ⟨x, hx, RepV.mono tr v x (fun _ _ => ⟨rfl, rfl⟩) hr⟩

/-- A call by value; what is handed over is data from then on. -/
theorem outCall_fz {f : FuncId} {ds : List D} {res : D} (hf : FnV P f ds res) (n : Nat) {e : Env} {h : Heap} {d : Option Nat} {args : List V} (hv : viewL (objD h n) args = some ds) (hd : Nat.ble (d.getD 0) 10000 = true) :
    OutCall P e h d f args (delL (keysOf h) ++ wset d (.d res)) := by
  have ho := outCall_v (P := P) hf (e := []) (h := []) (d := d) (args := inj ds) rfl hd
  refine ⟨ho.1, fun {σ} cx r m L F st a w vals he hh hg hdt hr => ?_⟩
  obtain ⟨F1, hg1, tr1, hvw⟩ := hg.frzPart hh n
  rw [applyWs_append]
  refine (ho.2 cx r m L F1 (applyWs st (delL (keysOf h))) a w vals (fun _ _ h => by cases h) (fun _ _ h => by cases h) hg1 hdt (RepVL.inj.2 (hvw _ _ _ hv hr))).mono ?_
  rintro en w' ⟨x, rfl, L', F', hg', tr'⟩
  exact ⟨x, rfl, L', F', hg', Tr.trans tr1 tr'⟩

theorem CallA_fz {Y : Hd σ} {f : FuncId} {ds : List D} {res : D} (hf : FnV P f ds res) (n : Nat) {e : Env} {h : Heap} {s : σ} {d : Option Nat} {args : List V} (ids : List Nat) (hv : viewL (objD (keepT ids h) n) args = some ds) (hd : Nat.ble (d.getD 0) 10000 = true)
    {K : St σ → Prop} (hk : applyK (delL (keysOf (keepT ids h)) ++ wset d (.d res)) e h fun e h => K ⟨e, h, s⟩) : CallA P Y ⟨e, h, s⟩ d f args K := by
  have ho := outCall_fz (P := P) hf n (e := e) (h := keepT ids h) (d := d) (args := args) hv hd
  refine CallA_out (ws := delL (keysOf (keepT ids h)) ++ wset d (.d res)) ⟨ho.1, fun {σ} cx r m L F st a w vals he hh hg hdt hr => ?_⟩ hk
  exact ho.2 cx r m L F st a w vals he (fun i o hi => hh i o (sub_keepT ids h i o hi)) hg hdt hr

theorem DrawCall_fz {f : FuncId} {ds : List D} {res : D} (hf : FnV P f ds res) (n : Nat) {e : Env} {h : Heap} {d : Option Nat} {args : List V} (hv : viewL (objD h n) args = some ds) (hd : Nat.ble (d.getD 0) 10000 = true)
    {K : List Wr → Prop} (hk : K (delL (keysOf h) ++ wset d (.d res))) : DrawCall P e h d f args K := ⟨_, hk, outCall_fz hf n hv hd⟩
end
end Go.PX

/- PX: objects are frozen, one that holds them is data from then on. -/
namespace Go.PX

theorem viewLL_app {g : Nat → Option DO} {vs : List (List V)} {ds : List (List D)} (h : viewLL g vs = some ds) : ∀ (es : List (List D)), viewLL g (injL es ++ vs) = some (es ++ ds)
  | [] => h
  | e :: r => by
    show viewLL g (inj e :: (injL r ++ vs)) = _
    rw [viewLL, viewLL_app h r]
    have : viewL g (inj e) = some e := by
      have := viewL_app (g := g) (a := e) (r := []) (r' := []) rfl
      simpa using this
    rw [this]; rfl

theorem viewLL_one {g : Nat → Option DO} {v : List V} {d : List D} (h : viewL g v = some d) : viewLL g [v] = some [d] := by
  rw [viewLL, h]; rfl

theorem nameBL_inj (i : Nat) : ∀ l : List D, nameBL i (inj l) = false
  | [] => rfl
  | d :: r => by
    show (nameB i (.d d) || nameBL i (inj r)) = false
    rw [nameBL_inj i r]; rfl

theorem nameBL_append (i : Nat) : ∀ a b : List V, nameBL i (a ++ b) = (nameBL i a || nameBL i b)
  | [], b => rfl
  | v :: a, b => by
    show (nameB i v || nameBL i (a ++ b)) = ((nameB i v || nameBL i a) || nameBL i b)
    rw [nameBL_append i a b, Bool.or_assoc]

theorem nameBL_injL (i : Nat) (vs : List (List V)) : ∀ es : List (List D), nameBL i ((injL es ++ vs).flatten) = nameBL i vs.flatten
  | [] => rfl
  | e :: r => by
    show nameBL i (inj e ++ (injL r ++ vs).flatten) = _
    rw [nameBL_append, nameBL_inj, nameBL_injL i vs r]; rfl

theorem mapIdLL_injL (f : V → V) (vs : List (List V)) : ∀ es : List (List D), mapIdLL f (injL es ++ vs) = injL es ++ mapIdLL f vs
  | [] => rfl
  | e :: r => by
    show mapIdL f (inj e) :: mapIdLL f (injL r ++ vs) = _
    rw [mapIdL_inj, mapIdLL_injL f vs r]; rfl

section
variable {σ : Type}

theorem delL_heap {e : Env} {h : Heap} {s : σ} (l : List Nat) : applyWs (⟨e, h, s⟩ : St σ) (delL l) = ⟨e, cutL h l, s⟩ := applyWs_delL l _

theorem keys_keep {α : Type} : ∀ (ids : List Nat) (t : Tab α) (i : Nat) (o : α), get (keepT ids t) i = some o → get t i = some o := fun ids t i o h => sub_keepT ids t i o h

/-- Objects are frozen; what holds them is data. -/
theorem Wk.frzArr {e : Env} {h : Heap} {s : σ} (n : Nat) (ids : List Nat) (k : Nat) {sz : Nat} {vs : List (List V)} {ds : List (List D)} (hk : get (cutL h (keysOf (keepT ids h))) k = some (.arr sz (.vv vs))) (hv : viewLL (objD (keepT ids h) n) vs = some ds) :
    Wk (⟨e, h, s⟩ : St σ) ⟨e, put (cutL h (keysOf (keepT ids h))) k (.arr sz (.dd ds)), s⟩ := by
  intro cx r m L F a w hg
  obtain ⟨F1, hg1, tr, hvw⟩ := hg.frzPart (h := keepT ids h) (sub_keepT ids h) n
  rw [delL_heap] at hg1
  have h0 : RepO cx.yv L F w k (.arr sz (.vv vs)) := by
    rw [get_cutL] at hk
    split at hk
    · cases hk
    · exact hg.heap.obj k _ hk
  obtain ⟨f1, f2, f3⟩ := viewLL_flat hv
  have hnew : RepO cx.yv L F1 w k (.arr sz (.dd ds)) := by
    obtain ⟨c1, c2, c3⟩ := h0
    have hl : (Els.dd ds).toV.length = ds.length := by rw [← Els.len_eq]; rfl
    have hflat : (Els.dd ds).toV.flatten = inj ds.flatten := by
      show (injL ds).flatten = _
      clear hl f1 f2 f3 hv
      induction ds with
      | nil => rfl
      | cons d r ih =>
        show inj d ++ (injL r).flatten = _
        rw [ih, List.flatten_cons, inj_append]
    refine ⟨c1, ?_, ?_⟩
    · have h3 := f3 sz c2
      intro x hx
      show x.length = sz
      have : ∀ (l : List (List D)), (∀ d ∈ l, d.length = sz) → ∀ x ∈ injL l, x.length = sz := by
        intro l
        induction l with
        | nil => intro _ x hx; cases hx
        | cons d r ih =>
          intro hd x hx
          rcases List.mem_cons.1 hx with rfl | hx
          · rw [inj_length]; exact hd d (by simp)
          · exact ih (fun d hd' => hd d (by simp [hd'])) x hx
      exact this ds h3 x hx
    · rcases c3 with ⟨c4, c5⟩ | ⟨c, T, c4, c5, c6, c7⟩
      · left
        refine ⟨?_, c5⟩
        have hvs : vs = [] := c4
        have : ds = [] := by
          have : ds.length = 0 := by rw [f2, hvs]; rfl
          exact List.length_eq_zero_iff.1 this
        rw [this]; rfl
      · right
        have e1 : (Els.vv vs).toV = vs := rfl
        rw [e1] at c6 c7
        refine ⟨c, T, c4, c5, by rw [hl, f2]; exact c6, ?_⟩
        rw [hflat, hl, f2]
        exact RepVL.inj.2 (hvw _ _ _ f1 c7)
  have key : ∀ i q, get (put (cutL h (keysOf (keepT ids h))) k (.arr sz (.dd ds))) i = some q → (i = k ∧ q = .arr sz (.dd ds)) ∨ get (cutL h (keysOf (keepT ids h))) i = some q := by
    intro i q hi
    rw [get_put] at hi
    split at hi
    · rename_i e1; cases hi; exact .inl ⟨e1, rfl⟩
    · exact .inr hi
  refine ⟨L, F1, ⟨⟨hg1.heap.hg, hg1.heap.csz, hg1.heap.fresh, fun i q hi => ?_, fun i q hi hbk => ?_, fun i j q p hi hj hbi hbj e => ?_⟩, hg1.env, hg1.dfr, hg1.mks, hg1.mnd, hg1.lk, hg1.pin, hg1.tsz⟩, tr⟩
  · rcases key i q hi with ⟨rfl, rfl⟩ | hi
    · exact hnew
    · exact hg1.heap.obj i q hi
  · rcases key i q hi with ⟨rfl, rfl⟩ | hi
    · exact hg1.heap.own i _ hk hbk
    · exact hg1.heap.own i q hi hbk
  · rcases key i q hi with ⟨e1, e2⟩ | hi1 <;> rcases key j p hj with ⟨e3, e4⟩ | hj1
    · rw [e1, e3]
    · subst e1; subst e2
      exact hg1.heap.inj _ _ _ _ hk hj1 hbi hbj e
    · subst e3; subst e4
      exact hg1.heap.inj _ _ _ _ hi1 hk hbi hbj e
    · exact hg1.heap.inj _ _ _ _ hi1 hj1 hbi hbj e
end
end Go.PX

/- PX: a region that draws its order, but ends in operations that stand one behind another. -/
namespace Go.PX
open Go.RowKit

theorem ahead_of {ops : Array Oper} {listed : Array Bool} (hcl : ∀ (j : Nat) (o : Oper), listed.getD j false = true → ops[j]? = some o → ∀ e ∈ o.after, Region.binds .any e = true → listed.getD e.on false = true) {ots : List OT} (hb : okBack 0 ops.toList = true) (hA : okAhead ots 0 ops.toList ots = true) (hlen : ops.toList.length = ots.length) :
    ∀ (n j : Nat) (o : Oper) (t : OT), j < n → ops[j]? = some o → ots[j]? = some t → (∀ e ∈ o.after, Region.binds .any e = true → listed.getD e.on false = true) → ∀ i, i < j → i ∉ t.prs → listed.getD i false = true
  | 0, _, _, _, hj, _, _, _, _, _, _ => by omega
  | n + 1, j, o, t, hj, ho, ht, hl, i, hi, hn => by
    rcases okAhead_spec hA j o t (by simpa using ho) ht i (by omega) with h1 | ⟨e, he, hbd, hor⟩
    · exact absurd h1 hn
    have hlt := okBack_spec hb j o (by simpa using ho) e he hbd
    rcases hor with rfl | ⟨hlt', u, hu, hiu⟩
    · exact hl e he hbd
    · have hjs : j < ops.size := (Array.getElem?_eq_some_iff.1 ho).1
      have hes : ops[e.on]? = some ops[e.on] := Array.getElem?_eq_getElem (by omega)
      exact ahead_of hcl hb hA hlen n e.on _ u (by omega) hes hu (hcl e.on _ (hl e he hbd) hes) i hlt' hiu

/-- What is left is what is kept in l, and all from b on. -/
structure TodoB (ops : Array Oper) (b : Nat) (l : List Rec) (listed : Array Bool) : Prop where
  mem : ∀ i, ((∃ q ∈ l, q.idx = i) ∨ (b ≤ i ∧ i < ops.size)) ↔ listed.getD i true = false
  size : listed.size = ops.size
  closed : ∀ (j : Nat) (o : Oper), listed.getD j false = true → ops[j]? = some o → ∀ e ∈ o.after, Region.binds .any e = true → listed.getD e.on false = true

/-- From b on, each stands behind all before it. -/
def linB (ots : List OT) (b : Nat) : Bool := (ots.drop b).all fun t => t.prs.isEmpty

theorem linB_spec {ots : List OT} {b : Nat} (h : linB ots b = true) {j : Nat} {t : OT} (hj : b ≤ j) (ht : ots[j]? = some t) : t.prs = [] := by
  have h1 := List.all_eq_true.1 h t (by
    refine List.mem_of_getElem? (i := j - b) ?_
    rw [List.getElem?_drop, show b + (j - b) = j by omega]; exact ht)
  simpa using h1

section
variable {P : Program} {σ : Type} {cx : Cx σ} {r : Option Nat} {m : List Nat}

theorem wpAny_pre {ops : Array Oper} {rt : RT} (hst : okDraw ops.toList rt = true) {b : Nat} (hbs : b ≤ ops.size) (hlin : linB rt.ots b = true) {Q : Exit → Act → World → Prop} {f' : Fs} {s : σ} {n0 : Nat} {F0 : Nat → Nat} {w0 : World} {k : Nat}
    (hd : ∀ o ∈ ops.toList, ∀ d, o.dst = some d → d < n0)
    (hfin : ∀ a w L F (st : St σ) listed, fsOf st = f' → st.s = s → Good cx r m L F st a w → Tr F0 w0 F w → a.tmps.size = n0 → TodoB ops b [] listed → wpAnyIn (fr r) 0 P .any ops Q k listed a w) :
    ∀ (n : Nat) {l : List Rec} {listed : Array Bool} {st : St σ} {a : Act} {w : World} {L : Loc} {F : Nat → Nat}, l.length = n → (∀ q ∈ l, q.idx < b) →
    Rs P ops rt.ots l → Good cx r m L F st a w → st.s = s → Tr F0 w0 F w → a.tmps.size = n0 → (∀ q ∈ l, ∀ id ∈ wNews q.ws, Unn (fsOf st) id) → RunR l (fsOf st) f' → TodoB ops b l listed →
    wpAnyIn (fr r) 0 P .any ops Q (k + n) listed a w := by
  simp only [okDraw, Bool.and_eq_true] at hst
  obtain ⟨⟨⟨⟨hlen, hback⟩, hahead⟩, hpairs⟩, hmade⟩ := hst
  have hlen := Nat.eq_of_beq_eq_true hlen
  intro n
  induction n with
  | zero =>
    intro l listed st a w L F hn0 hlb hrs hg hs tr hn hu hrun ht
    have hl : l = [] := List.length_eq_zero_iff.1 hn0
    subst hl
    have hrun : f' = fsOf st := hrun
    exact hfin a w L F st listed hrun.symm hs hg tr hn ht
  | succ n ih =>
    intro l listed st a w L F hn0 hlb hrs hg hs tr hn hu hrun ht
    have hfirst : ∃ q l', l = q :: l' := by
      cases l with
      | nil => simp at hn0
      | cons q l' => exact ⟨q, l', rfl⟩
    refine ⟨fun hr => ?_, fun j hj => ?_⟩
    · exfalso
      obtain ⟨q, l', rfl⟩ := hfirst
      have hqb := hlb q (List.mem_cons_self ..)
      have hi := (ht.mem q.idx).1 (.inl ⟨q, List.mem_cons_self .., rfl⟩)
      have hmem : q.idx ∈ Region.ready .any ops listed := by
        rw [mem_ready]
        refine ⟨hi, ops[q.idx]'(by omega), Array.getElem?_eq_getElem (by omega), fun e he hb => ?_⟩
        have hlt := okBack_spec hback q.idx (ops[q.idx]'(by omega)) (by simp) e he hb
        refine getD_false_of (by rw [ht.size]; omega) fun hf => ?_
        rcases (ht.mem e.on).2 hf with ⟨q', hq', he'⟩ | ⟨h1, _⟩
        · rcases List.mem_cons.1 hq' with h | h
          · subst h; omega
          · have := ((List.pairwise_cons.1 hrs.pw).1 _ h).lt
            omega
        · omega
      rw [hr] at hmem
      cases hmem
    · obtain ⟨hjl, oj, hoj, hedges⟩ := mem_ready.1 hj
      have hjs : j < ops.size := (Array.getElem?_eq_some_iff.1 hoj).1
      have hq0 : ∃ q ∈ l, q.idx = j := by
        rcases (ht.mem j).2 hjl with h | ⟨h, _⟩
        · exact h
        · exfalso
          obtain ⟨q, l', rfl⟩ := hfirst
          have hqb := hlb q (List.mem_cons_self ..)
          have hot : rt.ots[j]? = some (rt.ots[j]'(by rw [← hlen]; simpa using hjs)) := List.getElem?_eq_getElem _
          have h1 := ahead_of ht.closed hback hahead hlen (j + 1) j oj _ (by omega) hoj hot hedges q.idx (by omega) (by rw [linB_spec hlin h hot]; simp)
          have h2 := getD_true_of h1
          rw [(ht.mem q.idx).1 (.inl ⟨q, List.mem_cons_self .., rfl⟩)] at h2
          cases h2
      obtain ⟨q, hq, rfl⟩ := hq0
      obtain ⟨l1, l2, rfl⟩ := List.append_of_mem hq
      have hpw := List.pairwise_append.1 hrs.pw
      obtain ⟨t, hqt, hqp⟩ := hrs.prs q hq
      have hfree : ∀ p ∈ l1, Free p q := by
        intro p hp
        have hpr := hpw.2.2 p hp q (List.mem_cons_self ..)
        refine hpr.free (Classical.byContradiction fun hn' => ?_)
        rw [hqp] at hn'
        have := ahead_of ht.closed hback hahead hlen (q.idx + 1) q.idx oj t (by omega) hoj hqt hedges p.idx hpr.lt hn'
        have h3 := getD_true_of this
        rw [(ht.mem p.idx).1 (.inl ⟨p, List.mem_append_left _ hp, rfl⟩)] at h3
        cases h3
      obtain ⟨hsub, hrest⟩ := RunR.front hfree hrun
      have hns := hrs.news q hq
      have hreal : fsOf (applyWs st q.ws) = appFs (fsOf st) q.ws := fs_real q.ws st hns (hu q hq)
      refine hrs.snd q hq cx r m L F st a w hsub.1 hsub.2 hg (fun o ho k hk => ?_) _ _ fun a' L' F' w' hsz hg' tr' => ?_
      · rw [hn]
        exact hd o (by simpa using Array.mem_of_getElem? ho) k hk
      · have hmem : ∀ p, p ∈ l1 ++ l2 → p ∈ l1 ++ q :: l2 := fun p hp => by
          rcases List.mem_append.1 hp with h | h
          · exact List.mem_append_left _ h
          · exact List.mem_append_right _ (List.mem_cons_of_mem _ h)
        have hne : ∀ p ∈ l1 ++ l2, p.idx ≠ q.idx := by
          intro p hp
          rcases List.mem_append.1 hp with h | h
          · have := (hpw.2.2 p h q (List.mem_cons_self ..)).lt; omega
          · have := ((List.pairwise_cons.1 hpw.2.1).1 p h).lt; omega
        refine ih (l := l1 ++ l2) (by simp at hn0 ⊢; omega) (fun p hp => hlb p (hmem p hp)) ⟨?_, fun p hp => hrs.snd p (hmem p hp), fun p hp => hrs.news p (hmem p hp), fun p hp => hrs.prs p (hmem p hp)⟩ hg' ((applyWs_s _ _).trans hs) (Tr.trans tr tr') (hsz.trans hn) ?_ (by rw [hreal]; exact hrest) ⟨fun i => ?_, ?_, ?_⟩
        · exact List.pairwise_append.2 ⟨hpw.1, (List.pairwise_cons.1 hpw.2.1).2, fun x hx y hy => hpw.2.2 x hx y (List.mem_cons_of_mem _ hy)⟩
        · intro p hp id hid
          rw [hreal]
          refine (hu p (hmem p hp) id hid).appFs ?_ ?_
          · rcases List.mem_append.1 hp with h | h
            · exact (hfree p h).l.news id hid
            · exact ((List.pairwise_cons.1 hpw.2.1).1 p h).names id hid
          · rcases List.mem_append.1 hp with h | h
            · exact (hfree p h).l.objs id (wNews_objs hid)
            · exact ((List.pairwise_cons.1 hpw.2.1).1 p h).objs id hid
        · by_cases hij : q.idx = i
          · subst hij
            have hlt : q.idx < listed.size := by rw [ht.size]; exact (Array.getElem?_eq_some_iff.1 hoj).1
            have hqb := hlb q hq
            constructor
            · rintro (⟨p, hp, he⟩ | ⟨h, _⟩)
              · exact absurd he (hne p hp)
              · omega
            · intro h; simp [hlt] at h
          · rw [getD_set_ne true hij, ← ht.mem i]
            constructor
            · rintro (⟨p, hp, he⟩ | h)
              · exact .inl ⟨p, hmem p hp, he⟩
              · exact .inr h
            · rintro (⟨p, hp, he⟩ | h)
              · refine .inl ⟨p, ?_, he⟩
                rcases List.mem_append.1 hp with h | h
                · exact List.mem_append_left _ h
                · rcases List.mem_cons.1 h with rfl | h
                  · exact absurd he hij
                  · exact List.mem_append_right _ h
              · exact .inr h
        · rw [Array.size_setIfInBounds]; exact ht.size
        · intro k o' hk ho' e he hb
          by_cases hkj : q.idx = k
          · subst hkj
            rw [hoj] at ho'
            cases ho'
            exact getD_set_true (hedges e he hb)
          · rw [getD_set_ne false hkj] at hk
            exact getD_set_true (ht.closed k o' hk ho' e he hb)

/-- What stands one behind another is done in the order of the text. -/
theorem wpAny_lin {ops : Array Oper} {rt : RT} (hst : okDraw ops.toList rt = true) {b : Nat} (hlin : linB rt.ots b = true) {Q : Exit → Act → World → Prop} :
    ∀ (n i : Nat) {listed : Array Bool} {a : Act} {w : World}, i + n = ops.size → b ≤ i → TodoB ops i [] listed → wpOpsIn (fr r) 0 P ops Q (List.range' i n) a w → wpAnyIn (fr r) 0 P .any ops Q n listed a w := by
  simp only [okDraw, Bool.and_eq_true] at hst
  obtain ⟨⟨⟨⟨hlen, hback⟩, hahead⟩, hpairs⟩, hmade⟩ := hst
  have hlen := Nat.eq_of_beq_eq_true hlen
  intro n
  induction n with
  | zero =>
    intro i listed a w hi hb ht h
    refine ⟨?_, h⟩
    cases hr : Region.ready .any ops listed with
    | nil => rfl
    | cons j _ =>
      have hj : j ∈ Region.ready .any ops listed := by rw [hr]; exact List.mem_cons_self ..
      rcases (ht.mem j).2 (mem_ready.1 hj).1 with ⟨q, hq, _⟩ | ⟨h1, h2⟩
      · cases hq
      · omega
  | succ n ih =>
    intro i listed a w hi hb ht h
    rw [List.range'_succ, wpOpsIn_cons] at h
    refine ⟨fun hr => ?_, fun j hj => ?_⟩
    · exfalso
      have hu := (ht.mem i).1 (.inr ⟨Nat.le_refl _, by omega⟩)
      have hmem : i ∈ Region.ready .any ops listed := by
        rw [mem_ready]
        refine ⟨hu, ops[i]'(by omega), Array.getElem?_eq_getElem (by omega), fun e he hbd => ?_⟩
        have hlt := okBack_spec hback i (ops[i]'(by omega)) (by simp) e he hbd
        refine getD_false_of (by rw [ht.size]; omega) fun hf => ?_
        rcases (ht.mem e.on).2 hf with ⟨q', hq', _⟩ | ⟨h1, _⟩
        · cases hq'
        · omega
      rw [hr] at hmem
      cases hmem
    · obtain ⟨hjl, oj, hoj, hedges⟩ := mem_ready.1 hj
      have hjs : j < ops.size := (Array.getElem?_eq_some_iff.1 hoj).1
      have hji : j = i := by
        rcases (ht.mem j).2 hjl with ⟨q, hq, _⟩ | ⟨h1, _⟩
        · cases hq
        rcases Nat.lt_or_ge i j with h2 | h2
        · exfalso
          have hot : rt.ots[j]? = some (rt.ots[j]'(by rw [← hlen]; simpa using hjs)) := List.getElem?_eq_getElem _
          have h3 := ahead_of ht.closed hback hahead hlen (j + 1) j oj _ (by omega) hoj hot hedges i h2 (by rw [linB_spec hlin (by omega) hot]; simp)
          have h4 := getD_true_of h3
          rw [(ht.mem i).1 (.inr ⟨Nat.le_refl _, by omega⟩)] at h4
          cases h4
        · omega
      subst hji
      refine wpOpIn_mono (fun a' w' h' => ih (j + 1) (by omega) (by omega) ⟨fun k => ?_, ?_, ?_⟩ h') h
      · by_cases hkj : j = k
        · subst hkj
          have : j < listed.size := by rw [ht.size]; exact hjs
          constructor
          · rintro (⟨q, hq, _⟩ | ⟨h1, _⟩)
            · cases hq
            · omega
          · intro h; simp [this] at h
        · rw [getD_set_ne true hkj, ← ht.mem k]
          constructor
          · rintro (⟨q, hq, _⟩ | ⟨h1, h2⟩)
            · cases hq
            · exact .inr ⟨by omega, h2⟩
          · rintro (⟨q, hq, _⟩ | ⟨h1, h2⟩)
            · cases hq
            · exact .inr ⟨by omega, h2⟩
      · rw [Array.size_setIfInBounds]; exact ht.size
      · intro k o' hk ho' e he hb
        by_cases hkj : j = k
        · subst hkj
          rw [hoj] at ho'
          cases ho'
          exact getD_set_true (hedges e he hb)
        · rw [getD_set_ne false hkj] at hk
          exact getD_set_true (ht.closed k o' hk ho' e he hb)
end

section
variable {P : Program} {T : Tys} {ft : FT} {σ : Type} {Y : Hd σ}

/-- A region that draws its order up to b, and goes on in the order of the text. -/
theorem RegionA_seq (hm : P.follows .mixedOrders = true) (hT : TysOk P T) (rt : RT) (b : Nat) {id : Nat} {ops : Array Oper} (hst : okDraw ops.toList rt = true) (hlin : (Nat.ble b ops.toList.length && linB rt.ots b) = true) {e : Env} {h : Heap} {s : σ} {K : AExit → St σ → Prop}
    (hk : awayK rt.made e h fun e h => wpD P T rt.made ops.toList ((ops.toList.zip rt.ots).take b) [] e h fun e h => wpOps P T Y ops.toList (ops.toList.drop b) e h s fun e h s => forceE (keepT ft.ks e) fun e => K .normal ⟨e, h, s⟩) : RegionA P ft Y id ops ⟨e, h, s⟩ K := by
  refine ⟨fun cx hY r m L F a w hg hc => ?_⟩
  rw [Bool.and_eq_true] at hlin
  have hbs : b ≤ ops.size := by have := Nat.le_of_ble_eq_true hlin.1; simpa using this
  have hst' := hst
  simp only [okDraw, Bool.and_eq_true] at hst'
  obtain ⟨⟨⟨⟨hlen, hback⟩, hahead⟩, hpairs⟩, hmade⟩ := hst'
  have hlen := Nat.eq_of_beq_eq_true hlen
  have hd := opsOk_of hc
  obtain ⟨e1, h1, L1, hk, hg1, hu⟩ := awayK_t rt.made (fun d hd' => by
    have := List.all_eq_true.1 hmade d hd'
    exact Nat.le_of_ble_eq_true this) hg hk (fun _ => False) (fun _ h => h.elim)
  obtain ⟨R, eN, hN, k1, k2, k3, k4, k5, k6⟩ := wpD_t hT hpairs ((ops.toList.zip rt.ots).take b) [] (fun j p hp => by
    rw [List.getElem?_take] at hp
    split at hp
    · have := List.getElem?_zip_eq_some.1 hp
      simpa using this
    · cases hp) (fun k q hq => by simp at hq) List.Pairwise.nil hk
  simp only [List.nil_append] at k4 k5
  have hRl : R.length = b := by
    rw [k3, List.length_take, List.length_zip, hlen]
    have : ops.toList.length = ops.size := by simp
    omega
  have hidx : ∀ q ∈ R, q.idx < b := fun q hq => by
    obtain ⟨k, hk', hkq⟩ := List.mem_iff_getElem.1 hq
    have := (k4 k q (by rw [List.getElem?_eq_getElem hk', hkq])).1
    omega
  have tr0 : Tr F w F { w with drawn := w.drawn + 1 } := Tr.drew _
  refine wpIn_mono (wpIn_region_any (id := id) (Q := OpsPost cx r m F w a.tmps.size (fun e h s => forceE (keepT ft.ks e) fun e => K .normal ⟨e, h, s⟩)) hm ?_) fun ex a' w' hq => ?_
  · have hfu : ops.size = (ops.size - b) + b := by omega
    rw [hfu]
    refine wpAny_pre (cx := cx) (r := r) (m := m) (s := s) (n0 := a.tmps.size) (F0 := F) (w0 := w) (f' := ⟨get eN, get hN⟩) hst hbs hlin.2 hd (fun a' w' L' F' st listed hf hs hg' tr hn ht => ?_) b (l := R) (st := ⟨e1, h1, s⟩) hRl hidx
      ⟨k5, fun q hq => ?_, fun q hq => ?_, fun q hq => ?_⟩ (hg1.same (w' := { w with drawn := w.drawn + 1 }) rfl rfl rfl rfl) rfl tr0 rfl (fun q hq x hx => hu x (.inl (k6 q hq x hx))) k2 ⟨fun i => ?_, by simp; omega, fun j o hj => ?_⟩
    · have he : get st.env = get eN := congrArg Fs.env hf
      have hh : get st.heap = get hN := congrArg Fs.heap hf
      have hg2 := hg'.sub (e := eN) (h := hN) (fun x v hx => by rw [he]; exact hx) (fun x v hx => by rw [hh]; exact hx)
      rw [hs] at hg2
      refine wpAny_lin hst hlin.2 (ops.size - b) b (by omega) (Nat.le_refl _) ht ?_
      have := wpOps_sound hT hY (ops.toList.drop b) b (fun j => by simp) hg2 hn (fun o ho => hd o (List.mem_of_mem_drop ho)) tr k1
      simpa using this
    · obtain ⟨k, hk', hkq⟩ := List.mem_iff_getElem.1 hq
      exact (k4 k q (by rw [List.getElem?_eq_getElem hk', hkq])).2.snd
    · obtain ⟨k, hk', hkq⟩ := List.mem_iff_getElem.1 hq
      exact (k4 k q (by rw [List.getElem?_eq_getElem hk', hkq])).2.news
    · obtain ⟨k, hk', hkq⟩ := List.mem_iff_getElem.1 hq
      obtain ⟨o, t, h1, h2, h3, _⟩ := (k4 k q (by rw [List.getElem?_eq_getElem hk', hkq])).2.op
      exact ⟨t, h2, h3⟩
    · rw [← hfu, Array.getD_eq_getD_getElem?, Array.getElem?_replicate]
      constructor
      · rintro (⟨q, hq, rfl⟩ | ⟨h1, h2⟩)
        · have := hidx q hq
          rw [if_pos (by omega)]; rfl
        · rw [if_pos h2]; rfl
      · intro hi
        by_cases hi' : i < b
        · exact .inl ⟨R[i], List.getElem_mem .., (k4 i R[i] (List.getElem?_eq_getElem (by omega))).1⟩
        · by_cases hi2 : i < ops.size
          · exact .inr ⟨by omega, hi2⟩
          · rw [if_neg hi2] at hi; simp at hi
    · rw [← hfu, Array.getD_eq_getD_getElem?, Array.getElem?_replicate] at hj
      split at hj <;> cases hj
  · obtain ⟨e', h', s', L', F', hex, hk, hg', tr, hs⟩ := hq
    rw [forceE_eq] at hk
    exact ⟨.normal, _, m, L', F', hex, hk, hg'.sub (sub_keepT ft.ks e') (fun _ _ h => h), tr, hs⟩
end
end Go.PX

/- PX: a region that draws its order, in each of the orders that can come up. -/
namespace Go.PX
open Go.RowKit

/-- One operation of a region. -/
def stepAt {σ : Type} (P : Program) (T : Tys) (Y : Hd σ) (ops : List Oper) (o : Option Oper) (e : Env) (h : Heap) (s : σ) (go : Env → Heap → σ → Prop) : Prop :=
  match o with
  | some ⟨dst, op, _, _, _, guard⟩ => guardK ops e guard (fun w => applyK w e h fun e h => stepK P T Y dst op e h s go) (fun w => applyK w e h fun e h => applyK (wset dst (.d (.tup []))) e h fun e h => go e h s)
  | none => False

def isTrue : List Bool → Nat → Bool
  | [], _ => true
  | b :: _, 0 => b
  | _ :: r, n + 1 => isTrue r n

def allTrue (ls : List Bool) : List Nat → Bool
  | [] => true
  | i :: r => isTrue ls i && allTrue ls r

/-- What can come next: not listed, and all before it are. -/
def readyL (ls : List Bool) : Nat → List (List Nat) → List Bool → List Nat
  | _, [], _ => []
  | _, _, [] => []
  | i, d :: ds, b :: bs => match b, allTrue ls d with
    | false, true => i :: readyL ls (i + 1) ds bs
    | _, _ => readyL ls (i + 1) ds bs

def setT : List Bool → Nat → List Bool
  | [], _ => []
  | _ :: r, 0 => true :: r
  | b :: r, n + 1 => b :: setT r n

noncomputable def allR (l : List Nat) (f : Nat → Prop) : Prop :=
  List.rec (motive := fun _ => Prop) True (fun i _ ih => f i ∧ ih) l

theorem allR_iff {f : Nat → Prop} : ∀ {l : List Nat}, allR l f ↔ ∀ i ∈ l, f i
  | [] => by simp [allR]
  | i :: r => by
    have := allR_iff (f := f) (l := r)
    simp only [allR] at this ⊢
    rw [this]
    simp

noncomputable def wpAnyA {σ : Type} (P : Program) (T : Tys) (Y : Hd σ) (ops : List Oper) (deps : List (List Nat)) (n : Nat) : List Bool → Env → Heap → σ → (Env → Heap → σ → Prop) → Prop :=
  Nat.rec (motive := fun _ => List Bool → Env → Heap → σ → (Env → Heap → σ → Prop) → Prop) (fun _ e h s K => K e h s)
    (fun _ ih ls e h s K => allR (readyL ls 0 deps ls) fun i => stepAt P T Y ops ops[i]? e h s fun e h s => ih (setT ls i) e h s K) n

/-- Each that is named is ahead. -/
def depsOk : List Oper → List (List Nat) → Bool
  | [], [] => true
  | o :: r, d :: ds => d.all (fun i => o.after.toList.any fun e => Region.binds .any e && Nat.beq e.on i) && depsOk r ds
  | _, _ => false

theorem depsOk_spec : ∀ {l : List Oper} {ds : List (List Nat)}, depsOk l ds = true → l.length = ds.length ∧ ∀ (i : Nat) (o : Oper) (d : List Nat), l[i]? = some o → ds[i]? = some d → ∀ j ∈ d, ∃ e ∈ o.after, Region.binds .any e = true ∧ e.on = j
  | [], [], _ => ⟨rfl, fun i o d h => by simp at h⟩
  | [], _ :: _, h => by simp [depsOk] at h
  | _ :: _, [], h => by simp [depsOk] at h
  | o :: r, d :: ds, h => by
    simp only [depsOk, Bool.and_eq_true, List.all_eq_true] at h
    obtain ⟨h1, h2⟩ := depsOk_spec h.2
    refine ⟨by simp [h1], fun i o' d' ho hd j hj => ?_⟩
    cases i with
    | zero =>
      simp at ho hd
      subst ho; subst hd
      have := h.1 j hj
      simp only [List.any_eq_true, Bool.and_eq_true] at this
      obtain ⟨e, he, hb, hq⟩ := this
      exact ⟨e, by simpa using he, hb, Nat.eq_of_beq_eq_true hq⟩
    | succ i => exact h2 i o' d' (by simpa using ho) (by simpa using hd) j hj

theorem isTrue_iff : ∀ {ls : List Bool} {i : Nat}, isTrue ls i = ls.toArray.getD i true
  | [], i => by simp [isTrue, Array.getD_eq_getD_getElem?]
  | b :: r, 0 => by simp [isTrue, Array.getD_eq_getD_getElem?]
  | b :: r, n + 1 => by
    have := isTrue_iff (ls := r) (i := n)
    simp only [isTrue, this, Array.getD_eq_getD_getElem?]
    simp

theorem allTrue_of {ls : List Bool} : ∀ {d : List Nat}, (∀ j ∈ d, isTrue ls j = true) → allTrue ls d = true
  | [], _ => rfl
  | i :: r, h => by
    have h1 := allTrue_of (ls := ls) (d := r) fun j hj => h j (List.mem_cons_of_mem _ hj)
    simp [allTrue, h i (by simp), h1]

theorem mem_readyL {ls : List Bool} : ∀ {ds : List (List Nat)} {bs : List Bool} {k i : Nat} {d : List Nat}, ds[i]? = some d → bs[i]? = some false → allTrue ls d = true → k + i ∈ readyL ls k ds bs
  | [], _, _, i, d, h, _, _ => by simp at h
  | _ :: _, [], _, i, d, _, h, _ => by simp at h
  | x :: ds, b :: bs, k, i, d, hd, hb, ha => by
    cases i with
    | zero =>
      simp at hd hb
      subst hd; subst hb
      simp [readyL, ha]
    | succ i =>
      have := mem_readyL (ls := ls) (ds := ds) (bs := bs) (k := k + 1) (i := i) (by simpa using hd) (by simpa using hb) ha
      rw [show k + (i + 1) = k + 1 + i by omega]
      simp only [readyL]
      split
      · exact List.mem_cons_of_mem _ this
      · exact this

theorem setT_eq : ∀ {ls : List Bool} {i : Nat}, setT ls i = ls.set i true
  | [], i => by simp [setT]
  | b :: r, 0 => rfl
  | b :: r, n + 1 => by simp [setT, setT_eq (ls := r)]

def unl : List Bool → Nat
  | [] => 0
  | true :: r => unl r
  | false :: r => unl r + 1

theorem unl_set : ∀ {ls : List Bool} {i : Nat}, ls[i]? = some false → unl (ls.set i true) + 1 = unl ls
  | [], i, h => by simp at h
  | b :: r, 0, h => by
    simp at h; subst h
    simp [unl]
  | b :: r, i + 1, h => by
    have := unl_set (ls := r) (i := i) (by simpa using h)
    cases b <;> simp [unl, this]

theorem unl_pos : ∀ {ls : List Bool}, 0 < unl ls → ∃ i : Nat, ls[i]? = some false ∧ ∀ j : Nat, j < i → ls[j]? = some true
  | [], h => by simp [unl] at h
  | false :: r, _ => ⟨0, rfl, fun j hj => by omega⟩
  | true :: r, h => by
    obtain ⟨i, h1, h2⟩ := unl_pos (ls := r) (by simpa [unl] using h)
    refine ⟨i + 1, by simpa using h1, fun j hj => ?_⟩
    cases j with
    | zero => rfl
    | succ j => simpa using h2 j (by omega)

theorem unl_zero : ∀ {ls : List Bool}, unl ls = 0 → ∀ i : Nat, ls[i]? ≠ some false
  | [], _, i => by simp
  | false :: r, h, i => by simp [unl] at h
  | true :: r, h, i => by
    cases i with
    | zero => simp
    | succ i => simpa using unl_zero (ls := r) (by simpa [unl] using h) i

section
variable {P : Program} {T : Tys} {σ : Type} {Y : Hd σ} {cx : Cx σ} {r : Option Nat} {m : List Nat}

theorem getD_true_at {ls : List Bool} {i : Nat} : ls.toArray.getD i true = false ↔ ls[i]? = some false := by
  rw [Array.getD_eq_getD_getElem?]
  simp only [List.getElem?_toArray]
  cases ls[i]? with
  | none => simp
  | some b => simp

theorem getD_false_at {ls : List Bool} {i : Nat} : ls.toArray.getD i false = true ↔ ls[i]? = some true := by
  rw [Array.getD_eq_getD_getElem?]
  simp only [List.getElem?_toArray]
  cases ls[i]? with
  | none => simp
  | some b => simp

theorem wpAnyA_sound (hT : TysOk P T) (hY : Handles P Y cx) {ops : Array Oper} {deps : List (List Nat)} (hback : okBack 0 ops.toList = true) (hdeps : depsOk ops.toList deps = true) {F0 : Nat → Nat} {w0 : World} {n0 : Nat} (hd : ∀ o ∈ ops.toList, ∀ d, o.dst = some d → d < n0) {K : Env → Heap → σ → Prop} :
    ∀ (n : Nat) {ls : List Bool} {e : Env} {h : Heap} {s : σ} {L : Loc} {F : Nat → Nat} {a : Act} {w : World}, ls.length = ops.size → unl ls = n → Good cx r m L F ⟨e, h, s⟩ a w → a.tmps.size = n0 → Tr F0 w0 F w →
      wpAnyA P T Y ops.toList deps n ls e h s K → wpAnyIn (fr r) 0 P .any ops (OpsPost cx r m F0 w0 n0 K) n ls.toArray a w := by
  obtain ⟨hdl, hds⟩ := depsOk_spec hdeps
  have hdl : ops.size = deps.length := by simpa using hdl
  intro n
  induction n with
  | zero =>
    intro ls e h s L F a w hl hu hg hs tr hk
    refine ⟨?_, e, h, s, L, F, rfl, hk, hg, tr, hs⟩
    cases hr : Region.ready .any ops ls.toArray with
    | nil => rfl
    | cons i _ =>
      have : i ∈ Region.ready .any ops ls.toArray := by rw [hr]; exact List.mem_cons_self ..
      have := getD_true_at.1 (mem_ready.1 this).1
      exact absurd this (unl_zero hu i)
  | succ n ih =>
    intro ls e h s L F a w hl hu hg hs tr hk
    refine ⟨fun hr => ?_, fun i hi => ?_⟩
    · exfalso
      obtain ⟨i, h1, h2⟩ := unl_pos (ls := ls) (by omega)
      have his : i < ops.size := by rw [← hl]; exact (List.getElem?_eq_some_iff.1 h1).1
      have : i ∈ Region.ready .any ops ls.toArray := by
        rw [mem_ready]
        refine ⟨getD_true_at.2 h1, ops[i], Array.getElem?_eq_getElem his, fun e he hb => ?_⟩
        have hlt := okBack_spec hback i ops[i] (by simp) e he hb
        exact getD_false_at.2 (h2 e.on (by omega))
      rw [hr] at this
      cases this
    · obtain ⟨hjl, oj, hoj, hedges⟩ := mem_ready.1 hi
      have his : i < ops.size := (Array.getElem?_eq_some_iff.1 hoj).1
      have hli := getD_true_at.1 hjl
      have hk : allR (readyL ls 0 deps ls) fun i => stepAt P T Y ops.toList ops.toList[i]? e h s fun e h s => wpAnyA P T Y ops.toList deps n (setT ls i) e h s K := hk
      have hdi : deps[i]? = some (deps[i]'(by omega)) := List.getElem?_eq_getElem _
      have hki := allR_iff.1 hk i (by
        have := mem_readyL (ls := ls) (ds := deps) (bs := ls) (k := 0) (i := i) hdi hli (allTrue_of fun j hj => by
          obtain ⟨e, he, hb, rfl⟩ := hds i oj _ (by simpa using hoj) hdi j hj
          have := hedges e he hb
          rw [isTrue_iff]
          have := getD_false_at.1 this
          rw [Array.getD_eq_getD_getElem?]
          simp [this])
        simpa using this)
      have hot : ops.toList[i]? = some oj := by simpa using hoj
      rw [hot] at hki
      obtain ⟨dst, op, ty, pos, after, guard⟩ := oj
      refine wpOp_sound hT hY hoj hg (fun d hdst => by rw [hs]; exact hd _ (List.mem_of_getElem? hot) d hdst) hki fun e' h' s' L' F' a' w' hg' hs' tr' hk' => ?_
      have hset : ls.toArray.setIfInBounds i true = (setT ls i).toArray := by rw [setT_eq]; simp
      rw [hset]
      refine ih (by rw [setT_eq]; simpa using hl) ?_ hg' (hs'.trans hs) (Tr.trans tr tr') hk'
      rw [setT_eq]
      have := unl_set hli
      omega

variable {ft : FT}

/-- A region that draws, in each of its orders. -/
theorem RegionA_all (hm : P.follows .mixedOrders = true) (hT : TysOk P T) (deps : List (List Nat)) {id : Nat} {ops : Array Oper} (hst : (okBack 0 ops.toList && depsOk ops.toList deps) = true) {e : Env} {h : Heap} {s : σ} {K : AExit → St σ → Prop}
    (hk : wpAnyA P T Y ops.toList deps deps.length (deps.map fun _ => false) e h s fun e h s => forceE (keepT ft.ks e) fun e => K .normal ⟨e, h, s⟩) : RegionA P ft Y id ops ⟨e, h, s⟩ K := by
  refine ⟨fun cx hY r m L F a w hg hc => ?_⟩
  rw [Bool.and_eq_true] at hst
  obtain ⟨hdl, _⟩ := depsOk_spec hst.2
  have hdl : ops.size = deps.length := by simpa using hdl
  refine wpIn_mono (wpIn_region_any (id := id) (Q := OpsPost cx r m F w a.tmps.size (fun e h s => forceE (keepT ft.ks e) fun e => K .normal ⟨e, h, s⟩)) hm ?_) fun ex a' w' hq => ?_
  · have hrep : Array.replicate ops.size false = (deps.map fun _ => false).toArray := by
      rw [hdl]
      have : ∀ l : List (List Nat), (l.map fun _ => false) = List.replicate l.length false := by
        intro l
        induction l with
        | nil => rfl
        | cons x r ih => rw [List.map_cons, ih]; rfl
      rw [this]; simp
    have hunl : ∀ l : List (List Nat), unl (l.map fun _ => false) = l.length := by
      intro l
      induction l with
      | nil => rfl
      | cons x r ih => simp [unl, ih]
    rw [hrep, hdl]
    exact wpAnyA_sound hT hY hst.1 hst.2 (opsOk_of hc) deps.length (by simp [hdl]) (hunl deps) (hg.same (w' := { w with drawn := w.drawn + 1 }) rfl rfl rfl rfl) rfl (Tr.drew _) hk
  · obtain ⟨e', h', s', L', F', hex, hk, hg', tr, hs⟩ := hq
    rw [forceE_eq] at hk
    exact ⟨.normal, _, m, L', F', hex, hk, hg'.sub (sub_keepT ft.ks e') (fun _ _ h => h), tr, hs⟩
end
end Go.PX
