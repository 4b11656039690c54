import Derived.Test.YtifbnniijibfgaaPxO
set_option linter.all false
set_option maxRecDepth 10000
namespace Go.PX
open Go.Proofs

/-- The error of a shot but its name. -/
def shotF (s : Shot) : Int :=
  if inB s.links 1 40 && inB s.set 0 40000 && !decide (spread 1 60000 [s.new] 0 = 7) && !decide (spread 0 20 [s.wear] 0 = 7) then
    (if decide (spread 1 60000 [s.new] 0 = 0) && decide (spread 0 20 [s.wear] 0 = 0) then (if 6 < s.gauges.length then 3 else gaugesF s.set none s.gauges) else 2)
  else 7

theorem fn92 (s : Shot) : FnV Try.prog 92 [s.d] (i64 (shotF s)) := by
  refine fnV_of mixed tysOk Try.func92 rfl (ft := ft92) 1 (by decide +kernel) (by rfl) fun {σ} Y st => ?_
  conv => whnf
  refine DrawCall_v (ds := [s.new.d, i64 1, i64 60000]) (fn90 s.new 1 60000) rfl rfl ?_
  conv => whnf
  refine DrawCall_v (ds := [s.wear.d, i64 0, i64 20]) (fn90 s.wear 0 20) rfl rfl ?_
  conv => whnf
  unfold shotF
  generalize spread 1 60000 [s.new] 0 = a
  generalize spread 0 20 [s.wear] 0 = b
  refine CallA_v (ds := [i64 s.links, i64 1, i64 40]) (fn55 _ _ _) rfl rfl ?_
  conv => whnf
  have seven : ∀ {c : Bool}, c = false → ∀ {x : Int}, (if c = true then x else 7) = 7 := by
    intro c hc x; rw [hc]; rfl
  have fin7 : ∀ {c : Bool} {x : Int} {h : Heap}, c = false → RetA [V.d (i64 7)] h st fun v h' s' => (v = V.d (i64 (if c = true then x else 7)) ∧ h' = []) ∧ s' = st := by
    intro c x h hc
    rw [seven hc]
    exact RetA_view 0 rfl ⟨⟨rfl, rfl⟩, rfl⟩
  refine brk_i (fun h1 => ?_) (fun h1 => ?_)
  · conv => whnf
    exact fin7 (by simp at h1; simp [h1])
  · conv => whnf
    refine CallA_v (ds := [i64 s.set, i64 0, i64 40000]) (fn55 _ _ _) rfl rfl ?_
    conv => whnf
    refine brk_i (fun h2 => ?_) (fun h2 => ?_)
    · conv => whnf
      exact fin7 (by simp at h2; simp [h2])
    · conv => whnf
      refine brk_i (fun h3 => ?_) (fun h3 => ?_)
      · conv => whnf
        exact fin7 (by simp at h3; simp [h3])
      · conv => whnf
        refine brk_i (fun h4 => ?_) (fun h4 => ?_)
        · conv => whnf
          exact fin7 (by simp at h4; simp [h4])
        · conv => whnf
          have hc : (inB s.links 1 40 && inB s.set 0 40000 && !decide (a = 7) && !decide (b = 7)) = true := by
            simp at h1 h2 h3 h4; simp [h1, h2, h3, h4]
          rw [if_pos hc]
          refine brk_i (fun h5 => ?_) (fun h5 => ?_)
          · conv => whnf
            rw [if_neg (by simp at h5; simp [h5])]
            exact RetA_view 0 rfl ⟨⟨rfl, rfl⟩, rfl⟩
          · conv => whnf
            refine brk_i (fun h6 => ?_) (fun h6 => ?_)
            · conv => whnf
              rw [if_neg (by simp at h6; simp [h6])]
              exact RetA_view 0 rfl ⟨⟨rfl, rfl⟩, rfl⟩
            · conv => whnf
              rw [if_pos (by simp at h5 h6; simp [h5, h6])]
              refine CallA_v (ds := [s.d]) (fn114 s) rfl rfl ?_
              conv => whnf
              exact RetA_view 0 rfl ⟨⟨rfl, rfl⟩, rfl⟩
end Go.PX

namespace Go.PX
open Go.Proofs

def strsD (l : List ByteArray) : D := .vs (l.map fun s => [.str s])

theorem fn113 (l : List ByteArray) (x : ByteArray) (hl : l.length < 1000000) : FnV Try.prog 113 [strsD l, .str x] (i64 (indexOf (fun y => decide (y = x)) l 0)) := by
  refine fnV_of mixed tysOk Try.func113 rfl (ft := ft113) 2 (by decide +kernel) (by rfl) fun {σ} Y st => ?_
  conv => whnf
  refine LoopA_p (T := tys) tysOk (by exact drawsB_spec mixed tysOk (by decide +kernel)) (α := Nat)
    (fun i => ⟨[(0, .d (strsD l)), (1, .d (.str x)), (5, .d (i64 i))], [], st⟩) (fun i => i ≤ l.length ∧ indexOf (fun y => decide (y = x)) l 0 = indexOf (fun y => decide (y = x)) (l.drop i) i) (fun i => l.length - i) 0
    (Wk.sub ⟨rfl, rfl, rfl, trivial⟩ trivial) (by simp) ?_
  rintro i ⟨hi, he⟩
  conv => whnf
  refine brk_i (fun hb => ?_) (fun hb => ?_)
  · have hb : i < l.length := by simpa using hb
    have hd : l.drop i = l[i] :: l.drop (i + 1) := List.drop_eq_getElem_cons hb
    rw [hd, indexOf] at he
    conv => whnf
    refine elemK_i [.str l[i]] (by simp [hb]) ?_
    conv => whnf
    refine brk_i (fun h1 => ?_) (fun h1 => ?_)
    · conv => whnf
      rw [if_pos h1] at he
      rw [he]
      exact RetA_view 0 rfl ⟨⟨rfl, rfl⟩, rfl⟩
    · conv => whnf
      rw [if_neg (by rw [h1]; simp)] at he
      refine arith_in (wrap_i64 (by (try dsimp only); omega)) ?_
      conv => whnf
      exact ⟨i + 1, by omega, ⟨hb, by rw [he]; rfl⟩, Wk.sub ⟨rfl, rfl, rfl, trivial⟩ trivial⟩
  · have hb : ¬ i < l.length := by simpa using hb
    conv => whnf
    rw [List.drop_of_length_le (by omega)] at he
    rw [he]
    exact RetA_view 0 rfl ⟨⟨rfl, rfl⟩, rfl⟩

theorem fn28 (lo hi : Int) : FnV Try.prog 28 [i64 lo, i64 hi] (Span.d ⟨lo, hi⟩) := by
  refine fnV_of mixed tysOk Try.func28 rfl (ft := ft28) 2 (by decide +kernel) (by rfl) fun {σ} Y st => ?_
  conv => whnf
  exact RetA_view 0 rfl ⟨⟨rfl, rfl⟩, rfl⟩
end Go.PX

namespace Go.PX
open Go.Proofs

/-- May this byte stand here in a name? -/
def okAt (b : List UInt8) (i : Nat) (c : UInt8) : Bool :=
  (decide (97 ≤ c.toNat) && decide (c.toNat ≤ 122)) || (decide (c.toNat = 45) && decide (i ≠ 0) && decide (i + 1 ≠ b.length) && (match b[i - 1]? with
    | some p => decide (p.toNat ≠ 45)
    | none => false))

def nameL (b : List UInt8) : Nat → List UInt8 → Bool
  | _, [] => true
  | i, c :: r => okAt b i c && nameL b (i + 1) r

def nameF (s : ByteArray) : Bool := inB s.size 1 14 && nameL s.data.toList 0 s.data.toList

theorem fn112 (s : ByteArray) : FnV Try.prog 112 [.str s] (.bool (nameF s)) := by
  refine fnV_of mixed tysOk Try.func112 rfl (ft := ft112) 1 (by decide +kernel) (by rfl) fun {σ} Y st => ?_
  have hsz : s.size = s.data.toList.length := by simp
  conv => whnf
  refine CallA_v (ds := [i64 s.size, i64 1, i64 14]) (fn118 _ _ _) rfl rfl ?_
  conv => whnf
  refine brk_i (fun h0 => ?_) (fun h0 => ?_)
  · conv => whnf
    have : nameF s = false := by simp at h0; simp [nameF, h0]
    rw [this]
    exact RetA_view 0 rfl ⟨⟨rfl, rfl⟩, rfl⟩
  · have h0 : inB s.size 1 14 = true := by simpa using h0
    have hlen : s.data.toList.length ≤ 14 := by
      simp only [inB, Bool.and_eq_true, decide_eq_true_eq] at h0; omega
    have hn : nameF s = nameL s.data.toList 0 s.data.toList := by simp [nameF, h0]
    rw [hn]
    conv => whnf
    refine LoopA_p (T := tys) tysOk (by exact drawsB_spec mixed tysOk (by decide +kernel)) (α := Nat)
      (fun i => ⟨[(0, .d (.str s)), (3, .d (i64 i))], [], st⟩) (fun i => i ≤ s.data.toList.length ∧ nameL s.data.toList 0 s.data.toList = nameL s.data.toList i (s.data.toList.drop i)) (fun i => s.data.toList.length - i) 0
      (Wk.sub ⟨rfl, rfl, trivial⟩ trivial) (by simp) ?_
    rintro i ⟨hi, he⟩
    conv => whnf
    refine brk_i (fun hc => ?_) (fun hc => ?_)
    · have hc : i < s.data.toList.length := by
        have := of_decide_eq_true hc
        omega
      obtain ⟨c, hcc⟩ : ∃ c, s.data.toList[i]? = some c := ⟨_, List.getElem?_eq_getElem hc⟩
      have hd : s.data.toList.drop i = c :: s.data.toList.drop (i + 1) := by
        rw [List.drop_eq_getElem_cons hc]
        rw [List.getElem?_eq_getElem hc] at hcc
        rw [Option.some.inj hcc]
      rw [hd, nameL] at he
      have bad : okAt s.data.toList i c = false → RetA [V.d (.bool false)] [] st fun v h' s' => (v = V.d (.bool (nameL s.data.toList 0 s.data.toList)) ∧ h' = []) ∧ s' = st := by
        intro hb
        rw [he, hb]
        exact RetA_view 0 rfl ⟨⟨rfl, rfl⟩, rfl⟩
      have good : okAt s.data.toList i c = true → ∀ {st' : St σ}, Wk st' ⟨[(0, .d (.str s)), (3, .d (i64 ((i : Int) + 1)))], [], st⟩ → ∃ y, s.data.toList.length - y < s.data.toList.length - i ∧ (y ≤ s.data.toList.length ∧ nameL s.data.toList 0 s.data.toList = nameL s.data.toList y (s.data.toList.drop y)) ∧
          Wk st' ⟨[(0, .d (.str s)), (3, .d (i64 (y : Nat)))], [], st⟩ := by
        intro hb st' hw
        exact ⟨i + 1, by omega, ⟨hc, by rw [he, hb]; rfl⟩, by simpa using hw⟩
      conv => whnf
      refine cellK_i c (by simpa using hcc) ?_
      conv => whnf
      refine brk_i (fun h1 => ?_) (fun h1 => ?_)
      · have h1 : 97 ≤ c.toNat := by
          have := of_decide_eq_true h1
          omega
        conv => whnf
        refine cellK_i c (by simpa using hcc) ?_
        conv => whnf
        refine brk_i (fun h2 => ?_) (fun h2 => ?_)
        · have h2 : c.toNat ≤ 122 := by
            have := of_decide_eq_true h2
            omega
          conv => whnf
          refine arith_in (wrap_i64 (by (try dsimp only); omega)) ?_
          conv => whnf
          exact good (by simp [okAt, h1, h2]) (Wk.sub ⟨rfl, rfl, trivial⟩ trivial)
        · have h2 : ¬ c.toNat ≤ 122 := by
            have := of_decide_eq_false h2
            omega
          conv => whnf
          refine cellK_i c (by simpa using hcc) ?_
          conv => whnf
          refine brk_i (fun k1 => ?_) (fun k1 => ?_)
          · have k1 : c.toNat ≠ 45 := by
              have := k1
              simp at this; omega
            conv => whnf
            exact bad (by simp [okAt, k1]; omega)
          · have k1 : c.toNat = 45 := by
              have := k1
              simp at this; omega
            conv => whnf
            refine brk_i (fun k2 => ?_) (fun k2 => ?_)
            · have k2 : i = 0 := by
                have := of_decide_eq_true k2
                omega
              conv => whnf
              exact bad (by simp [okAt, k1, k2])
            · have k2 : i ≠ 0 := by
                have := of_decide_eq_false k2
                omega
              conv => whnf
              refine arith_in (wrap_i64 (by (try dsimp only); omega)) ?_
              conv => whnf
              refine brk_i (fun k3 => ?_) (fun k3 => ?_)
              · have k3 : i + 1 = s.data.toList.length := by
                  have := of_decide_eq_true k3
                  omega
                conv => whnf
                exact bad (by simp only [okAt, k1, k3]; simp)
              · have k3 : i + 1 ≠ s.data.toList.length := by
                  have := of_decide_eq_false k3
                  omega
                obtain ⟨p, hp⟩ : ∃ p, s.data.toList[i - 1]? = some p := ⟨_, List.getElem?_eq_getElem (by omega)⟩
                conv => whnf
                refine arith_in (wrap_i64 (by (try dsimp only); omega)) ?_
                conv => whnf
                refine chk_i (by simp; omega) ?_
                conv => whnf
                refine cellK_i p (by rw [show ((i : Int) - 1).toNat = i - 1 by omega]; exact hp) ?_
                conv => whnf
                refine brk_i (fun k4 => ?_) (fun k4 => ?_)
                · have k4 : p.toNat = 45 := by
                    have := of_decide_eq_true k4
                    omega
                  conv => whnf
                  exact bad (by simp only [okAt, hp, k4, k1]; simp)
                · have k4 : p.toNat ≠ 45 := by
                    have := of_decide_eq_false k4
                    omega
                  conv => whnf
                  refine arith_in (wrap_i64 (by (try dsimp only); omega)) ?_
                  conv => whnf
                  exact good (by simp only [okAt, hp, k1]; simp [k2, k4]; omega) (Wk.sub ⟨rfl, rfl, trivial⟩ trivial)

      · have h1 : ¬ 97 ≤ c.toNat := by
          have := of_decide_eq_false h1
          omega
        conv => whnf
        refine cellK_i c (by simpa using hcc) ?_
        conv => whnf
        refine brk_i (fun k1 => ?_) (fun k1 => ?_)
        · have k1 : c.toNat ≠ 45 := by
            have := k1
            simp at this; omega
          conv => whnf
          exact bad (by simp [okAt, k1]; omega)
        · have k1 : c.toNat = 45 := by
            have := k1
            simp at this; omega
          conv => whnf
          refine brk_i (fun k2 => ?_) (fun k2 => ?_)
          · have k2 : i = 0 := by
              have := of_decide_eq_true k2
              omega
            conv => whnf
            exact bad (by simp [okAt, k1, k2])
          · have k2 : i ≠ 0 := by
              have := of_decide_eq_false k2
              omega
            conv => whnf
            refine arith_in (wrap_i64 (by (try dsimp only); omega)) ?_
            conv => whnf
            refine brk_i (fun k3 => ?_) (fun k3 => ?_)
            · have k3 : i + 1 = s.data.toList.length := by
                have := of_decide_eq_true k3
                omega
              conv => whnf
              exact bad (by simp only [okAt, k1, k3]; simp)
            · have k3 : i + 1 ≠ s.data.toList.length := by
                have := of_decide_eq_false k3
                omega
              obtain ⟨p, hp⟩ : ∃ p, s.data.toList[i - 1]? = some p := ⟨_, List.getElem?_eq_getElem (by omega)⟩
              conv => whnf
              refine arith_in (wrap_i64 (by (try dsimp only); omega)) ?_
              conv => whnf
              refine chk_i (by simp; omega) ?_
              conv => whnf
              refine cellK_i p (by rw [show ((i : Int) - 1).toNat = i - 1 by omega]; exact hp) ?_
              conv => whnf
              refine brk_i (fun k4 => ?_) (fun k4 => ?_)
              · have k4 : p.toNat = 45 := by
                  have := of_decide_eq_true k4
                  omega
                conv => whnf
                exact bad (by simp only [okAt, hp, k4, k1]; simp)
              · have k4 : p.toNat ≠ 45 := by
                  have := of_decide_eq_false k4
                  omega
                conv => whnf
                refine arith_in (wrap_i64 (by (try dsimp only); omega)) ?_
                conv => whnf
                exact good (by simp only [okAt, hp, k1]; simp [k2, k4]; omega) (Wk.sub ⟨rfl, rfl, trivial⟩ trivial)
    · have hc : ¬ i < s.data.toList.length := by
        have := of_decide_eq_false hc
        omega
      conv => whnf
      rw [List.drop_of_length_le (by omega)] at he
      rw [he]
      exact RetA_view 0 rfl ⟨⟨rfl, rfl⟩, rfl⟩
end Go.PX

namespace Go.PX
open Go.Proofs

/-- ErrForm, ErrTwice or OK of a name. -/
def freshF (x : ByteArray) (before : List ByteArray) : Int :=
  if nameF x then (if before.any fun y => decide (y = x) then 5 else 0) else 6

theorem fn91 (x : ByteArray) (l : List ByteArray) (hl : l.length < 1000000) : FnV Try.prog 91 [.str x, strsD l] (i64 (freshF x l)) := by
  refine fnV_of mixed tysOk Try.func91 rfl (ft := ft91) 2 (by decide +kernel) (by rfl) fun {σ} Y st => ?_
  conv => whnf
  refine CallA_v (ds := [.str x]) (fn112 x) rfl rfl ?_
  conv => whnf
  refine brk_i (fun h1 => ?_) (fun h1 => ?_)
  · have h1 : nameF x = false := by simpa using h1
    conv => whnf
    simp only [freshF, h1]
    exact RetA_view 0 rfl ⟨⟨rfl, rfl⟩, rfl⟩
  · have h1 : nameF x = true := by simpa using h1
    conv => whnf
    refine CallA_v (ds := [strsD l, .str x]) (fn113 l x hl) rfl rfl ?_
    conv => whnf
    have hany := indexOf_any (fun y => decide (y = x)) l 0 (by omega)
    refine brk_i (fun h2 => ?_) (fun h2 => ?_)
    · have h2 : (l.any fun y => decide (y = x)) = true := by rw [← hany]; exact h2
      conv => whnf
      simp only [freshF, h1, h2]
      exact RetA_view 0 rfl ⟨⟨rfl, rfl⟩, rfl⟩
    · have h2 : (l.any fun y => decide (y = x)) = false := by rw [← hany]; exact h2
      conv => whnf
      simp only [freshF, h1, h2]
      exact RetA_view 0 rfl ⟨⟨rfl, rfl⟩, rfl⟩
end Go.PX

namespace Go.PX
open Go.Proofs

structure Weather where
  depth : Span
  wind : Span
  current : Span
  swell : Span
def Weather.cells (w : Weather) : List D := [i64 w.depth.lo, i64 w.depth.hi, i64 w.wind.lo, i64 w.wind.hi, i64 w.current.lo, i64 w.current.hi, i64 w.swell.lo, i64 w.swell.hi]
def Weather.d (w : Weather) : D := .agg w.cells

/-- The first error that is ErrRange; else the last one. -/
def worstErr : List Int → Int → Int
  | [], e => e
  | x :: r, e => if x = 7 then 7 else worstErr r (if x ≠ 0 then x else e)

def weatherErrs (w : Weather) : List Int := [spread 1 1000 [w.depth] 0, spread 0 80 [w.wind] 0, spread 0 80 [w.current] 0, spread 0 150 [w.swell] 0]
def weatherF (w : Weather) : Int := worstErr (weatherErrs w) 0

theorem fn56 (w : Weather) : FnV Try.prog 56 [w.d] (i64 (weatherF w)) := by
  refine fnV_of mixed tysOk Try.func56 rfl (ft := ft56) 1 (by decide +kernel) (by rfl) fun {σ} Y st => ?_
  conv => whnf
  refine DrawCall_v (ds := [w.depth.d, i64 1, i64 1000]) (fn90 _ _ _) rfl rfl ?_
  conv => whnf
  refine DrawCall_v (ds := [w.wind.d, i64 0, i64 80]) (fn90 _ _ _) rfl rfl ?_
  conv => whnf
  refine DrawCall_v (ds := [w.current.d, i64 0, i64 80]) (fn90 _ _ _) rfl rfl ?_
  conv => whnf
  refine DrawCall_v (ds := [w.swell.d, i64 0, i64 150]) (fn90 _ _ _) rfl rfl ?_
  conv => whnf
  unfold weatherF
  obtain ⟨l, hl⟩ : ∃ l, l = weatherErrs w := ⟨_, rfl⟩
  have hlen : l.length = 4 := by rw [hl]; rfl
  rw [← hl]
  refine LoopA_p (T := tys) tysOk (by exact drawsB_spec mixed tysOk (by decide +kernel)) (α := Nat × Int)
    (fun x => ⟨[(3, .sl 18 1 0 4), (4, .d (i64 x.2)), (5, .d (i64 x.1))], [(18, .arr 1 (.dd (l.map fun n => [i64 n])))], st⟩) (fun x => x.1 ≤ l.length ∧ worstErr l 0 = worstErr (l.drop x.1) x.2) (fun x => l.length - x.1) (0, 0)
    (by rw [hl]; exact Wk.sub ⟨rfl, rfl, rfl, trivial⟩ ⟨rfl, trivial⟩) (by simp) ?_
  rintro ⟨i, e⟩ ⟨hi, he⟩
  simp only at hi he
  conv => whnf
  refine brk_i (fun hb => ?_) (fun hb => ?_)
  · have hb : i < l.length := by
      have := of_decide_eq_true hb
      simp at this; omega
    have hd : l.drop i = l[i] :: l.drop (i + 1) := List.drop_eq_getElem_cons hb
    rw [hd, worstErr] at he
    conv => whnf
    refine chk_i (by simp; omega) ?_
    conv => whnf
    refine cellK_i [i64 l[i]] (by simp [hb]) ?_
    conv => whnf
    refine brk_i (fun h1 => ?_) (fun h1 => ?_)
    · have h1 : l[i] = 7 := of_decide_eq_true h1
      conv => whnf
      refine chk_i (by simp; omega) ?_
      conv => whnf
      refine cellK_i [i64 l[i]] (by simp [hb]) ?_
      conv => whnf
      rw [if_pos h1] at he
      rw [he, h1]
      exact RetA_view 0 rfl ⟨⟨rfl, rfl⟩, rfl⟩
    · have h1 : l[i] ≠ 7 := of_decide_eq_false h1
      rw [if_neg h1] at he
      conv => whnf
      refine chk_i (by simp; omega) ?_
      conv => whnf
      refine cellK_i [i64 l[i]] (by simp [hb]) ?_
      conv => whnf
      refine brk_i (fun h2 => ?_) (fun h2 => ?_)
      · have h2 : l[i] ≠ 0 := by
          intro e; rw [e] at h2; simp at h2
        rw [if_pos h2] at he
        conv => whnf
        refine chk_i (by simp; omega) ?_
        conv => whnf
        refine cellK_i [i64 l[i]] (by simp [hb]) ?_
        conv => whnf
        refine arith_in (wrap_i64 (by (try dsimp only); omega)) ?_
        conv => whnf
        exact ⟨(i + 1, l[i]), by simp only; omega, ⟨hb, he⟩, Wk.sub ⟨rfl, rfl, rfl, trivial⟩ ⟨rfl, trivial⟩⟩
      · have h2 : l[i] = 0 := by
          have := h2
          simp at this; exact this
        rw [if_neg (by simp [h2])] at he
        conv => whnf
        refine arith_in (wrap_i64 (by (try dsimp only); omega)) ?_
        conv => whnf
        exact ⟨(i + 1, e), by simp only; omega, ⟨hb, he⟩, Wk.sub ⟨rfl, rfl, rfl, trivial⟩ ⟨rfl, trivial⟩⟩
  · have hb : ¬ i < l.length := by
      have := of_decide_eq_false hb
      simp at this; omega
    conv => whnf
    rw [List.drop_of_length_le (by omega)] at he
    rw [he]
    exact RetA_view 0 rfl ⟨⟨rfl, rfl⟩, rfl⟩
end Go.PX

namespace Go.PX
open Go.Proofs

structure Ship where
  wind : Int
  current : Int
  swell : Int
  yaw : Int
structure Case where
  chain : Chain
  ship : Ship
  day : Int
  weathers : List Weather
def weathersD (l : List Weather) : D := .vs (l.map Weather.cells)
def Case.cells (c : Case) : List D := [shotsD c.chain.shots, i64 c.chain.long, i64 c.chain.heavy, i64 c.chain.err, i64 c.chain.hold.lo, i64 c.chain.hold.hi, rowsD c.chain.rows,
  i64 c.ship.wind, i64 c.ship.current, i64 c.ship.swell, i64 c.ship.yaw, i64 c.day, weathersD c.weathers]
def Case.d (c : Case) : D := .agg c.cells

/-- What is needed of a case for its shots to be looked at. -/
structure CaseOk (c : Case) : Prop where
  len : c.chain.shots.length ≤ 7
  err : 0 ≤ c.chain.err ∧ c.chain.err ≤ 2000
  day : 0 ≤ c.day ∧ c.day ≤ 40000
  shots : ∀ s ∈ c.chain.shots, ShotOk s ∧ (∀ g ∈ s.gauges, gaugeOk g) ∧ s.gauges.length ≤ 6

def soundL (off day : Int) : List Shot → Int → Int
  | [], e => e
  | s :: r, e => if e = 0 then soundL off day r (if (rangeS s off s.gauges day).2 then e else 8) else e

theorem fn68 (c : Case) (e0 : Int) (hok : e0 = 0 → CaseOk c) : FnV Try.prog 68 [c.d, i64 e0] (i64 (soundL c.chain.err c.day c.chain.shots e0)) := by
  refine fnV_of mixed tysOk Try.func68 rfl (ft := ft68) 2 (by decide +kernel) (by rfl) fun {σ} Y st => ?_
  conv => whnf
  refine LoopA_p (T := tys) tysOk (by exact drawsB_spec mixed tysOk (by decide +kernel)) (α := Nat × Int)
    (fun x => ⟨[(1, .d (i64 x.2)), (2, .ptr 2 0), (5, .d (i64 x.1))], [(2, .box (.dd c.cells))], st⟩) (fun x => x.1 ≤ c.chain.shots.length ∧ (x.2 = 0 → e0 = 0) ∧ soundL c.chain.err c.day c.chain.shots e0 = soundL c.chain.err c.day (c.chain.shots.drop x.1) x.2) (fun x => c.chain.shots.length - x.1) (0, e0)
    (Wk.sub ⟨rfl, rfl, rfl, trivial⟩ ⟨rfl, trivial⟩) (by simp) ?_
  rintro ⟨i, e⟩ ⟨hi, hz, he⟩
  simp only at hi hz he
  conv => whnf
  refine brk_i (fun hb => ?_) (fun hb => ?_)
  · have hbl : i < c.chain.shots.length := by
      have := of_decide_eq_true hb
      simp at this; omega
    have hd : c.chain.shots.drop i = c.chain.shots[i] :: c.chain.shots.drop (i + 1) := List.drop_eq_getElem_cons hbl
    rw [hd, soundL] at he
    conv => whnf
    refine brk_i (fun h1 => ?_) (fun h1 => ?_)
    · have h1 : e = 0 := of_decide_eq_true h1
      subst h1
      rw [if_pos rfl] at he
      obtain ⟨hlen, herr, hday, hsh⟩ := hok (hz rfl)
      obtain ⟨hs1, hs2, hs3⟩ := hsh _ (List.getElem_mem hbl)
      conv => whnf
      refine elemK_i c.chain.shots[i].cells (by simp [hbl]) ?_
      conv => whnf
      refine CallA_v (ds := [c.chain.shots[i].d, i64 c.chain.err, gaugesD c.chain.shots[i].gauges, i64 c.day]) (fn60 c.chain.shots[i] c.chain.err c.chain.shots[i].gauges c.day (by omega) hs1 hs2 (by omega) (by omega)) rfl rfl ?_
      conv => whnf
      refine brk_i (fun h2 => ?_) (fun h2 => ?_)
      · have h2 : (rangeS c.chain.shots[i] c.chain.err c.chain.shots[i].gauges c.day).2 = false := by simpa using h2
        rw [h2] at he
        conv => whnf
        refine arith_in (wrap_i64 (by (try dsimp only); omega)) ?_
        conv => whnf
        exact ⟨(i + 1, 8), by simp only; omega, ⟨hbl, by simp, by simpa using he⟩, Wk.sub ⟨rfl, rfl, rfl, trivial⟩ ⟨rfl, trivial⟩⟩
      · have h2 : (rangeS c.chain.shots[i] c.chain.err c.chain.shots[i].gauges c.day).2 = true := by simpa using h2
        rw [h2] at he
        conv => whnf
        refine arith_in (wrap_i64 (by (try dsimp only); omega)) ?_
        conv => whnf
        exact ⟨(i + 1, 0), by simp only; omega, ⟨hbl, fun _ => hz rfl, by simpa using he⟩, Wk.sub ⟨rfl, rfl, rfl, trivial⟩ ⟨rfl, trivial⟩⟩
    · have h1 : e ≠ 0 := of_decide_eq_false h1
      rw [if_neg h1] at he
      conv => whnf
      rw [he]
      exact RetA_view 0 rfl ⟨⟨rfl, rfl⟩, rfl⟩
  · have hb : ¬ i < c.chain.shots.length := by
      have := of_decide_eq_false hb
      simp at this; omega
    conv => whnf
    rw [List.drop_of_length_le (by omega)] at he
    rw [he]
    exact RetA_view 0 rfl ⟨⟨rfl, rfl⟩, rfl⟩
end Go.PX
