import Derived.Test.YtifbnniijibfgaaGreatPxH
import Derived.Test.YtifbnniijibfgaaGreatPxG
import Derived.Laws.RangeString
set_option linter.all false
set_option maxRecDepth 10000
namespace Go.PX
open Go.Proofs

theorem fn90 (s : Span) (lo hi : Int) : FnV Tryz.prog 102 [s.d, i64 lo, i64 hi] (i64 (spread lo hi [s] 0)) := by
  refine fnV_of mixed tysOk Tryz.func102 rfl (ft := ft102) 3 (by decide +kernel) (by rfl) fun {σ} Y st => ?_
  conv => whnf
  refine CallA_view (fn111 [s] lo hi (by simp)) rfl 1 rfl ?_
  conv => whnf
  exact RetA_view 0 rfl ⟨⟨rfl, rfl⟩, rfl⟩

theorem span_eq {a b : Span} : a = b ↔ a.lo = b.lo ∧ a.hi = b.hi := by cases a; cases b; simp

theorem fn45 (a b : List Span) (ha : a.length < 1000000) : FnV Tryz.prog 17 [spansD a, spansD b] (.bool (decide (a = b))) := by
  refine fnV_of mixed tysOk Tryz.func17 rfl (ft := ft17) 2 (by decide +kernel) (by rfl) fun {σ} Y st => ?_
  conv => whnf
  refine brk_i (fun h0 => ?_) (fun h0 => ?_)
  · have h0 : a.length ≠ b.length := by
      intro e; simp [e] at h0
    conv => whnf
    rw [decide_eq_false (by rintro rfl; exact h0 rfl)]
    exact RetA_view 0 rfl ⟨⟨rfl, rfl⟩, rfl⟩
  · have h0 : a.length = b.length := by
      have := h0
      simp at this; omega
    conv => whnf
    refine LoopA_p (T := tys) tysOk (by exact drawsB_spec mixed tysOk (by decide +kernel)) (α := Nat)
      (fun i => ⟨[(0, .d (spansD a)), (1, .d (spansD b)), (5, .d (i64 i))], [], st⟩) (fun i => i ≤ a.length ∧ a.take i = b.take i) (fun i => a.length - i) 0
      (Wk.sub ⟨rfl, rfl, rfl, trivial⟩ trivial) (by simp) ?_
    rintro i ⟨hi, he⟩
    conv => whnf
    refine brk_i (fun hc => ?_) (fun hc => ?_)
    · have hc : i < a.length := by simpa using hc
      have hc' : i < b.length := by omega
      conv => whnf
      refine elemK_i a[i].cells (by simp [hc]) ?_
      conv => whnf
      refine elemK_i b[i].cells (by simp [hc']) ?_
      conv => whnf
      refine brk_i (fun h1 => ?_) (fun h1 => ?_)
      · conv => whnf
        have h1 : a[i] ≠ b[i] := by
          intro e; rw [e] at h1; simp at h1
        rw [decide_eq_false (by rintro rfl; exact h1 rfl)]
        exact RetA_view 0 rfl ⟨⟨rfl, rfl⟩, rfl⟩
      · have h1 : a[i] = b[i] := by
          rw [span_eq]
          simp at h1; exact h1
        conv => whnf
        refine arith_in (wrap_i64 (by (try dsimp only); omega)) ?_
        conv => whnf
        exact ⟨i + 1, by omega, ⟨hc, by rw [List.take_succ_eq_append_getElem hc, List.take_succ_eq_append_getElem hc', he, h1]⟩, Wk.sub ⟨rfl, rfl, rfl, trivial⟩ trivial⟩
    · have hc : ¬ i < a.length := by simpa using hc
      conv => whnf
      rw [List.take_of_length_le (by omega), List.take_of_length_le (by omega)] at he
      rw [decide_eq_true he]
      exact RetA_view 0 rfl ⟨⟨rfl, rfl⟩, rfl⟩

/-- The error of gaugings. -/
def gaugesF (set : Int) : Option Int → List Gauge → Int
  | _, [] => 0
  | last, g :: r => if inB g.day set 40000 && inB g.shown 0 60000 then (if (match last with
      | some d => decide (g.day < d)
      | none => false) then 2 else gaugesF set (some g.day) r) else 7

theorem gaugesF_cons (set : Int) (last : Option Int) (g : Gauge) (r : List Gauge) : gaugesF set last (g :: r) = if inB g.day set 40000 && inB g.shown 0 60000 then (if (match last with
      | some d => decide (g.day < d)
      | none => false) then 2 else gaugesF set (some g.day) r) else 7 := rfl

def lastDay (gs : List Gauge) : Nat → Option Int
  | 0 => none
  | i + 1 => (gs[i]?).map (·.day)

theorem fn114 (s : Shot) : FnV Tryz.prog 112 [s.d] (i64 (if 6 < s.gauges.length then 3 else gaugesF s.set none s.gauges)) := by
  refine fnV_of mixed tysOk Tryz.func112 rfl (ft := ft112) 1 (by decide +kernel) (by rfl) fun {σ} Y st => ?_
  conv => whnf
  refine brk_i (fun h0 => ?_) (fun h0 => ?_)
  · have h0 : 6 < s.gauges.length := by
      have := h0
      simp at this; omega
    conv => whnf
    rw [if_pos h0]
    exact RetA_view 0 rfl ⟨⟨rfl, rfl⟩, rfl⟩
  · have h0 : ¬ 6 < s.gauges.length := by
      have := h0
      simp at this; omega
    conv => whnf
    rw [if_neg h0]
    refine LoopA_p (T := tys) tysOk (by exact drawsB_spec mixed tysOk (by decide +kernel)) (α := Nat)
      (fun i => ⟨[(1, .ptr 1 0), (3, .d (i64 i))], [(1, .box (.dd s.cells))], st⟩) (fun i => i ≤ s.gauges.length ∧ gaugesF s.set none s.gauges = gaugesF s.set (lastDay s.gauges i) (s.gauges.drop i)) (fun i => s.gauges.length - i) 0
      (Wk.sub ⟨rfl, rfl, trivial⟩ ⟨rfl, trivial⟩) (by simp [lastDay]) ?_
    rintro i ⟨hi, he⟩
    conv => whnf
    refine brk_i (fun hc => ?_) (fun hc => ?_)
    · have hc : i < s.gauges.length := by simpa using hc
      obtain ⟨g, hg⟩ : ∃ g, s.gauges[i]? = some g := ⟨_, List.getElem?_eq_getElem hc⟩
      have hd : s.gauges.drop i = g :: s.gauges.drop (i + 1) := by
        rw [List.drop_eq_getElem_cons hc]
        rw [List.getElem?_eq_getElem hc] at hg
        rw [Option.some.inj hg]
      rw [hd, gaugesF_cons] at he
      conv => whnf
      refine elemK_i g.cells (by simp [hg]) ?_
      conv => whnf
      refine CallA_v (fn55 _ _ _) rfl rfl ?_
      conv => whnf
      refine brk_i (fun h1 => ?_) (fun h1 => ?_)
      · conv => whnf
        rw [if_neg (by simp at h1; simp [h1])] at he
        rw [he]
        exact RetA_view 0 rfl ⟨⟨rfl, rfl⟩, rfl⟩
      · conv => whnf
        refine CallA_v (fn55 _ _ _) rfl rfl ?_
        conv => whnf
        refine brk_i (fun h2 => ?_) (fun h2 => ?_)
        · conv => whnf
          rw [if_neg (by simp at h2; simp [h2])] at he
          rw [he]
          exact RetA_view 0 rfl ⟨⟨rfl, rfl⟩, rfl⟩
        · conv => whnf
          rw [if_pos (by simp at h1 h2; simp [h1, h2])] at he
          refine brk_i (fun h3 => ?_) (fun h3 => ?_)
          · have h3 : 0 < i := by
              have := h3
              simp at this; omega
            obtain ⟨j, rfl⟩ : ∃ j, i = j + 1 := ⟨i - 1, by omega⟩
            obtain ⟨p, hp⟩ : ∃ p, s.gauges[j]? = some p := ⟨_, List.getElem?_eq_getElem (by omega)⟩
            simp only [lastDay, hp, Option.map_some] at he
            conv => whnf
            refine arith_in (wrap_i64 (by (try dsimp only); omega)) ?_
            conv => whnf
            refine elemK_i p.cells ⟨by omega, by rw [show ((((j + 1 : Nat) : Int) - 1).toNat) = j by omega]; simp [hp]⟩ ?_
            conv => whnf
            refine brk_i (fun h4 => ?_) (fun h4 => ?_)
            · conv => whnf
              rw [if_pos h4] at he
              rw [he]
              exact RetA_view 0 rfl ⟨⟨rfl, rfl⟩, rfl⟩
            · conv => whnf
              rw [if_neg (by rw [h4]; simp)] at he
              refine arith_in (wrap_i64 (by (try dsimp only); omega)) ?_
              conv => whnf
              exact ⟨j + 1 + 1, by omega, ⟨hc, by rw [he]; simp only [lastDay, hg, Option.map_some]⟩, Wk.sub ⟨rfl, rfl, trivial⟩ ⟨rfl, trivial⟩⟩
          · have h3 : i = 0 := by
              have := h3
              simp at this; omega
            subst h3
            simp only [lastDay, Bool.false_eq_true, if_false] at he
            conv => whnf
            refine arith_in (wrap_i64 (by (try dsimp only); omega)) ?_
            conv => whnf
            exact ⟨0 + 1, by omega, ⟨hc, by rw [he]; simp only [lastDay, hg, Option.map_some]⟩, Wk.sub ⟨rfl, rfl, trivial⟩ ⟨rfl, trivial⟩⟩
    · have hc : ¬ i < s.gauges.length := by simpa using hc
      conv => whnf
      rw [List.drop_of_length_le (by omega)] at he
      rw [he]
      exact RetA_view 0 rfl ⟨⟨rfl, rfl⟩, rfl⟩
end Go.PX

namespace Go.PX
open Go.Proofs

/-- The error of a shot but its name. -/
def shotF (s : Shot) : Int :=
  if inB s.links 1 40 && inB s.set 0 40000 && !decide (spread 1 60000 [s.new] 0 = 7) && !decide (spread 0 20 [s.wear] 0 = 7) then
    (if decide (spread 1 60000 [s.new] 0 = 0) && decide (spread 0 20 [s.wear] 0 = 0) then (if 6 < s.gauges.length then 3 else gaugesF s.set none s.gauges) else 2)
  else 7

theorem fn92 (s : Shot) : FnV Tryz.prog 104 [s.d] (i64 (shotF s)) := by
  refine fnV_of mixed tysOk Tryz.func104 rfl (ft := ft104) 1 (by decide +kernel) (by rfl) fun {σ} Y st => ?_
  conv => whnf
  refine DrawCall_v (ds := [s.new.d, i64 1, i64 60000]) (fn90 s.new 1 60000) rfl rfl ?_
  conv => whnf
  refine DrawCall_v (ds := [s.wear.d, i64 0, i64 20]) (fn90 s.wear 0 20) rfl rfl ?_
  conv => whnf
  unfold shotF
  generalize spread 1 60000 [s.new] 0 = a
  generalize spread 0 20 [s.wear] 0 = b
  refine CallA_v (ds := [i64 s.links, i64 1, i64 40]) (fn55 _ _ _) rfl rfl ?_
  conv => whnf
  have seven : ∀ {c : Bool}, c = false → ∀ {x : Int}, (if c = true then x else 7) = 7 := by
    intro c hc x; rw [hc]; rfl
  have fin7 : ∀ {c : Bool} {x : Int} {h : Heap}, c = false → RetA [V.d (i64 7)] h st fun v h' s' => (v = V.d (i64 (if c = true then x else 7)) ∧ h' = []) ∧ s' = st := by
    intro c x h hc
    rw [seven hc]
    exact RetA_view 0 rfl ⟨⟨rfl, rfl⟩, rfl⟩
  refine brk_i (fun h1 => ?_) (fun h1 => ?_)
  · conv => whnf
    exact fin7 (by simp at h1; simp [h1])
  · conv => whnf
    refine CallA_v (ds := [i64 s.set, i64 0, i64 40000]) (fn55 _ _ _) rfl rfl ?_
    conv => whnf
    refine brk_i (fun h2 => ?_) (fun h2 => ?_)
    · conv => whnf
      exact fin7 (by simp at h2; simp [h2])
    · conv => whnf
      refine brk_i (fun h3 => ?_) (fun h3 => ?_)
      · conv => whnf
        exact fin7 (by simp at h3; simp [h3])
      · conv => whnf
        refine brk_i (fun h4 => ?_) (fun h4 => ?_)
        · conv => whnf
          exact fin7 (by simp at h4; simp [h4])
        · conv => whnf
          have hc : (inB s.links 1 40 && inB s.set 0 40000 && !decide (a = 7) && !decide (b = 7)) = true := by
            simp at h1 h2 h3 h4; simp [h1, h2, h3, h4]
          rw [if_pos hc]
          refine brk_i (fun h5 => ?_) (fun h5 => ?_)
          · conv => whnf
            rw [if_neg (by simp at h5; simp [h5])]
            exact RetA_view 0 rfl ⟨⟨rfl, rfl⟩, rfl⟩
          · conv => whnf
            refine brk_i (fun h6 => ?_) (fun h6 => ?_)
            · conv => whnf
              rw [if_neg (by simp at h6; simp [h6])]
              exact RetA_view 0 rfl ⟨⟨rfl, rfl⟩, rfl⟩
            · conv => whnf
              rw [if_pos (by simp at h5 h6; simp [h5, h6])]
              refine CallA_v (ds := [s.d]) (fn114 s) rfl rfl ?_
              conv => whnf
              exact RetA_view 0 rfl ⟨⟨rfl, rfl⟩, rfl⟩
end Go.PX

namespace Go.PX
open Go.Proofs

def strsD (l : List ByteArray) : D := .vs (l.map fun s => [.str s])

theorem fn113 (l : List ByteArray) (x : ByteArray) (hl : l.length < 1000000) : FnV Tryz.prog 111 [strsD l, .str x] (i64 (indexOf (fun y => decide (y = x)) l 0)) := by
  refine fnV_of mixed tysOk Tryz.func111 rfl (ft := ft111) 2 (by decide +kernel) (by rfl) fun {σ} Y st => ?_
  conv => whnf
  refine LoopA_p (T := tys) tysOk (by exact drawsB_spec mixed tysOk (by decide +kernel)) (α := Nat)
    (fun i => ⟨[(0, .d (strsD l)), (1, .d (.str x)), (5, .d (i64 i))], [], st⟩) (fun i => i ≤ l.length ∧ indexOf (fun y => decide (y = x)) l 0 = indexOf (fun y => decide (y = x)) (l.drop i) i) (fun i => l.length - i) 0
    (Wk.sub ⟨rfl, rfl, rfl, trivial⟩ trivial) (by simp) ?_
  rintro i ⟨hi, he⟩
  conv => whnf
  refine brk_i (fun hb => ?_) (fun hb => ?_)
  · have hb : i < l.length := by simpa using hb
    have hd : l.drop i = l[i] :: l.drop (i + 1) := List.drop_eq_getElem_cons hb
    rw [hd, indexOf] at he
    conv => whnf
    refine elemK_i [.str l[i]] (by simp [hb]) ?_
    conv => whnf
    refine brk_i (fun h1 => ?_) (fun h1 => ?_)
    · conv => whnf
      rw [if_pos h1] at he
      rw [he]
      exact RetA_view 0 rfl ⟨⟨rfl, rfl⟩, rfl⟩
    · conv => whnf
      rw [if_neg (by rw [h1]; simp)] at he
      refine arith_in (wrap_i64 (by (try dsimp only); omega)) ?_
      conv => whnf
      exact ⟨i + 1, by omega, ⟨hb, by rw [he]; rfl⟩, Wk.sub ⟨rfl, rfl, rfl, trivial⟩ trivial⟩
  · have hb : ¬ i < l.length := by simpa using hb
    conv => whnf
    rw [List.drop_of_length_le (by omega)] at he
    rw [he]
    exact RetA_view 0 rfl ⟨⟨rfl, rfl⟩, rfl⟩

theorem fn28 (lo hi : Int) : FnV Tryz.prog 44 [i64 lo, i64 hi] (Span.d ⟨lo, hi⟩) := by
  refine fnV_of mixed tysOk Tryz.func44 rfl (ft := ft44) 2 (by decide +kernel) (by rfl) fun {σ} Y st => ?_
  conv => whnf
  exact RetA_view 0 rfl ⟨⟨rfl, rfl⟩, rfl⟩
end Go.PX

namespace Go.PX
open Go.Proofs

/-- May this byte stand here in a name? -/
def okAt (b : List UInt8) (i : Nat) (c : UInt8) : Bool :=
  (decide (97 ≤ c.toNat) && decide (c.toNat ≤ 122)) || (decide (c.toNat = 45) && decide (i ≠ 0) && decide (i + 1 ≠ b.length) && (match b[i - 1]? with
    | some p => decide (p.toNat ≠ 45)
    | none => false))

def nameL (b : List UInt8) : Nat → List UInt8 → Bool
  | _, [] => true
  | i, c :: r => okAt b i c && nameL b (i + 1) r

def nameF (s : ByteArray) : Bool := inB s.size 1 14 && nameL s.data.toList 0 s.data.toList

theorem fn112 (s : ByteArray) : FnV Tryz.prog 110 [.str s] (.bool (nameF s)) := by
  refine fnV_of mixed tysOk Tryz.func110 rfl (ft := ft110) 1 (by decide +kernel) (by rfl) fun {σ} Y st => ?_
  have hsz : s.size = s.data.toList.length := by simp
  conv => whnf
  refine CallA_v (ds := [i64 s.size, i64 1, i64 14]) (fn118 _ _ _) rfl rfl ?_
  conv => whnf
  refine brk_i (fun h0 => ?_) (fun h0 => ?_)
  · conv => whnf
    have : nameF s = false := by simp at h0; simp [nameF, h0]
    rw [this]
    exact RetA_view 0 rfl ⟨⟨rfl, rfl⟩, rfl⟩
  · have h0 : inB s.size 1 14 = true := by simpa using h0
    have hlen : s.data.toList.length ≤ 14 := by
      simp only [inB, Bool.and_eq_true, decide_eq_true_eq] at h0; omega
    have hn : nameF s = nameL s.data.toList 0 s.data.toList := by simp [nameF, h0]
    rw [hn]
    conv => whnf
    refine LoopA_p (T := tys) tysOk (by exact drawsB_spec mixed tysOk (by decide +kernel)) (α := Nat)
      (fun i => ⟨[(0, .d (.str s)), (3, .d (i64 i))], [], st⟩) (fun i => i ≤ s.data.toList.length ∧ nameL s.data.toList 0 s.data.toList = nameL s.data.toList i (s.data.toList.drop i)) (fun i => s.data.toList.length - i) 0
      (Wk.sub ⟨rfl, rfl, trivial⟩ trivial) (by simp) ?_
    rintro i ⟨hi, he⟩
    conv => whnf
    refine brk_i (fun hc => ?_) (fun hc => ?_)
    · have hc : i < s.data.toList.length := by
        have := of_decide_eq_true hc
        omega
      obtain ⟨c, hcc⟩ : ∃ c, s.data.toList[i]? = some c := ⟨_, List.getElem?_eq_getElem hc⟩
      have hd : s.data.toList.drop i = c :: s.data.toList.drop (i + 1) := by
        rw [List.drop_eq_getElem_cons hc]
        rw [List.getElem?_eq_getElem hc] at hcc
        rw [Option.some.inj hcc]
      rw [hd, nameL] at he
      have bad : okAt s.data.toList i c = false → RetA [V.d (.bool false)] [] st fun v h' s' => (v = V.d (.bool (nameL s.data.toList 0 s.data.toList)) ∧ h' = []) ∧ s' = st := by
        intro hb
        rw [he, hb]
        exact RetA_view 0 rfl ⟨⟨rfl, rfl⟩, rfl⟩
      have good : okAt s.data.toList i c = true → ∀ {st' : St σ}, Wk st' ⟨[(0, .d (.str s)), (3, .d (i64 ((i : Int) + 1)))], [], st⟩ → ∃ y, s.data.toList.length - y < s.data.toList.length - i ∧ (y ≤ s.data.toList.length ∧ nameL s.data.toList 0 s.data.toList = nameL s.data.toList y (s.data.toList.drop y)) ∧
          Wk st' ⟨[(0, .d (.str s)), (3, .d (i64 (y : Nat)))], [], st⟩ := by
        intro hb st' hw
        exact ⟨i + 1, by omega, ⟨hc, by rw [he, hb]; rfl⟩, by simpa using hw⟩
      conv => whnf
      refine cellK_i c (by simpa using hcc) ?_
      conv => whnf
      refine brk_i (fun h1 => ?_) (fun h1 => ?_)
      · have h1 : 97 ≤ c.toNat := by
          have := of_decide_eq_true h1
          omega
        conv => whnf
        refine cellK_i c (by simpa using hcc) ?_
        conv => whnf
        refine brk_i (fun h2 => ?_) (fun h2 => ?_)
        · have h2 : c.toNat ≤ 122 := by
            have := of_decide_eq_true h2
            omega
          conv => whnf
          refine arith_in (wrap_i64 (by (try dsimp only); omega)) ?_
          conv => whnf
          exact good (by simp [okAt, h1, h2]) (Wk.sub ⟨rfl, rfl, trivial⟩ trivial)
        · have h2 : ¬ c.toNat ≤ 122 := by
            have := of_decide_eq_false h2
            omega
          conv => whnf
          refine cellK_i c (by simpa using hcc) ?_
          conv => whnf
          refine brk_i (fun k1 => ?_) (fun k1 => ?_)
          · have k1 : c.toNat ≠ 45 := by
              have := k1
              simp at this; omega
            conv => whnf
            exact bad (by simp [okAt, k1]; omega)
          · have k1 : c.toNat = 45 := by
              have := k1
              simp at this; omega
            conv => whnf
            refine brk_i (fun k2 => ?_) (fun k2 => ?_)
            · have k2 : i = 0 := by
                have := of_decide_eq_true k2
                omega
              conv => whnf
              exact bad (by simp [okAt, k1, k2])
            · have k2 : i ≠ 0 := by
                have := of_decide_eq_false k2
                omega
              conv => whnf
              refine arith_in (wrap_i64 (by (try dsimp only); omega)) ?_
              conv => whnf
              refine brk_i (fun k3 => ?_) (fun k3 => ?_)
              · have k3 : i + 1 = s.data.toList.length := by
                  have := of_decide_eq_true k3
                  omega
                conv => whnf
                exact bad (by simp only [okAt, k1, k3]; simp)
              · have k3 : i + 1 ≠ s.data.toList.length := by
                  have := of_decide_eq_false k3
                  omega
                obtain ⟨p, hp⟩ : ∃ p, s.data.toList[i - 1]? = some p := ⟨_, List.getElem?_eq_getElem (by omega)⟩
                conv => whnf
                refine arith_in (wrap_i64 (by (try dsimp only); omega)) ?_
                conv => whnf
                refine chk_i (by simp; omega) ?_
                conv => whnf
                refine cellK_i p (by rw [show ((i : Int) - 1).toNat = i - 1 by omega]; exact hp) ?_
                conv => whnf
                refine brk_i (fun k4 => ?_) (fun k4 => ?_)
                · have k4 : p.toNat = 45 := by
                    have := of_decide_eq_true k4
                    omega
                  conv => whnf
                  exact bad (by simp only [okAt, hp, k4, k1]; simp)
                · have k4 : p.toNat ≠ 45 := by
                    have := of_decide_eq_false k4
                    omega
                  conv => whnf
                  refine arith_in (wrap_i64 (by (try dsimp only); omega)) ?_
                  conv => whnf
                  exact good (by simp only [okAt, hp, k1]; simp [k2, k4]; omega) (Wk.sub ⟨rfl, rfl, trivial⟩ trivial)

      · have h1 : ¬ 97 ≤ c.toNat := by
          have := of_decide_eq_false h1
          omega
        conv => whnf
        refine cellK_i c (by simpa using hcc) ?_
        conv => whnf
        refine brk_i (fun k1 => ?_) (fun k1 => ?_)
        · have k1 : c.toNat ≠ 45 := by
            have := k1
            simp at this; omega
          conv => whnf
          exact bad (by simp [okAt, k1]; omega)
        · have k1 : c.toNat = 45 := by
            have := k1
            simp at this; omega
          conv => whnf
          refine brk_i (fun k2 => ?_) (fun k2 => ?_)
          · have k2 : i = 0 := by
              have := of_decide_eq_true k2
              omega
            conv => whnf
            exact bad (by simp [okAt, k1, k2])
          · have k2 : i ≠ 0 := by
              have := of_decide_eq_false k2
              omega
            conv => whnf
            refine arith_in (wrap_i64 (by (try dsimp only); omega)) ?_
            conv => whnf
            refine brk_i (fun k3 => ?_) (fun k3 => ?_)
            · have k3 : i + 1 = s.data.toList.length := by
                have := of_decide_eq_true k3
                omega
              conv => whnf
              exact bad (by simp only [okAt, k1, k3]; simp)
            · have k3 : i + 1 ≠ s.data.toList.length := by
                have := of_decide_eq_false k3
                omega
              obtain ⟨p, hp⟩ : ∃ p, s.data.toList[i - 1]? = some p := ⟨_, List.getElem?_eq_getElem (by omega)⟩
              conv => whnf
              refine arith_in (wrap_i64 (by (try dsimp only); omega)) ?_
              conv => whnf
              refine chk_i (by simp; omega) ?_
              conv => whnf
              refine cellK_i p (by rw [show ((i : Int) - 1).toNat = i - 1 by omega]; exact hp) ?_
              conv => whnf
              refine brk_i (fun k4 => ?_) (fun k4 => ?_)
              · have k4 : p.toNat = 45 := by
                  have := of_decide_eq_true k4
                  omega
                conv => whnf
                exact bad (by simp only [okAt, hp, k4, k1]; simp)
              · have k4 : p.toNat ≠ 45 := by
                  have := of_decide_eq_false k4
                  omega
                conv => whnf
                refine arith_in (wrap_i64 (by (try dsimp only); omega)) ?_
                conv => whnf
                exact good (by simp only [okAt, hp, k1]; simp [k2, k4]; omega) (Wk.sub ⟨rfl, rfl, trivial⟩ trivial)
    · have hc : ¬ i < s.data.toList.length := by
        have := of_decide_eq_false hc
        omega
      conv => whnf
      rw [List.drop_of_length_le (by omega)] at he
      rw [he]
      exact RetA_view 0 rfl ⟨⟨rfl, rfl⟩, rfl⟩
end Go.PX

namespace Go.PX
open Go.Proofs

/-- ErrForm, ErrTwice or OK of a name. -/
def freshF (x : ByteArray) (before : List ByteArray) : Int :=
  if nameF x then (if before.any fun y => decide (y = x) then 5 else 0) else 6

theorem fn91 (x : ByteArray) (l : List ByteArray) (hl : l.length < 1000000) : FnV Tryz.prog 103 [.str x, strsD l] (i64 (freshF x l)) := by
  refine fnV_of mixed tysOk Tryz.func103 rfl (ft := ft103) 2 (by decide +kernel) (by rfl) fun {σ} Y st => ?_
  conv => whnf
  refine CallA_v (ds := [.str x]) (fn112 x) rfl rfl ?_
  conv => whnf
  refine brk_i (fun h1 => ?_) (fun h1 => ?_)
  · have h1 : nameF x = false := by simpa using h1
    conv => whnf
    simp only [freshF, h1]
    exact RetA_view 0 rfl ⟨⟨rfl, rfl⟩, rfl⟩
  · have h1 : nameF x = true := by simpa using h1
    conv => whnf
    refine CallA_v (ds := [strsD l, .str x]) (fn113 l x hl) rfl rfl ?_
    conv => whnf
    have hany := indexOf_any (fun y => decide (y = x)) l 0 (by omega)
    refine brk_i (fun h2 => ?_) (fun h2 => ?_)
    · have h2 : (l.any fun y => decide (y = x)) = true := by rw [← hany]; exact h2
      conv => whnf
      simp only [freshF, h1, h2]
      exact RetA_view 0 rfl ⟨⟨rfl, rfl⟩, rfl⟩
    · have h2 : (l.any fun y => decide (y = x)) = false := by rw [← hany]; exact h2
      conv => whnf
      simp only [freshF, h1, h2]
      exact RetA_view 0 rfl ⟨⟨rfl, rfl⟩, rfl⟩
end Go.PX

namespace Go.PX
open Go.Proofs

structure Weather where
  depth : Span
  wind : Span
  current : Span
  swell : Span
def Weather.cells (w : Weather) : List D := [i64 w.depth.lo, i64 w.depth.hi, i64 w.wind.lo, i64 w.wind.hi, i64 w.current.lo, i64 w.current.hi, i64 w.swell.lo, i64 w.swell.hi]
def Weather.d (w : Weather) : D := .agg w.cells

/-- The first error that is ErrRange; else the last one. -/
def worstErr : List Int → Int → Int
  | [], e => e
  | x :: r, e => if x = 7 then 7 else worstErr r (if x ≠ 0 then x else e)

def weatherErrs (w : Weather) : List Int := [spread 1 1000 [w.depth] 0, spread 0 80 [w.wind] 0, spread 0 80 [w.current] 0, spread 0 150 [w.swell] 0]
def weatherF (w : Weather) : Int := worstErr (weatherErrs w) 0

theorem fn56 (w : Weather) : FnV Tryz.prog 83 [w.d] (i64 (weatherF w)) := by
  refine fnV_of mixed tysOk Tryz.func83 rfl (ft := ft83) 1 (by decide +kernel) (by rfl) fun {σ} Y st => ?_
  conv => whnf
  refine DrawCall_v (ds := [w.depth.d, i64 1, i64 1000]) (fn90 _ _ _) rfl rfl ?_
  conv => whnf
  refine DrawCall_v (ds := [w.wind.d, i64 0, i64 80]) (fn90 _ _ _) rfl rfl ?_
  conv => whnf
  refine DrawCall_v (ds := [w.current.d, i64 0, i64 80]) (fn90 _ _ _) rfl rfl ?_
  conv => whnf
  refine DrawCall_v (ds := [w.swell.d, i64 0, i64 150]) (fn90 _ _ _) rfl rfl ?_
  conv => whnf
  unfold weatherF
  obtain ⟨l, hl⟩ : ∃ l, l = weatherErrs w := ⟨_, rfl⟩
  have hlen : l.length = 4 := by rw [hl]; rfl
  rw [← hl]
  refine LoopA_p (T := tys) tysOk (by exact drawsB_spec mixed tysOk (by decide +kernel)) (α := Nat × Int)
    (fun x => ⟨[(3, .sl 18 1 0 4), (4, .d (i64 x.2)), (5, .d (i64 x.1))], [(18, .arr 1 (.dd (l.map fun n => [i64 n])))], st⟩) (fun x => x.1 ≤ l.length ∧ worstErr l 0 = worstErr (l.drop x.1) x.2) (fun x => l.length - x.1) (0, 0)
    (by rw [hl]; exact Wk.sub ⟨rfl, rfl, rfl, trivial⟩ ⟨rfl, trivial⟩) (by simp) ?_
  rintro ⟨i, e⟩ ⟨hi, he⟩
  simp only at hi he
  conv => whnf
  refine brk_i (fun hb => ?_) (fun hb => ?_)
  · have hb : i < l.length := by
      have := of_decide_eq_true hb
      simp at this; omega
    have hd : l.drop i = l[i] :: l.drop (i + 1) := List.drop_eq_getElem_cons hb
    rw [hd, worstErr] at he
    conv => whnf
    refine chk_i (by simp; omega) ?_
    conv => whnf
    refine cellK_i [i64 l[i]] (by simp [hb]) ?_
    conv => whnf
    refine brk_i (fun h1 => ?_) (fun h1 => ?_)
    · have h1 : l[i] = 7 := of_decide_eq_true h1
      conv => whnf
      refine chk_i (by simp; omega) ?_
      conv => whnf
      refine cellK_i [i64 l[i]] (by simp [hb]) ?_
      conv => whnf
      rw [if_pos h1] at he
      rw [he, h1]
      exact RetA_view 0 rfl ⟨⟨rfl, rfl⟩, rfl⟩
    · have h1 : l[i] ≠ 7 := of_decide_eq_false h1
      rw [if_neg h1] at he
      conv => whnf
      refine chk_i (by simp; omega) ?_
      conv => whnf
      refine cellK_i [i64 l[i]] (by simp [hb]) ?_
      conv => whnf
      refine brk_i (fun h2 => ?_) (fun h2 => ?_)
      · have h2 : l[i] ≠ 0 := by
          intro e; rw [e] at h2; simp at h2
        rw [if_pos h2] at he
        conv => whnf
        refine chk_i (by simp; omega) ?_
        conv => whnf
        refine cellK_i [i64 l[i]] (by simp [hb]) ?_
        conv => whnf
        refine arith_in (wrap_i64 (by (try dsimp only); omega)) ?_
        conv => whnf
        exact ⟨(i + 1, l[i]), by simp only; omega, ⟨hb, he⟩, Wk.sub ⟨rfl, rfl, rfl, trivial⟩ ⟨rfl, trivial⟩⟩
      · have h2 : l[i] = 0 := by
          have := h2
          simp at this; exact this
        rw [if_neg (by simp [h2])] at he
        conv => whnf
        refine arith_in (wrap_i64 (by (try dsimp only); omega)) ?_
        conv => whnf
        exact ⟨(i + 1, e), by simp only; omega, ⟨hb, he⟩, Wk.sub ⟨rfl, rfl, rfl, trivial⟩ ⟨rfl, trivial⟩⟩
  · have hb : ¬ i < l.length := by
      have := of_decide_eq_false hb
      simp at this; omega
    conv => whnf
    rw [List.drop_of_length_le (by omega)] at he
    rw [he]
    exact RetA_view 0 rfl ⟨⟨rfl, rfl⟩, rfl⟩
end Go.PX

namespace Go.PX
open Go.Proofs

structure Ship where
  wind : Int
  current : Int
  swell : Int
  yaw : Int
structure Case where
  chain : Chain
  ship : Ship
  day : Int
  weathers : List Weather
def weathersD (l : List Weather) : D := .vs (l.map Weather.cells)
def Case.cells (c : Case) : List D := [shotsD c.chain.shots, i64 c.chain.long, i64 c.chain.heavy, i64 c.chain.err, i64 c.chain.hold.lo, i64 c.chain.hold.hi, rowsD c.chain.rows,
  i64 c.ship.wind, i64 c.ship.current, i64 c.ship.swell, i64 c.ship.yaw, i64 c.day, weathersD c.weathers]
def Case.d (c : Case) : D := .agg c.cells

/-- What is needed of a case for its shots to be looked at. -/
structure CaseOk (c : Case) : Prop where
  len : c.chain.shots.length ≤ 7
  err : 0 ≤ c.chain.err ∧ c.chain.err ≤ 2000
  day : 0 ≤ c.day ∧ c.day ≤ 40000
  shots : ∀ s ∈ c.chain.shots, ShotOk s ∧ (∀ g ∈ s.gauges, gaugeOk g) ∧ s.gauges.length ≤ 6

def soundL (off day : Int) : List Shot → Int → Int
  | [], e => e
  | s :: r, e => if e = 0 then soundL off day r (if (rangeS s off s.gauges day).2 then e else 8) else e

theorem fn68 (c : Case) (e0 : Int) (hok : e0 = 0 → CaseOk c) : FnV Tryz.prog 30 [c.d, i64 e0] (i64 (soundL c.chain.err c.day c.chain.shots e0)) := by
  refine fnV_of mixed tysOk Tryz.func30 rfl (ft := ft30) 2 (by decide +kernel) (by rfl) fun {σ} Y st => ?_
  conv => whnf
  refine LoopA_p (T := tys) tysOk (by exact drawsB_spec mixed tysOk (by decide +kernel)) (α := Nat × Int)
    (fun x => ⟨[(1, .d (i64 x.2)), (2, .ptr 2 0), (5, .d (i64 x.1))], [(2, .box (.dd c.cells))], st⟩) (fun x => x.1 ≤ c.chain.shots.length ∧ (x.2 = 0 → e0 = 0) ∧ soundL c.chain.err c.day c.chain.shots e0 = soundL c.chain.err c.day (c.chain.shots.drop x.1) x.2) (fun x => c.chain.shots.length - x.1) (0, e0)
    (Wk.sub ⟨rfl, rfl, rfl, trivial⟩ ⟨rfl, trivial⟩) (by simp) ?_
  rintro ⟨i, e⟩ ⟨hi, hz, he⟩
  simp only at hi hz he
  conv => whnf
  refine brk_i (fun hb => ?_) (fun hb => ?_)
  · have hbl : i < c.chain.shots.length := by
      have := of_decide_eq_true hb
      simp at this; omega
    have hd : c.chain.shots.drop i = c.chain.shots[i] :: c.chain.shots.drop (i + 1) := List.drop_eq_getElem_cons hbl
    rw [hd, soundL] at he
    conv => whnf
    refine brk_i (fun h1 => ?_) (fun h1 => ?_)
    · have h1 : e = 0 := of_decide_eq_true h1
      subst h1
      rw [if_pos rfl] at he
      obtain ⟨hlen, herr, hday, hsh⟩ := hok (hz rfl)
      obtain ⟨hs1, hs2, hs3⟩ := hsh _ (List.getElem_mem hbl)
      conv => whnf
      refine elemK_i c.chain.shots[i].cells (by simp [hbl]) ?_
      conv => whnf
      refine CallA_v (ds := [c.chain.shots[i].d, i64 c.chain.err, gaugesD c.chain.shots[i].gauges, i64 c.day]) (fn60 c.chain.shots[i] c.chain.err c.chain.shots[i].gauges c.day (by omega) hs1 hs2 (by omega) (by omega)) rfl rfl ?_
      conv => whnf
      refine brk_i (fun h2 => ?_) (fun h2 => ?_)
      · have h2 : (rangeS c.chain.shots[i] c.chain.err c.chain.shots[i].gauges c.day).2 = false := by simpa using h2
        rw [h2] at he
        conv => whnf
        refine arith_in (wrap_i64 (by (try dsimp only); omega)) ?_
        conv => whnf
        exact ⟨(i + 1, 8), by simp only; omega, ⟨hbl, by simp, by simpa using he⟩, Wk.sub ⟨rfl, rfl, rfl, trivial⟩ ⟨rfl, trivial⟩⟩
      · have h2 : (rangeS c.chain.shots[i] c.chain.err c.chain.shots[i].gauges c.day).2 = true := by simpa using h2
        rw [h2] at he
        conv => whnf
        refine arith_in (wrap_i64 (by (try dsimp only); omega)) ?_
        conv => whnf
        exact ⟨(i + 1, 0), by simp only; omega, ⟨hbl, fun _ => hz rfl, by simpa using he⟩, Wk.sub ⟨rfl, rfl, rfl, trivial⟩ ⟨rfl, trivial⟩⟩
    · have h1 : e ≠ 0 := of_decide_eq_false h1
      rw [if_neg h1] at he
      conv => whnf
      rw [he]
      exact RetA_view 0 rfl ⟨⟨rfl, rfl⟩, rfl⟩
  · have hb : ¬ i < c.chain.shots.length := by
      have := of_decide_eq_false hb
      simp at this; omega
    conv => whnf
    rw [List.drop_of_length_le (by omega)] at he
    rw [he]
    exact RetA_view 0 rfl ⟨⟨rfl, rfl⟩, rfl⟩
end Go.PX

namespace Go.PX
open Go.Proofs

theorem out_eq (lo hi n : Int) : (decide (n < lo) || decide (n > hi)) = !inB n lo hi := by
  simp only [inB]
  by_cases h1 : lo ≤ n <;> by_cases h2 : n ≤ hi <;> simp [h1, h2] <;> omega

theorem FnV.cast {P : Program} {f : FuncId} {ds : List D} {r r' : D} (h : FnV P f ds r) (e : r = r') : FnV P f ds r' := by subst e; exact h

theorem fn51_1 (lo hi a : Int) : FnV Tryz.prog 37 [i64 lo, i64 hi, .vs [[i64 a]]] (.bool (!inB a lo hi)) := by
  exact FnV.cast (fn51 lo hi [a] (by simp)) (by simp [out_eq])
theorem fn51_2 (lo hi a b : Int) : FnV Tryz.prog 37 [i64 lo, i64 hi, .vs [[i64 a], [i64 b]]] (.bool (!(inB a lo hi && inB b lo hi))) := by
  exact FnV.cast (fn51 lo hi [a, b] (by simp)) (by simp [out_eq])
theorem fn51_3 (lo hi a b c : Int) : FnV Tryz.prog 37 [i64 lo, i64 hi, .vs [[i64 a], [i64 b], [i64 c]]] (.bool (!(inB a lo hi && (inB b lo hi && inB c lo hi)))) := by
  exact FnV.cast (fn51 lo hi [a, b, c] (by simp)) (by simp [out_eq])

theorem fn89 (s : Span) : FnV Tryz.prog 101 [s.d] (.bool (decide (s.lo > s.hi))) := by
  refine fnV_of mixed tysOk Tryz.func101 rfl (ft := ft101) 1 (by decide +kernel) (by rfl) fun {σ} Y st => ?_
  conv => whnf
  exact RetA_view 0 rfl ⟨⟨rfl, rfl⟩, rfl⟩

theorem fn110 (l : List Span) (g : FuncId) (caps : List D) (p : Span → Bool) (hl : l.length < 4000000000000000000) (hp : ∀ x ∈ l, FnV Tryz.prog g (x.d :: caps) (.bool (p x))) :
    FnV Tryz.prog 108 [spansD l, .clo g caps] (i64 (indexOf p l 0)) := by
  refine fnV_of mixed tysOk Tryz.func108 rfl (ft := ft108) 2 (by decide +kernel) (by rfl) fun {σ} Y st => ?_
  conv => whnf
  refine LoopA_l (T := tys) tysOk (by exact drawsB_spec mixed tysOk (by decide +kernel)) l (fun i (_ : Unit) => ⟨[(0, .d (spansD l)), (1, .d (.clo g caps)), (7, .d (i64 l.length)), (8, .d (i64 i))], [], st⟩) (fun r _ => (∀ x ∈ r, FnV Tryz.prog g (x.d :: caps) (.bool (p x))) ∧ indexOf p l 0 = indexOf p r (l.length - r.length)) ()
    (Wk.sub ⟨rfl, rfl, by simp [PX.get], rfl, trivial⟩ trivial) ⟨hp, by simp⟩ ?_ ?_
  · intro i x r _ hx hi hr ⟨hp, he⟩
    rw [indexOf] at he
    conv => whnf
    refine brk_i (fun _ => ?_) (fun h => absurd hi (by simpa using h))
    conv => whnf
    refine elemK_nat hx ?_
    conv => whnf
    refine CallA_v (ds := x.d :: caps) (hp x (by simp)) rfl rfl ?_
    conv => whnf
    refine brk_i (fun h1 => ?_) (fun h1 => ?_)
    · conv => whnf
      rw [if_pos h1] at he
      rw [he]
      have : ((l.length : Int) - ((x :: r).length : Nat)) = i := by simp; omega
      rw [this]
      exact RetA_view 0 rfl ⟨⟨rfl, rfl⟩, rfl⟩
    · conv => whnf
      rw [if_neg (by simp [h1])] at he
      refine arith_in (wrap_i64 (by (try dsimp only); omega)) ?_
      conv => whnf
      exact ⟨(), ⟨fun y hy => hp y (by simp [hy]), by rw [he]; congr 1; simp; omega⟩, Wk.sub ⟨rfl, rfl, rfl, rfl, trivial⟩ trivial⟩
  · intro _ ⟨_, he⟩
    conv => whnf
    refine brk_i (fun h => absurd h (by simp)) (fun _ => ?_)
    conv => whnf
    rw [he]
    exact RetA_view 0 rfl ⟨⟨rfl, rfl⟩, rfl⟩

theorem fn88 (l : List Span) (g : FuncId) (caps : List D) (p : Span → Bool) (hl : l.length < 4000000000000000000) (hp : ∀ x ∈ l, FnV Tryz.prog g (x.d :: caps) (.bool (p x))) :
    FnV Tryz.prog 100 [spansD l, .clo g caps] (.bool (l.any p)) := by
  refine fnV_of mixed tysOk Tryz.func100 rfl (ft := ft100) 2 (by decide +kernel) (by rfl) fun {σ} Y st => ?_
  conv => whnf
  refine CallA_v (fn110 l g caps p hl hp) rfl rfl ?_
  conv => whnf
  refine RetA_view 0 rfl ⟨⟨?_, rfl⟩, rfl⟩
  rw [← indexOf_any p l 0 (by omega)]; rfl

theorem fn53 (l : List Span) (hl : l.length < 4000000000000000000) : FnV Tryz.prog 81 [spansD l] (.bool (l.any fun s => decide (s.lo > s.hi))) := by
  refine fnV_of mixed tysOk Tryz.func81 rfl (ft := ft81) 1 (by decide +kernel) (by rfl) fun {σ} Y st => ?_
  conv => whnf
  refine CallA_v (fn88 l 101 [] (fun s => decide (s.lo > s.hi)) hl fun x _ => fn89 x) rfl rfl ?_
  conv => whnf
  exact RetA_view 0 rfl ⟨⟨rfl, rfl⟩, rfl⟩
end Go.PX

namespace Go.PX
open Go.Proofs

/-- The error of a chain but its shots and rows. -/
def plainF (c : Chain) : Int :=
  if inB c.shots.length 1 7 && inB c.rows.length 1 6 then
    (if inB c.long 1 50 && (inB c.heavy 0 200 && (inB c.err 0 2000 && (inB c.hold.lo 0 200000 && inB c.hold.hi 0 200000))) then (if c.hold.lo > c.hold.hi then 2 else 0) else 7)
  else 3

theorem fn53_1 (a b : Int) : FnV Tryz.prog 81 [.vs [[i64 a, i64 b]]] (.bool (decide (a > b))) :=
  FnV.cast (fn53 [⟨a, b⟩] (by simp)) (by simp)
theorem fn53_2 (a b c d : Int) : FnV Tryz.prog 81 [.vs [[i64 a, i64 b], [i64 c, i64 d]]] (.bool (decide (a > b) || decide (c > d))) :=
  FnV.cast (fn53 [⟨a, b⟩, ⟨c, d⟩] (by simp)) (by simp)

theorem fn46 (c : Chain) : FnV Tryz.prog 75 [c.d] (i64 (plainF c)) := by
  refine fnV_of mixed tysOk Tryz.func75 rfl (ft := ft75) 1 (by decide +kernel) (by rfl) fun {σ} Y st => ?_
  conv => whnf
  repeat' (first
    | (refine CallA_v (fn51_1 _ _ _) rfl rfl ?_; conv => whnf)
    | (refine CallA_view (fn51_1 _ _ _) rfl 1 rfl ?_; conv => whnf)
    | (refine DrawCall_v (fn51_1 _ _ _) rfl rfl ?_; conv => whnf)
    | (refine DrawCall_view (fn51_1 _ _ _) rfl 1 rfl ?_; conv => whnf)
    | (refine CallA_v (fn51_2 _ _ _ _) rfl rfl ?_; conv => whnf)
    | (refine CallA_view (fn51_2 _ _ _ _) rfl 1 rfl ?_; conv => whnf)
    | (refine DrawCall_v (fn51_2 _ _ _ _) rfl rfl ?_; conv => whnf)
    | (refine DrawCall_view (fn51_2 _ _ _ _) rfl 1 rfl ?_; conv => whnf)
    | (refine CallA_v (fn53_1 _ _) rfl rfl ?_; conv => whnf)
    | (refine CallA_view (fn53_1 _ _) rfl 1 rfl ?_; conv => whnf)
    | (refine DrawCall_v (fn53_1 _ _) rfl rfl ?_; conv => whnf)
    | (refine DrawCall_view (fn53_1 _ _) rfl 1 rfl ?_; conv => whnf)
    | (refine arith_in (wrap_i64 (by (try dsimp only); omega)) ?_; conv => whnf)
    | (refine brk_i (fun h => ?_) (fun h => ?_) <;> conv => whnf))
  all_goals (refine RetA_view 0 rfl ⟨⟨?_, rfl⟩, rfl⟩; first | (simp_all [packD, plainF]; done) | (simp_all [packD, plainF]; grind) | grind [packD, plainF])

/-- The error of the gaugings, in order. -/
def gaugesL (set : Int) : Int → List Gauge → Int
  | _, [] => 0
  | last, g :: r => if inB g.day set 40000 && inB g.shown 0 60000 then (if g.day < last then 2 else gaugesL set g.day r) else 7

/-- The error of a shot but its name. -/
def checkF (s : Shot) : Int :=
  if inB s.links 1 40 && (inB s.set 0 40000 && (inB s.new.lo 1 60000 && inB s.new.hi 1 60000 && (inB s.wear.lo 0 20 && inB s.wear.hi 0 20))) then
    (if s.new.lo > s.new.hi ∨ s.wear.lo > s.wear.hi then 2 else (if 6 < s.gauges.length then 3 else gaugesL s.set s.set s.gauges))
  else 7

theorem fn50 (s : Shot) (off : Int) : FnV Tryz.prog 79 [.agg (s.cells ++ [i64 off])] (i64 (checkF s)) := by
  refine fnV_of mixed tysOk Tryz.func79 rfl (ft := ft79) 1 (by decide +kernel) (by rfl) fun {σ} Y st => ?_
  conv => whnf
  repeat' (first
    | (refine CallA_v (fn51_1 _ _ _) rfl rfl ?_; conv => whnf)
    | (refine CallA_view (fn51_1 _ _ _) rfl 1 rfl ?_; conv => whnf)
    | (refine DrawCall_v (fn51_1 _ _ _) rfl rfl ?_; conv => whnf)
    | (refine DrawCall_view (fn51_1 _ _ _) rfl 1 rfl ?_; conv => whnf)
    | (refine CallA_v (fn51_2 _ _ _ _) rfl rfl ?_; conv => whnf)
    | (refine CallA_view (fn51_2 _ _ _ _) rfl 1 rfl ?_; conv => whnf)
    | (refine DrawCall_v (fn51_2 _ _ _ _) rfl rfl ?_; conv => whnf)
    | (refine DrawCall_view (fn51_2 _ _ _ _) rfl 1 rfl ?_; conv => whnf)
    | (refine CallA_v (fn53_2 _ _ _ _) rfl rfl ?_; conv => whnf)
    | (refine CallA_view (fn53_2 _ _ _ _) rfl 1 rfl ?_; conv => whnf)
    | (refine DrawCall_v (fn53_2 _ _ _ _) rfl rfl ?_; conv => whnf)
    | (refine DrawCall_view (fn53_2 _ _ _ _) rfl 1 rfl ?_; conv => whnf)
    | (refine arith_in (wrap_i64 (by (try dsimp only); omega)) ?_; conv => whnf)
    | (refine brk_i (fun h => ?_) (fun h => ?_) <;> conv => whnf))
  all_goals first
    | (refine RetA_view 0 rfl ⟨⟨?_, rfl⟩, rfl⟩; grind [packD, checkF])
    | skip
  have hlen : s.gauges.length ≤ 6 := by simp_all; omega
  have hF : checkF s = gaugesL s.set s.set s.gauges := by grind [checkF]
  rw [hF]
  refine LoopA_l (T := tys) tysOk (by exact drawsB_spec mixed tysOk (by decide +kernel)) s.gauges (fun i (last : Int) => ⟨[(1, .ptr 1 0), (3, .d (i64 last)), (63, .d (gaugesD s.gauges)), (64, .d (i64 s.gauges.length)), (65, .d (i64 i))], [(1, .box (.dd (s.cells ++ [i64 off])))], st⟩) (fun r last => gaugesL s.set s.set s.gauges = gaugesL s.set last r) s.set
    (Wk.sub ⟨(by first | rfl | (simp only [List.length_map]; rfl) | simp [PX.get]), (by first | rfl | (simp only [List.length_map]; rfl) | simp [PX.get]), (by first | rfl | (simp only [List.length_map]; rfl) | simp [PX.get]), (by first | rfl | (simp only [List.length_map]; rfl) | simp [PX.get]), (by first | rfl | (simp only [List.length_map]; rfl) | simp [PX.get]), trivial⟩ ⟨(by first | rfl | (simp only [List.length_map]; rfl) | simp [PX.get]), trivial⟩) rfl ?_ ?_
  · intro i g r last hx hi hr he
    rw [gaugesL] at he
    conv => whnf
    refine brk_i (fun _ => ?_) (fun h => absurd hi (by simpa using h))
    conv => whnf
    refine elemK_nat hx ?_
    conv => whnf
    repeat' (first
      | (refine CallA_v (fn51_1 _ _ _) rfl rfl ?_; conv => whnf)
      | (refine CallA_view (fn51_1 _ _ _) rfl 1 rfl ?_; conv => whnf)
      | (refine DrawCall_v (fn51_1 _ _ _) rfl rfl ?_; conv => whnf)
      | (refine DrawCall_view (fn51_1 _ _ _) rfl 1 rfl ?_; conv => whnf)
      | (refine arith_in (wrap_i64 (by (try dsimp only); omega)) ?_; conv => whnf)
      | (refine brk_i (fun h => ?_) (fun h => ?_) <;> conv => whnf))
    all_goals first
      | (refine RetA_view 0 rfl ⟨⟨?_, rfl⟩, rfl⟩; grind [packD])
      | exact ⟨g.day, by grind, Wk.sub ⟨rfl, rfl, rfl, rfl, rfl, trivial⟩ ⟨rfl, trivial⟩⟩
  · intro last he
    conv => whnf
    refine brk_i (fun h => absurd h (by simp)) (fun _ => ?_)
    conv => whnf
    rw [he]
    exact RetA_view 0 rfl ⟨⟨rfl, rfl⟩, rfl⟩
end Go.PX

namespace Go.PX
open Go.Proofs
open Go

theorem fn49 (s : Shot) (n : Shot) : FnV Tryz.prog 78 [s.d, .ref n.cells] (.bool (decide (s.name = n.name))) := by
  refine fnV_of mixed tysOk Tryz.func78 rfl (ft := ft78) 2 (by decide +kernel) (by rfl) fun {σ} Y st => ?_
  conv => whnf
  exact RetA_view 0 rfl ⟨⟨rfl, rfl⟩, rfl⟩
theorem fn52 (s : Shot) (c : Case) : FnV Tryz.prog 80 [s.d, .ref c.cells] (.bool (decide (s.set > c.day))) := by
  refine fnV_of mixed tysOk Tryz.func80 rfl (ft := ft80) 2 (by decide +kernel) (by rfl) fun {σ} Y st => ?_
  conv => whnf
  exact RetA_view 0 rfl ⟨⟨rfl, rfl⟩, rfl⟩

theorem fn85 (l : List Shot) (g : FuncId) (caps : List D) (p : Shot → Bool) (hl : l.length < 4000000000000000000) (hp : ∀ x ∈ l, FnV Tryz.prog g (x.d :: caps) (.bool (p x))) :
    FnV Tryz.prog 99 [shotsD l, .clo g caps] (i64 (indexOf p l 0)) := by
  refine fnV_of mixed tysOk Tryz.func99 rfl (ft := ft99) 2 (by decide +kernel) (by rfl) fun {σ} Y st => ?_
  conv => whnf
  refine LoopA_l (T := tys) tysOk (by exact drawsB_spec mixed tysOk (by decide +kernel)) l (fun i (_ : Unit) => ⟨[(0, .d (shotsD l)), (1, .d (.clo g caps)), (7, .d (i64 l.length)), (8, .d (i64 i))], [], st⟩) (fun r _ => (∀ x ∈ r, FnV Tryz.prog g (x.d :: caps) (.bool (p x))) ∧ indexOf p l 0 = indexOf p r (l.length - r.length)) ()
    (Wk.sub ⟨(by first | rfl | (simp only [List.length_map]; rfl) | simp [PX.get]), (by first | rfl | (simp only [List.length_map]; rfl) | simp [PX.get]), (by first | rfl | (simp only [List.length_map]; rfl) | simp [PX.get]), (by first | rfl | (simp only [List.length_map]; rfl) | simp [PX.get]), trivial⟩ trivial) ⟨hp, by simp⟩ ?_ ?_
  · intro i x r _ hx hi hr ⟨hp, he⟩
    rw [indexOf] at he
    conv => whnf
    refine brk_i (fun _ => ?_) (fun h => absurd hi (by simpa using h))
    conv => whnf
    refine elemK_nat hx ?_
    conv => whnf
    refine CallA_v (ds := x.d :: caps) (hp x (by simp)) rfl rfl ?_
    conv => whnf
    refine brk_i (fun h1 => ?_) (fun h1 => ?_)
    · conv => whnf
      rw [if_pos h1] at he
      rw [he]
      have : ((l.length : Int) - ((x :: r).length : Nat)) = i := by simp; omega
      rw [this]
      exact RetA_view 0 rfl ⟨⟨rfl, rfl⟩, rfl⟩
    · conv => whnf
      rw [if_neg (by simp [h1])] at he
      refine arith_in (wrap_i64 (by (try dsimp only); omega)) ?_
      conv => whnf
      exact ⟨(), ⟨fun y hy => hp y (by simp [hy]), by rw [he]; congr 1; simp; omega⟩, Wk.sub ⟨rfl, rfl, rfl, rfl, trivial⟩ trivial⟩
  · intro _ ⟨_, he⟩
    conv => whnf
    refine brk_i (fun h => absurd h (by simp)) (fun _ => ?_)
    conv => whnf
    rw [he]
    exact RetA_view 0 rfl ⟨⟨rfl, rfl⟩, rfl⟩

theorem fn48 (l : List Shot) (g : FuncId) (caps : List D) (p : Shot → Bool) (hl : l.length < 4000000000000000000) (hp : ∀ x ∈ l, FnV Tryz.prog g (x.d :: caps) (.bool (p x))) :
    FnV Tryz.prog 77 [shotsD l, .clo g caps] (.bool (l.any p)) := by
  refine fnV_of mixed tysOk Tryz.func77 rfl (ft := ft77) 2 (by decide +kernel) (by rfl) fun {σ} Y st => ?_
  conv => whnf
  refine CallA_v (fn85 l g caps p hl hp) rfl rfl ?_
  conv => whnf
  refine RetA_view 0 rfl ⟨⟨?_, rfl⟩, rfl⟩
  rw [← indexOf_any p l 0 (by omega)]; rfl

/-- Names, rune by rune. -/
def nameGo : Nat → List UInt8 → Bool
  | last, [] => decide (last ≠ 45)
  | last, c :: r => if 97 ≤ c.toNat ∧ c.toNat ≤ 122 then nameGo c.toNat r else if c.toNat = 45 ∧ last ≠ 45 then nameGo 45 r else false

theorem nameGo_eq (b : List UInt8) : ∀ (r : List UInt8) (i last : Nat), r ≠ [] → r = b.drop i → (i = 0 → last = 45) → (∀ p, i ≠ 0 → b[i - 1]? = some p → last = p.toNat) → nameGo last r = nameL b i r
  | [], i, last, h, _, _, _ => absurd rfl h
  | c :: r, i, last, _, hd, h0, h1 => by
    have hlen : i + 1 + r.length = b.length := by
      have := congrArg List.length hd
      simp at this; omega
    have hget : b[i]? = some c := by
      have := congrArg (fun l => l[0]?) hd
      simpa using this.symm
    have hr : r = b.drop (i + 1) := by
      have := congrArg List.tail hd
      simpa using this
    have ih : ∀ last', last' = c.toNat → r ≠ [] → nameGo last' r = nameL b (i + 1) r := fun last' hl hne =>
      nameGo_eq b r (i + 1) last' hne hr (fun h => by omega) (fun p _ hp => by simp at hp; rw [hget] at hp; cases hp; exact hl)
    have hprev : i ≠ 0 → ∃ p, b[i - 1]? = some p ∧ last = p.toNat := fun hi => by
      have : i - 1 < b.length := by omega
      exact ⟨_, List.getElem?_eq_getElem this, h1 _ hi (List.getElem?_eq_getElem this)⟩
    simp only [nameGo, nameL, okAt]
    by_cases ha : 97 ≤ c.toNat ∧ c.toNat ≤ 122
    · rw [if_pos ha]
      simp only [ha.1, ha.2, decide_true, Bool.and_self, Bool.true_or, Bool.true_and]
      by_cases hne : r = []
      · subst hne
        simp [nameGo, nameL]; omega
      · exact ih _ rfl hne
    · rw [if_neg ha]
      have hf : (decide (97 ≤ c.toNat) && decide (c.toNat ≤ 122)) = false := by
        simp only [Bool.and_eq_false_iff, decide_eq_false_iff_not]; omega
      rw [hf, Bool.false_or]
      by_cases hc : c.toNat = 45
      · by_cases hi : i = 0
        · have := h0 hi
          simp [hc, hi, this]
        · obtain ⟨p, hp, hl⟩ := hprev hi
          rw [hp]
          by_cases hpl : p.toNat = 45
          · simp [hc, hl, hpl]
          · by_cases hne : r = []
            · have : i + 1 = b.length := by subst hne; simpa using hlen
              subst hne
              simp [hc, hl, hpl, nameGo, this]
            · have : i + 1 ≠ b.length := by
                have := List.length_pos_iff.2 hne; omega
              rw [if_pos ⟨hc, by rw [hl]; exact hpl⟩, ih 45 hc.symm hne]
              simp [hc, hi, hpl, this]
      · simp [hc]

theorem nameF_go (s : ByteArray) : nameF s = (decide (s.size ≤ 14) && nameGo 45 s.data.toList) := by
  have hsz : s.size = s.data.toList.length := by simp
  unfold nameF inB
  cases hb : s.data.toList with
  | nil =>
    have : s.size = 0 := by rw [hsz, hb]; rfl
    simp [this, nameGo]
  | cons c r =>
    rw [← hb, nameGo_eq s.data.toList s.data.toList 0 45 (by rw [hb]; simp) rfl (fun _ => rfl) (fun p h => absurd rfl h)]
    have h1 : 1 ≤ s.size := by rw [hsz, hb]; simp
    have e1 : decide ((1 : Int) ≤ (s.size : Int)) = true := by simp; omega
    have e2 : decide ((s.size : Int) ≤ 14) = decide (s.size ≤ 14) := by simp; omega
    rw [e1, e2]; simp

theorem decode_big (s : ByteArray) (i : Nat) (h : ¬ (s.get! (i + 0)).toNat < 128) : 128 ≤ (Utf8.decode s i).1 := by
  unfold Utf8.decode
  simp only [h, if_false]
  split
  · split
    · simp only; omega
    · simp [Utf8.runeError]
  · split
    · split
      · rename_i h1
        simp only [Bool.and_eq_true, decide_eq_true_eq] at h1
        simp only; omega
      · simp [Utf8.runeError]
    · split
      · split
        · rename_i h1
          simp only [Bool.and_eq_true, decide_eq_true_eq] at h1
          simp only; omega
        · simp [Utf8.runeError]
      · simp [Utf8.runeError]
end Go.PX

namespace Go.PX
open Go.Proofs
open Go

theorem fn47 (s : ByteArray) : FnV Tryz.prog 76 [.str s] (.bool (nameF s)) := by
  refine fnV_of mixed tysOk Tryz.func76 rfl (ft := ft76) 1 (by decide +kernel) (by rfl) fun {σ} Y st => ?_
  conv => whnf
  refine LoopA_p (T := tys) tysOk (by exact drawsB_spec mixed tysOk (by decide +kernel)) (α := Nat × Nat)
    (fun x => ⟨[(0, .d (.str s)), (3, .d (.int .i32 x.2)), (7, .it 7)], [(7, .iter s x.1)], st⟩) (fun x => x.1 ≤ s.size ∧ nameF s = (decide (s.size ≤ 14) && nameGo x.2 (s.data.toList.drop x.1))) (fun x => s.size - x.1) (0, 45)
    (Wk.sub ⟨(by first | rfl | (simp only [List.length_map]; rfl) | simp [PX.get]), (by first | rfl | (simp only [List.length_map]; rfl) | simp [PX.get]), (by first | rfl | (simp only [List.length_map]; rfl) | simp [PX.get]), trivial⟩ ⟨(by first | rfl | (simp only [List.length_map]; rfl) | simp [PX.get]), trivial⟩) ⟨by simp, by rw [nameF_go]; rfl⟩ ?_
  rintro ⟨p, last⟩ ⟨hp, he⟩
  simp only at hp he
  have hsz : s.size = s.data.toList.length := by simp
  conv => whnf
  refine brk_i (fun h1 => ?_) (fun h1 => ?_)
  · have h1 : p < s.size := of_decide_eq_true h1
    have hd : s.data.toList.drop p = s[p] :: s.data.toList.drop (p + 1) := by
      rw [List.drop_eq_getElem_cons (by omega)]; rfl
    rw [hd, nameGo] at he
    refine ⟨?_⟩
    by_cases hb : s[p].toNat < 128
    · rw [decode_ascii s p h1 hb]
      conv => whnf
      refine brk_i (fun h2 => ?_) (fun h2 => ?_)
      · have h2 : 97 ≤ s[p].toNat := by have := of_decide_eq_true h2; omega
        conv => whnf
        refine brk_i (fun h3 => ?_) (fun h3 => ?_)
        · have h3 : s[p].toNat ≤ 122 := by have := of_decide_eq_true h3; omega
          conv => whnf
          rw [if_pos ⟨h2, h3⟩] at he
          exact ⟨(p + 1, s[p].toNat), by simp only; omega, ⟨h1, he⟩, (Wk.sub ⟨(by first | rfl | (simp only [List.length_map]; rfl) | simp [PX.get]), (by first | rfl | (simp only [List.length_map]; rfl) | simp [PX.get]), (by first | rfl | (simp only [List.length_map]; rfl) | simp [PX.get]), trivial⟩ ⟨(by first | rfl | (simp only [List.length_map]; rfl) | simp [PX.get]), trivial⟩)⟩
        · have h3 : ¬ s[p].toNat ≤ 122 := by have := of_decide_eq_false h3; omega
          conv => whnf
          rw [if_neg (by omega), if_neg (by omega)] at he
          refine brk_i (fun h4 => ?_) (fun h4 => ?_)
          · conv => whnf
            rw [he, Bool.and_false]
            exact RetA_view 0 rfl ⟨⟨rfl, rfl⟩, rfl⟩
          · exact absurd h4 (by simp; omega)
      · have h2 : ¬ 97 ≤ s[p].toNat := by have := of_decide_eq_false h2; omega
        conv => whnf
        rw [if_neg (by omega)] at he
        refine brk_i (fun h4 => ?_) (fun h4 => ?_)
        · have h4 : s[p].toNat ≠ 45 := by simp at h4; omega
          conv => whnf
          rw [if_neg (by omega)] at he
          rw [he, Bool.and_false]
          exact RetA_view 0 rfl ⟨⟨rfl, rfl⟩, rfl⟩
        · have h4 : s[p].toNat = 45 := by simp at h4; omega
          conv => whnf
          refine brk_i (fun h5 => ?_) (fun h5 => ?_)
          · have h5 : last = 45 := by have := of_decide_eq_true h5; omega
            conv => whnf
            rw [if_neg (by omega)] at he
            rw [he, Bool.and_false]
            exact RetA_view 0 rfl ⟨⟨rfl, rfl⟩, rfl⟩
          · have h5 : last ≠ 45 := by have := of_decide_eq_false h5; omega
            conv => whnf
            rw [if_pos ⟨h4, h5⟩] at he
            exact ⟨(p + 1, 45), by simp only; omega, ⟨h1, he⟩, by rw [← h4]; exact (Wk.sub ⟨(by first | rfl | (simp only [List.length_map]; rfl) | simp [PX.get]), (by first | rfl | (simp only [List.length_map]; rfl) | simp [PX.get]), (by first | rfl | (simp only [List.length_map]; rfl) | simp [PX.get]), trivial⟩ ⟨(by first | rfl | (simp only [List.length_map]; rfl) | simp [PX.get]), trivial⟩)⟩
    · have hbig := decode_big s p (by
        have e : s.get! (p + 0) = s[p]'h1 := by
          show s.get! p = _
          simp [ByteArray.get!, getElem!_pos, h1]
          rfl
        rw [e]; exact hb)
      generalize (Utf8.decode s p).1 = c at hbig
      generalize (Utf8.decode s p).2 = n
      rw [if_neg (by omega), if_neg (by omega)] at he
      conv => whnf
      refine brk_i (fun h2 => ?_) (fun h2 => ?_)
      · conv => whnf
        refine brk_i (fun h3 => ?_) (fun h3 => ?_)
        · have := of_decide_eq_true h3; omega
        · conv => whnf
          refine brk_i (fun h4 => ?_) (fun h4 => ?_)
          · conv => whnf
            rw [he, Bool.and_false]
            exact RetA_view 0 rfl ⟨⟨rfl, rfl⟩, rfl⟩
          · exact absurd h4 (by simp; omega)
      · have := of_decide_eq_false h2; omega
  · have h1 : ¬ p < s.size := of_decide_eq_false h1
    conv => whnf
    have hnil : s.data.toList.drop p = [] := List.drop_of_length_le (by omega)
    rw [hnil, nameGo] at he
    refine brk_i (fun h2 => ?_) (fun h2 => ?_)
    · conv => whnf
      refine RetA_view 0 rfl ⟨⟨?_, rfl⟩, rfl⟩
      have h2 : s.size ≤ 14 := by have := of_decide_eq_true h2; omega
      rw [he]
      show V.d (.bool (!decide ((last : Int) = 45))) = _
      simp [h2]; omega
    · conv => whnf
      refine RetA_view 0 rfl ⟨⟨?_, rfl⟩, rfl⟩
      have h2 : ¬ s.size ≤ 14 := by have := of_decide_eq_false h2; omega
      rw [he]
      simp [h2, packD]
end Go.PX

namespace Go.PX
open Go.Proofs

/-- The first one with an error, and the error; behind the ones before it. -/
def firstE {α : Type} (f : List α → α → Int) : List α → List α → Int → Int × Int
  | _, [], _ => (0, 0)
  | b, x :: r, i => if f b x = 0 then firstE f (b ++ [x]) r (i + 1) else (i, f b x)

def shotE (b : List Shot) (x : Shot) : Int := if nameF x.name then (if b.any (fun y => decide (y.name = x.name)) then 5 else checkF x) else 6
def lastR (b : List Row) : Row := b.getLast?.getD ⟨0, 0⟩
def rowE (b : List Row) (r : Row) : Int :=
  if inB r.scope 1 200 && inB r.holds 1 1000 then (if r.scope ≤ (lastR b).scope ∨ r.holds ≤ (lastR b).holds then 2 else 0) else 7
def weatherE (_ : List Weather) (w : Weather) : Int :=
  if inB w.depth.lo 1 1000 && inB w.depth.hi 1 1000 && (inB w.wind.lo 0 80 && inB w.wind.hi 0 80 && (inB w.current.lo 0 80 && inB w.current.hi 0 80 && (inB w.swell.lo 0 150 && inB w.swell.hi 0 150))) then
    (if w.depth.lo > w.depth.hi ∨ w.wind.lo > w.wind.hi ∨ w.current.lo > w.current.hi ∨ w.swell.lo > w.swell.hi then 2 else 0) else 7

def restE (c : Case) : Int × Int × Int :=
  if inB c.ship.wind 0 10000 && (inB c.ship.current 0 10000 && inB c.ship.swell 0 10000) && inB c.ship.yaw 0 20 then
    (if inB c.day 0 40000 then
      (if c.chain.shots.any (fun s => decide (s.set > c.day)) then (5, 0, 2) else
        (if inB c.weathers.length 1 6 then
          (let p := firstE weatherE [] c.weathers 0
           if p.2 = 0 then (0, 0, 0) else (6, p.1, p.2))
        else (6, 0, 3)))
    else (5, 0, 7))
  else (4, 0, 7)

def rowsE (c : Case) : Int × Int × Int :=
  let p := firstE rowE [] c.chain.rows 0
  if p.2 = 0 then restE c else (3, p.1, p.2)

def checkC (c : Case) : Int × Int × Int :=
  if plainF c.chain = 0 then
    (let p := firstE shotE [] c.chain.shots 0
     if p.2 = 0 then rowsE c else (2, p.1, p.2))
  else (1, 0, plainF c.chain)

def tri (p : Int × Int × Int) : D := .tup [i64 p.1, i64 p.2.1, i64 p.2.2]

theorem fn53_4 (a b c d e f g h : Int) : FnV Tryz.prog 81 [.vs [[i64 a, i64 b], [i64 c, i64 d], [i64 e, i64 f], [i64 g, i64 h]]] (.bool (decide (a > b) || (decide (c > d) || (decide (e > f) || decide (g > h))))) :=
  FnV.cast (fn53 [⟨a, b⟩, ⟨c, d⟩, ⟨e, f⟩, ⟨g, h⟩] (by simp)) (by simp)

theorem any_take {l : List Shot} {i : Nat} {p : Shot → Bool} {q : Bool} (h : (l.take i).any p = q) : (((l.map Shot.cells).take i).drop 0) = ((l.take i).map Shot.cells) := by simp

theorem plain_lens {c : Chain} (h : plainF c = 0) : c.shots.length ≤ 7 ∧ c.rows.length ≤ 6 := by
  unfold plainF inB at h
  split at h
  · rename_i h1
    simp only [Bool.and_eq_true, decide_eq_true_eq] at h1
    omega
  · cases h

theorem restE_end {c : Case} (h1 : (inB c.ship.wind 0 10000 && (inB c.ship.current 0 10000 && inB c.ship.swell 0 10000)) = true) (h2 : inB c.ship.yaw 0 20 = true) (h3 : inB c.day 0 40000 = true) (h4 : (c.chain.shots.any fun s => decide (s.set > c.day)) = false) (h5 : inB c.weathers.length 1 6 = true) :
    restE c = (if (firstE weatherE [] c.weathers 0).2 = 0 then (0, 0, 0) else (6, (firstE weatherE [] c.weathers 0).1, (firstE weatherE [] c.weathers 0).2)) := by
  simp [restE, h1, h2, h3, h4, h5]

theorem fn13 (c : Case) : FnV Tryz.prog 45 [c.d] (tri (checkC c)) := by
  refine fnV_of mixed tysOk Tryz.func45 rfl (ft := ft45) 1 (by decide +kernel) (by rfl) fun {σ} Y st => ?_
  conv => whnf
  refine CallA_v (fn46 c.chain) rfl rfl ?_
  conv => whnf
  refine brk_i (fun h0 => ?_) (fun h0 => ?_)
  · conv => whnf
    refine RetA_view 0 rfl ⟨⟨?_, rfl⟩, rfl⟩
    have h0 : plainF c.chain ≠ 0 := by simpa using h0
    simp [checkC, h0, tri, packD]
  have h0 : plainF c.chain = 0 := by simpa using h0
  obtain ⟨hl1, hl2⟩ := plain_lens h0
  conv => whnf
  have hE : checkC c = (if (firstE shotE [] c.chain.shots 0).2 = 0 then rowsE c else (2, (firstE shotE [] c.chain.shots 0).1, (firstE shotE [] c.chain.shots 0).2)) := by simp [checkC, h0]
  rw [hE]
  refine LoopA_i (T := tys) tysOk (by exact drawsB_spec mixed tysOk (by decide +kernel)) c.chain.shots (fun i (_ : Unit) => ⟨[(1, .ptr 1 0), (20, .d (shotsD c.chain.shots)), (21, .d (i64 c.chain.shots.length)), (22, .d (i64 i))], [(1, .box (.dd c.cells))], st⟩) (fun i r _ => firstE shotE [] c.chain.shots 0 = firstE shotE (c.chain.shots.take i) r i) ()
    (Wk.sub ⟨(by first | rfl | (simp only [List.length_map]; rfl) | simp [PX.get]), (by first | rfl | (simp only [List.length_map]; rfl) | simp [PX.get]), (by first | rfl | (simp only [List.length_map]; rfl) | simp [PX.get]), (by first | rfl | (simp only [List.length_map]; rfl) | simp [PX.get]), trivial⟩ ⟨(by first | rfl | (simp only [List.length_map]; rfl) | simp [PX.get]), trivial⟩) rfl ?_ ?_
  · intro i x r _ hx hi hr he
    rw [firstE] at he
    have htk : c.chain.shots.take (i + 1) = c.chain.shots.take i ++ [x] := by rw [List.take_succ, hx]; rfl
    conv => whnf
    refine brk_i (fun _ => ?_) (fun h => absurd hi (by simpa using h))
    conv => whnf
    refine elemK_nat hx ?_
    conv => whnf
    refine CallA_v (fn47 x.name) rfl rfl ?_
    conv => whnf
    refine brk_i (fun h1 => ?_) (fun h1 => ?_)
    · conv => whnf
      refine RetA_view 0 rfl ⟨⟨?_, rfl⟩, rfl⟩
      have h1 : nameF x.name = false := by simpa using h1
      rw [he]
      simp [shotE, h1, packD, tri]
    have h1 : nameF x.name = true := by simpa using h1
    conv => whnf
    refine chk_i (by simp; omega) ?_
    conv => whnf
    refine chk_i (by cases c.chain.shots <;> rfl) ?_
    conv => whnf
    refine CallA_view (ds := [shotsD (c.chain.shots.take i), .clo 78 [.ref x.cells]]) (fn48 (c.chain.shots.take i) 78 [.ref x.cells] (fun y => decide (y.name = x.name)) (by simp; omega) fun y _ => fn49 y x) rfl 1 (by show some _ = some _; simp [shotsD, List.map_take]; rfl) ?_
    conv => whnf
    refine brk_i (fun h2 => ?_) (fun h2 => ?_)
    · conv => whnf
      refine RetA_view 0 rfl ⟨⟨?_, rfl⟩, rfl⟩
      rw [he]
      simp [shotE, h1, h2, packD, tri]
    conv => whnf
    refine CallA_v (fn50 x 0) rfl rfl ?_
    conv => whnf
    refine brk_i (fun h3 => ?_) (fun h3 => ?_)
    · conv => whnf
      refine RetA_view 0 rfl ⟨⟨?_, rfl⟩, rfl⟩
      have h3 : checkF x ≠ 0 := by simpa using h3
      rw [he]
      simp [shotE, h1, h2, h3, packD, tri]
    have h3 : checkF x = 0 := by simpa using h3
    conv => whnf
    refine arith_in (wrap_i64 (by (try dsimp only); omega)) ?_
    conv => whnf
    have hs : shotE (c.chain.shots.take i) x = 0 := by simp [shotE, h1, h2, h3]
    rw [if_pos hs, ← htk] at he
    exact ⟨(), he, (Wk.sub ⟨(by first | rfl | (simp only [List.length_map]; rfl) | simp [PX.get]), (by first | rfl | (simp only [List.length_map]; rfl) | simp [PX.get]), (by first | rfl | (simp only [List.length_map]; rfl) | simp [PX.get]), (by first | rfl | (simp only [List.length_map]; rfl) | simp [PX.get]), trivial⟩ ⟨(by first | rfl | (simp only [List.length_map]; rfl) | simp [PX.get]), trivial⟩)⟩
  intro _ he
  rw [List.take_length, firstE] at he
  rw [he]
  simp only [if_true]
  conv => whnf
  refine brk_i (fun h => absurd h (by simp)) (fun _ => ?_)
  conv => whnf
  have hR : rowsE c = (if (firstE rowE [] c.chain.rows 0).2 = 0 then restE c else (3, (firstE rowE [] c.chain.rows 0).1, (firstE rowE [] c.chain.rows 0).2)) := rfl
  rw [hR]
  refine LoopA_i (T := tys) tysOk (by exact drawsB_spec mixed tysOk (by decide +kernel)) c.chain.rows (fun i (last : Row) => ⟨[(1, .ptr 1 0), (7, .ptr 7 0), (53, .d (rowsD c.chain.rows)), (54, .d (i64 c.chain.rows.length)), (55, .d (i64 i))], [(1, .box (.dd c.cells)), (7, .box (.dd last.cells))], st⟩) (fun i r last => last = lastR (c.chain.rows.take i) ∧ firstE rowE [] c.chain.rows 0 = firstE rowE (c.chain.rows.take i) r i) ⟨0, 0⟩
    (Wk.sub ⟨(by first | rfl | (simp only [List.length_map]; rfl) | simp [PX.get]), (by first | rfl | (simp only [List.length_map]; rfl) | simp [PX.get]), (by first | rfl | (simp only [List.length_map]; rfl) | simp [PX.get]), (by first | rfl | (simp only [List.length_map]; rfl) | simp [PX.get]), (by first | rfl | (simp only [List.length_map]; rfl) | simp [PX.get]), trivial⟩ ⟨(by first | rfl | (simp only [List.length_map]; rfl) | simp [PX.get]), (by first | rfl | (simp only [List.length_map]; rfl) | simp [PX.get]), trivial⟩) ⟨rfl, rfl⟩ ?_ ?_
  · intro i x r last hx hi hr ⟨hla, he⟩
    rw [firstE] at he
    have htk : c.chain.rows.take (i + 1) = c.chain.rows.take i ++ [x] := by rw [List.take_succ, hx]; rfl
    conv => whnf
    refine brk_i (fun _ => ?_) (fun h => absurd hi (by simpa using h))
    conv => whnf
    refine elemK_nat hx ?_
    conv => whnf
    repeat' (first
      | (refine CallA_v (fn51_1 _ _ _) rfl rfl ?_; conv => whnf)
      | (refine CallA_view (fn51_1 _ _ _) rfl 1 rfl ?_; conv => whnf)
      | (refine DrawCall_v (fn51_1 _ _ _) rfl rfl ?_; conv => whnf)
      | (refine DrawCall_view (fn51_1 _ _ _) rfl 1 rfl ?_; conv => whnf)
      | (refine arith_in (wrap_i64 (by (try dsimp only); omega)) ?_; conv => whnf)
      | (refine brk_i (fun h => ?_) (fun h => ?_) <;> conv => whnf))
    all_goals first
      | (refine RetA_view 0 rfl ⟨⟨?_, rfl⟩, rfl⟩; rw [he]; grind [rowE, packD, tri])
      | (rw [if_pos (by grind [rowE]), ← htk] at he; exact ⟨x, ⟨by rw [htk]; simp [lastR], he⟩, (Wk.sub ⟨(by first | rfl | (simp only [List.length_map]; rfl) | simp [PX.get]), (by first | rfl | (simp only [List.length_map]; rfl) | simp [PX.get]), (by first | rfl | (simp only [List.length_map]; rfl) | simp [PX.get]), (by first | rfl | (simp only [List.length_map]; rfl) | simp [PX.get]), (by first | rfl | (simp only [List.length_map]; rfl) | simp [PX.get]), trivial⟩ ⟨(by first | rfl | (simp only [List.length_map]; rfl) | simp [PX.get]), (by first | rfl | (simp only [List.length_map]; rfl) | simp [PX.get]), trivial⟩)⟩)
  intro last ⟨_, he⟩
  rw [List.take_length, firstE] at he
  rw [he]
  simp only [if_true]
  conv => whnf
  refine brk_i (fun h => absurd h (by simp)) (fun _ => ?_)
  conv => whnf
  repeat' (first
    | (refine CallA_v (fn51_1 _ _ _) rfl rfl ?_; conv => whnf)
    | (refine CallA_view (fn51_1 _ _ _) rfl 1 rfl ?_; conv => whnf)
    | (refine DrawCall_v (fn51_1 _ _ _) rfl rfl ?_; conv => whnf)
    | (refine DrawCall_view (fn51_1 _ _ _) rfl 1 rfl ?_; conv => whnf)
    | (refine CallA_v (fn51_3 _ _ _ _ _) rfl rfl ?_; conv => whnf)
    | (refine CallA_view (fn51_3 _ _ _ _ _) rfl 1 rfl ?_; conv => whnf)
    | (refine DrawCall_v (fn51_3 _ _ _ _ _) rfl rfl ?_; conv => whnf)
    | (refine DrawCall_view (fn51_3 _ _ _ _ _) rfl 1 rfl ?_; conv => whnf)
    | (refine CallA_v (fn48 c.chain.shots 80 [.ref c.cells] (fun s => decide (s.set > c.day)) (by omega) (fun y _ => fn52 y c)) rfl rfl ?_; conv => whnf)
    | (refine CallA_view (fn48 c.chain.shots 80 [.ref c.cells] (fun s => decide (s.set > c.day)) (by omega) (fun y _ => fn52 y c)) rfl 1 rfl ?_; conv => whnf)
    | (refine DrawCall_v (fn48 c.chain.shots 80 [.ref c.cells] (fun s => decide (s.set > c.day)) (by omega) (fun y _ => fn52 y c)) rfl rfl ?_; conv => whnf)
    | (refine DrawCall_view (fn48 c.chain.shots 80 [.ref c.cells] (fun s => decide (s.set > c.day)) (by omega) (fun y _ => fn52 y c)) rfl 1 rfl ?_; conv => whnf)
    | (refine arith_in (wrap_i64 (by (try dsimp only); omega)) ?_; conv => whnf)
    | (refine brk_i (fun h => ?_) (fun h => ?_) <;> conv => whnf))
  all_goals first
    | (refine RetA_view 0 rfl ⟨⟨?_, rfl⟩, rfl⟩; grind [restE, packD, tri])
    | skip
  rename_i h1 h2 h3 h4 h5
  have hw : c.weathers.length ≤ 6 := by
    have : inB (c.weathers.length : Nat) 1 6 = true := by simp_all
    simp only [inB, Bool.and_eq_true, decide_eq_true_eq] at this
    omega
  have hE : restE c = (if (firstE weatherE [] c.weathers 0).2 = 0 then (0, 0, 0) else (6, (firstE weatherE [] c.weathers 0).1, (firstE weatherE [] c.weathers 0).2)) := by
    apply restE_end <;> simp_all
  rw [hE]
  refine LoopA_i (T := tys) tysOk (by exact drawsB_spec mixed tysOk (by decide +kernel)) c.weathers (fun i (_ : Unit) => ⟨[(125, .d (weathersD c.weathers)), (126, .d (i64 c.weathers.length)), (127, .d (i64 i))], [], st⟩) (fun i r _ => firstE weatherE [] c.weathers 0 = firstE weatherE (c.weathers.take i) r i) ()
    (Wk.sub ⟨(by first | rfl | (simp only [List.length_map]; rfl) | simp [PX.get]), (by first | rfl | (simp only [List.length_map]; rfl) | simp [PX.get]), (by first | rfl | (simp only [List.length_map]; rfl) | simp [PX.get]), trivial⟩ trivial) rfl ?_ ?_
  · intro i x r _ hx hi hr he
    rw [firstE] at he
    have htk : c.weathers.take (i + 1) = c.weathers.take i ++ [x] := by rw [List.take_succ, hx]; rfl
    conv => whnf
    refine brk_i (fun _ => ?_) (fun h => absurd hi (by simpa using h))
    conv => whnf
    refine elemK_nat hx ?_
    conv => whnf
    repeat' (first
      | (refine CallA_v (fn51_2 _ _ _ _) rfl rfl ?_; conv => whnf)
      | (refine CallA_view (fn51_2 _ _ _ _) rfl 1 rfl ?_; conv => whnf)
      | (refine DrawCall_v (fn51_2 _ _ _ _) rfl rfl ?_; conv => whnf)
      | (refine DrawCall_view (fn51_2 _ _ _ _) rfl 1 rfl ?_; conv => whnf)
      | (refine CallA_v (fn53_4 _ _ _ _ _ _ _ _) rfl rfl ?_; conv => whnf)
      | (refine CallA_view (fn53_4 _ _ _ _ _ _ _ _) rfl 1 rfl ?_; conv => whnf)
      | (refine DrawCall_v (fn53_4 _ _ _ _ _ _ _ _) rfl rfl ?_; conv => whnf)
      | (refine DrawCall_view (fn53_4 _ _ _ _ _ _ _ _) rfl 1 rfl ?_; conv => whnf)
      | (refine arith_in (wrap_i64 (by (try dsimp only); omega)) ?_; conv => whnf)
      | (refine brk_i (fun h => ?_) (fun h => ?_) <;> conv => whnf))
    all_goals first
      | (refine RetA_view 0 rfl ⟨⟨?_, rfl⟩, rfl⟩; rw [he]; grind [weatherE, packD, tri])
      | (rw [if_pos (by grind [weatherE]), ← htk] at he; exact ⟨(), he, (Wk.sub ⟨(by first | rfl | (simp only [List.length_map]; rfl) | simp [PX.get]), (by first | rfl | (simp only [List.length_map]; rfl) | simp [PX.get]), (by first | rfl | (simp only [List.length_map]; rfl) | simp [PX.get]), trivial⟩ trivial)⟩)
  · intro _ he
    rw [List.take_length, firstE] at he
    rw [he]
    conv => whnf
    refine brk_i (fun h => absurd h (by simp)) (fun _ => ?_)
    conv => whnf
    exact RetA_view 0 rfl ⟨⟨rfl, rfl⟩, rfl⟩
end Go.PX

namespace Go.PX
open Go.Proofs

theorem spread_one (lo hi : Int) (s : Span) : spread lo hi [s] 0 = if inB s.lo lo hi && inB s.hi lo hi then (if s.lo > s.hi then 2 else 0) else 7 := by
  simp [spread]

theorem gaugesF_some (set : Int) : ∀ (d : Int) (l : List Gauge), gaugesF set (some d) l = gaugesL set d l
  | d, [] => rfl
  | d, g :: r => by
    simp only [gaugesF, gaugesL, gaugesF_some set g.day r, decide_eq_true_eq]

theorem gaugesF_none (set : Int) : ∀ (l : List Gauge), gaugesF set none l = gaugesL set set l
  | [] => rfl
  | g :: r => by
    simp only [gaugesF, gaugesL, gaugesF_some set g.day r]
    by_cases h : (inB g.day set 40000 && inB g.shown 0 60000) = true
    · have : ¬ g.day < set := by
        simp only [inB, Bool.and_eq_true, decide_eq_true_eq] at h; omega
      simp [h, this]
    · simp [h]

theorem shotF_eq (s : Shot) : shotF s = checkF s := by
  unfold shotF checkF
  rw [spread_one, spread_one, gaugesF_none]
  grind

theorem weatherF_eq (b : List Weather) (w : Weather) : weatherF w = weatherE b w := by
  unfold weatherF weatherErrs weatherE
  simp only [worstErr, spread_one]
  grind

theorem shotE_eq (b : List Shot) (x : Shot) : shotE b x = if freshF x.name (b.map (·.name)) = 0 then shotF x else freshF x.name (b.map (·.name)) := by
  rw [shotF_eq]
  unfold shotE freshF
  simp only [List.any_map]
  have : ((fun y => decide (y = x.name)) ∘ fun s : Shot => s.name) = fun y : Shot => decide (y.name = x.name) := rfl
  rw [this]
  grind

/-- The part, the index and the error of a chain. -/
def chainE (c : Chain) : Int × Int × Int :=
  if plainF c = 0 then
    (let p := firstE shotE [] c.shots 0
     if p.2 = 0 then (let p := firstE rowE [] c.rows 0
      if p.2 = 0 then (0, 0, 0) else (3, p.1, p.2)) else (2, p.1, p.2))
  else (1, 0, plainF c)

theorem plainF_alt (c : Chain) : plainF c = if inB c.shots.length 1 7 && inB c.rows.length 1 6 then (if inB c.long 1 50 && (inB c.heavy 0 200 && inB c.err 0 2000) then spread 0 200000 [c.hold] 0 else 7) else 3 := by
  unfold plainF
  rw [spread_one]
  grind

theorem lastR_take {l : List Row} {i : Nat} {p : Row} (hi : i ≠ 0) (h : l[i - 1]? = some p) : lastR (l.take i) = p := by
  have : i = (i - 1) + 1 := by omega
  rw [this, List.take_succ, h]
  simp [lastR]

theorem prev_elem {l : List Row} {i : Nat} {p : Row} (hi : i ≠ 0) (h : l[i - 1]? = some p) : 0 ≤ (i : Int) - 1 ∧ (l.map Row.cells)[((i : Int) - 1).toNat]? = some p.cells := by
  have : ((i : Int) - 1).toNat = i - 1 := by omega
  rw [this]
  exact ⟨by omega, by simp [h]⟩

theorem fn54 (c : Chain) : FnV Tryz.prog 82 [c.d] (tri (chainE c)) := by
  refine fnV_of mixed tysOk Tryz.func82 rfl (ft := ft82) 1 (by decide +kernel) (by rfl) fun {σ} Y st => ?_
  conv => whnf
  repeat' (first
    | (refine CallA_v (fn55 _ _ _) rfl rfl ?_; conv => whnf)
    | (refine CallA_view (fn55 _ _ _) rfl 1 rfl ?_; conv => whnf)
    | (refine DrawCall_v (fn55 _ _ _) rfl rfl ?_; conv => whnf)
    | (refine DrawCall_view (fn55 _ _ _) rfl 1 rfl ?_; conv => whnf)
    | (refine CallA_v (fn90 c.hold 0 200000) rfl rfl ?_; conv => whnf)
    | (refine CallA_view (fn90 c.hold 0 200000) rfl 1 rfl ?_; conv => whnf)
    | (refine DrawCall_v (fn90 c.hold 0 200000) rfl rfl ?_; conv => whnf)
    | (refine DrawCall_view (fn90 c.hold 0 200000) rfl 1 rfl ?_; conv => whnf)
    | (refine arith_in (wrap_i64 (by (try dsimp only); omega)) ?_; conv => whnf)
    | (refine brk_i (fun h => ?_) (fun h => ?_) <;> conv => whnf))
  all_goals first
    | (refine RetA_view 0 rfl ⟨⟨?_, rfl⟩, rfl⟩; rw [chainE, plainF_alt]; grind [packD, tri])
    | skip
  have h0 : plainF c = 0 := by rw [plainF_alt]; simp_all
  obtain ⟨hl1, hl2⟩ := plain_lens h0
  have hE : chainE c = (if (firstE shotE [] c.shots 0).2 = 0 then (if (firstE rowE [] c.rows 0).2 = 0 then (0, 0, 0) else (3, (firstE rowE [] c.rows 0).1, (firstE rowE [] c.rows 0).2)) else (2, (firstE shotE [] c.shots 0).1, (firstE shotE [] c.shots 0).2)) := by simp [chainE, h0]
  rw [hE]
  refine LoopA_i (T := tys) tysOk (by exact drawsB_spec mixed tysOk (by decide +kernel)) c.shots (fun i (_ : Unit) => ⟨[(1, .ptr 1 0), (6, .sl 68 1 0 i), (7, .d (i64 i))], [(1, .box (.dd c.cells)), (68, .arr 1 (.dd (((c.shots.take i).map (·.name)).map fun s => [.str s])))], st⟩) (fun i r _ => firstE shotE [] c.shots 0 = firstE shotE (c.shots.take i) r i) ()
    ((Wk.born 6 68 1 rfl rfl rfl).trans (Wk.sub ⟨(by first | rfl | (simp only [List.length_map]; rfl) | simp [PX.get]), (by first | rfl | (simp only [List.length_map]; rfl) | simp [PX.get]), (by first | rfl | (simp only [List.length_map]; rfl) | simp [PX.get]), trivial⟩ ⟨(by first | rfl | (simp only [List.length_map]; rfl) | simp [PX.get]), (by first | rfl | (simp only [List.length_map]; rfl) | simp [PX.get]), trivial⟩)) rfl ?_ ?_
  · intro i x r _ hx hi hr he
    rw [firstE] at he
    have htk : c.shots.take (i + 1) = c.shots.take i ++ [x] := by rw [List.take_succ, hx]; rfl
    have hE := shotE_eq (c.shots.take i) x
    conv => whnf
    refine brk_i (fun _ => ?_) (fun h => absurd hi (by simpa using h))
    conv => whnf
    refine elemK_nat hx ?_
    conv => whnf
    refine CallA_view (ds := [.str x.name, strsD ((c.shots.take i).map (·.name))]) (fn91 x.name ((c.shots.take i).map (·.name)) (by simp; omega)) rfl 1 (viewL_cons rfl (viewL_cons (viewV_sl rfl (by simp; omega)) rfl)) ?_
    conv => whnf
    refine elemK_nat hx ?_
    conv => whnf
    refine ownK_whole rfl ?_
    conv => whnf
    refine ownK.mk (by simp [Els.len]; omega) ?_
    conv => whnf
    refine chk_i (by simp [Els.len, Els.part, Els.cons, V.cells]; omega) ?_
    conv => whnf
    have hmin : min i c.shots.length = i := by omega
    generalize freshF x.name ((c.shots.take i).map (·.name)) = F at hE ⊢
    have next : ∀ {st' : St σ}, shotE (c.shots.take i) x = 0 → Wk st' ⟨[(1, .ptr 1 0), (6, .sl 68 1 0 (i + 1)), (7, .d (i64 (i + 1 : Nat)))], [(1, .box (.dd c.cells)), (68, .arr 1 (.dd (((c.shots.take i).map (·.name)).map (fun s => [D.str s]) ++ [[.str x.name]])))], st⟩ →
        ∃ acc' : Unit, firstE shotE [] c.shots 0 = firstE shotE (c.shots.take (i + 1)) r ((i + 1 : Nat) : Int) ∧ Wk st' ⟨[(1, .ptr 1 0), (6, .sl 68 1 0 (i + 1)), (7, .d (i64 (i + 1 : Nat)))], [(1, .box (.dd c.cells)), (68, .arr 1 (.dd (((c.shots.take (i + 1)).map (·.name)).map fun s => [.str s])))], st⟩ := by
      intro st' hs hw
      rw [if_pos hs, ← htk] at he
      refine ⟨(), he, ?_⟩
      rw [htk]
      simpa using hw
    refine brk_i (fun h2 => ?_) (fun h2 => ?_)
    · have h2 : F = 0 := by simpa using h2
      rw [if_pos h2] at hE
      conv => whnf
      refine elemK_nat hx ?_
      conv => whnf
      refine CallA_v (fn92 x) rfl rfl ?_
      conv => whnf
      refine brk_i (fun h3 => ?_) (fun h3 => ?_)
      · have h3 : shotF x ≠ 0 := by simpa using h3
        conv => whnf
        refine RetA_view 0 rfl ⟨⟨?_, rfl⟩, rfl⟩
        rw [he, hE]
        simp [h3, packD, tri]
      · have h3 : shotF x = 0 := by simpa using h3
        conv => whnf
        refine arith_in (wrap_i64 (by (try dsimp only); omega)) ?_
        conv => whnf
        exact next (by rw [hE, h3]) (Wk.sub ⟨rfl, by simp [PX.get, Els.len, Els.part, Els.cons, V.cells, hmin], rfl, trivial⟩ ⟨rfl, by simp [PX.get, Els.app, Els.part, Els.cons, V.cells, hmin, List.take_take], trivial⟩)
    · have h2 : F ≠ 0 := by simpa using h2
      rw [if_neg h2] at hE
      conv => whnf
      refine brk_i (fun h3 => ?_) (fun h3 => absurd h2 (by simpa using h3))
      conv => whnf
      refine RetA_view 0 rfl ⟨⟨?_, rfl⟩, rfl⟩
      rw [he, hE]
      simp [h2, packD, tri]
  intro _ he
  rw [List.take_length, firstE] at he
  rw [he]
  simp only [if_true]
  conv => whnf
  refine brk_i (fun h => absurd h (by simp)) (fun _ => ?_)
  conv => whnf
  refine LoopA_i (T := tys) tysOk (by exact drawsB_spec mixed tysOk (by decide +kernel)) c.rows (fun i (_ : Unit) => ⟨[(1, .ptr 1 0), (9, .d (i64 i))], [(1, .box (.dd c.cells))], st⟩) (fun i r _ => firstE rowE [] c.rows 0 = firstE rowE (c.rows.take i) r i) ()
    (Wk.sub ⟨(by first | rfl | (simp only [List.length_map]; rfl) | simp [PX.get]), (by first | rfl | (simp only [List.length_map]; rfl) | simp [PX.get]), trivial⟩ ⟨(by first | rfl | (simp only [List.length_map]; rfl) | simp [PX.get]), trivial⟩) rfl ?_ ?_
  · intro i x r _ hx hi hr he
    rw [firstE] at he
    have htk : c.rows.take (i + 1) = c.rows.take i ++ [x] := by rw [List.take_succ, hx]; rfl
    conv => whnf
    refine brk_i (fun _ => ?_) (fun h => absurd hi (by simpa using h))
    conv => whnf
    refine elemK_nat hx ?_
    conv => whnf
    repeat' (first
      | (refine CallA_v (fn55 _ _ _) rfl rfl ?_; conv => whnf)
      | (refine CallA_view (fn55 _ _ _) rfl 1 rfl ?_; conv => whnf)
      | (refine DrawCall_v (fn55 _ _ _) rfl rfl ?_; conv => whnf)
      | (refine DrawCall_view (fn55 _ _ _) rfl 1 rfl ?_; conv => whnf)
      | (refine arith_in (wrap_i64 (by (try dsimp only); omega)) ?_; conv => whnf)
      | (refine brk_i (fun h => ?_) (fun h => ?_) <;> conv => whnf))
    all_goals first
      | (refine RetA_view 0 rfl ⟨⟨?_, rfl⟩, rfl⟩; rw [he]; grind [rowE, packD, tri])
      | skip
    · rename_i k1 k2
      have hi0 : i ≠ 0 := by simp at h; omega
      have hp := List.getElem?_eq_getElem (l := c.rows) (i := i - 1) (by omega)
      generalize c.rows[i - 1] = p at hp
      have hla := lastR_take hi0 hp
      repeat' (first
        | (refine CallA_v (fn55 _ _ _) rfl rfl ?_; conv => whnf)
        | (refine CallA_view (fn55 _ _ _) rfl 1 rfl ?_; conv => whnf)
        | (refine DrawCall_v (fn55 _ _ _) rfl rfl ?_; conv => whnf)
        | (refine DrawCall_view (fn55 _ _ _) rfl 1 rfl ?_; conv => whnf)
        | (refine elemK_i p.cells (prev_elem hi0 hp) ?_; conv => whnf)
        | (refine arith_in (wrap_i64 (by (try dsimp only); omega)) ?_; conv => whnf)
        | (refine brk_i (fun h => ?_) (fun h => ?_) <;> conv => whnf))
      all_goals first
        | (refine RetA_view 0 rfl ⟨⟨?_, rfl⟩, rfl⟩; rw [he]; grind [rowE, packD, tri])
        | (rw [if_pos (by grind [rowE]), ← htk] at he; exact ⟨(), he, (Wk.sub ⟨(by first | rfl | (simp only [List.length_map]; rfl) | simp [PX.get]), (by first | rfl | (simp only [List.length_map]; rfl) | simp [PX.get]), trivial⟩ ⟨(by first | rfl | (simp only [List.length_map]; rfl) | simp [PX.get]), trivial⟩)⟩)
    · rename_i k1 k2
      have hi0 : i = 0 := by simp at h; omega
      subst hi0
      rw [if_pos (by simp [rowE, lastR]; simp [inB] at k1 k2; simp [inB, k1, k2]; omega), ← htk] at he
      exact ⟨(), he, (Wk.sub ⟨(by first | rfl | (simp only [List.length_map]; rfl) | simp [PX.get]), (by first | rfl | (simp only [List.length_map]; rfl) | simp [PX.get]), trivial⟩ ⟨(by first | rfl | (simp only [List.length_map]; rfl) | simp [PX.get]), trivial⟩)⟩
  · intro _ he
    rw [List.take_length, firstE] at he
    rw [he]
    conv => whnf
    refine brk_i (fun h => absurd h (by simp)) (fun _ => ?_)
    conv => whnf
    exact RetA_view 0 rfl ⟨⟨rfl, rfl⟩, rfl⟩
end Go.PX

namespace Go.PX
open Go.Proofs

theorem checkC_alt (c : Case) : checkC c = if (chainE c.chain).2.2 = 0 then restE c else chainE c.chain := by
  unfold checkC chainE rowsE
  by_cases h0 : plainF c.chain = 0
  · simp only [h0, if_true]
    grind
  · simp [h0]

theorem chainE_lens {c : Chain} (h : (chainE c).2.2 = 0) : c.shots.length ≤ 7 ∧ c.rows.length ≤ 6 := by
  apply plain_lens
  unfold chainE at h
  by_cases h0 : plainF c = 0
  · exact h0
  · rw [if_neg h0] at h; exact h

theorem fn14 (c : Case) : FnV Tryz.prog 48 [c.d] (tri (checkC c)) := by
  refine fnV_of mixed tysOk Tryz.func48 rfl (ft := ft48) 1 (by decide +kernel) (by rfl) fun {σ} Y st => ?_
  conv => whnf
  refine CallA_v (ds := [c.chain.d]) (fn54 c.chain) rfl rfl ?_
  rw [checkC_alt]
  have hlen := chainE_lens (c := c.chain)
  generalize chainE c.chain = q at hlen ⊢
  obtain ⟨q1, q2, q3⟩ := q
  conv => whnf
  refine brk_i (fun h0 => ?_) (fun h0 => ?_)
  · conv => whnf
    refine RetA_view 0 rfl ⟨⟨?_, rfl⟩, rfl⟩
    have h0 : q3 ≠ 0 := by simpa using h0
    simp [h0, packD, tri]
  have h0 : q3 = 0 := by simpa using h0
  rw [if_pos h0]
  obtain ⟨hl1, hl2⟩ := hlen h0
  conv => whnf
  repeat' (first
    | (refine CallA_v (fn55 _ _ _) rfl rfl ?_; conv => whnf)
    | (refine CallA_view (fn55 _ _ _) rfl 1 rfl ?_; conv => whnf)
    | (refine DrawCall_v (fn55 _ _ _) rfl rfl ?_; conv => whnf)
    | (refine DrawCall_view (fn55 _ _ _) rfl 1 rfl ?_; conv => whnf)
    | (refine arith_in (wrap_i64 (by (try dsimp only); omega)) ?_; conv => whnf)
    | (refine brk_i (fun h => ?_) (fun h => ?_) <;> conv => whnf))
  all_goals first
    | (refine RetA_view 0 rfl ⟨⟨?_, rfl⟩, rfl⟩; grind [restE, packD, tri])
    | skip
  refine LoopA_i (T := tys) tysOk (by exact drawsB_spec mixed tysOk (by decide +kernel)) c.chain.shots (fun i (_ : Unit) => ⟨[(1, .ptr 1 0), (9, .d (i64 i))], [(1, .box (.dd c.cells))], st⟩) (fun i r _ => (c.chain.shots.any fun s => decide (s.set > c.day)) = r.any fun s => decide (s.set > c.day)) ()
    (Wk.sub ⟨(by first | rfl | (simp only [List.length_map]; rfl) | simp [PX.get]), (by first | rfl | (simp only [List.length_map]; rfl) | simp [PX.get]), trivial⟩ ⟨(by first | rfl | (simp only [List.length_map]; rfl) | simp [PX.get]), trivial⟩) rfl ?_ ?_
  · intro i x r _ hx hi hr he
    rw [List.any_cons] at he
    conv => whnf
    refine brk_i (fun _ => ?_) (fun h => absurd hi (by simpa using h))
    conv => whnf
    refine elemK_nat hx ?_
    conv => whnf
    refine brk_i (fun h1 => ?_) (fun h1 => ?_)
    · conv => whnf
      refine RetA_view 0 rfl ⟨⟨?_, rfl⟩, rfl⟩
      have h1 : x.set > c.day := by simpa using h1
      rw [decide_eq_true h1, Bool.true_or] at he
      simp_all [restE, packD, tri]
    · conv => whnf
      refine arith_in (wrap_i64 (by (try dsimp only); omega)) ?_
      conv => whnf
      have h1 : ¬ x.set > c.day := by simpa using h1
      rw [decide_eq_false h1, Bool.false_or] at he
      exact ⟨(), he, (Wk.sub ⟨(by first | rfl | (simp only [List.length_map]; rfl) | simp [PX.get]), (by first | rfl | (simp only [List.length_map]; rfl) | simp [PX.get]), trivial⟩ ⟨(by first | rfl | (simp only [List.length_map]; rfl) | simp [PX.get]), trivial⟩)⟩
  intro _ hany
  replace hany : (c.chain.shots.any fun s => decide (s.set > c.day)) = false := hany
  conv => whnf
  refine brk_i (fun h => absurd h (by simp)) (fun _ => ?_)
  conv => whnf
  repeat' (first
    | (refine CallA_v (fn55 _ _ _) rfl rfl ?_; conv => whnf)
    | (refine CallA_view (fn55 _ _ _) rfl 1 rfl ?_; conv => whnf)
    | (refine DrawCall_v (fn55 _ _ _) rfl rfl ?_; conv => whnf)
    | (refine DrawCall_view (fn55 _ _ _) rfl 1 rfl ?_; conv => whnf)
    | (refine arith_in (wrap_i64 (by (try dsimp only); omega)) ?_; conv => whnf)
    | (refine brk_i (fun h => ?_) (fun h => ?_) <;> conv => whnf))
  all_goals first
    | (refine RetA_view 0 rfl ⟨⟨?_, rfl⟩, rfl⟩; rw [restE, hany]; grind [packD, tri])
    | skip
  have hw : c.weathers.length ≤ 6 := by
    have : inB (c.weathers.length : Nat) 1 6 = true := by simp_all
    simp only [inB, Bool.and_eq_true, decide_eq_true_eq] at this
    omega
  have hE : restE c = (if (firstE weatherE [] c.weathers 0).2 = 0 then (0, 0, 0) else (6, (firstE weatherE [] c.weathers 0).1, (firstE weatherE [] c.weathers 0).2)) := by
    refine restE_end ?_ ?_ ?_ hany ?_ <;> simp_all
  rw [hE]
  refine LoopA_i (T := tys) tysOk (by exact drawsB_spec mixed tysOk (by decide +kernel)) c.weathers (fun i (_ : Unit) => ⟨[(1, .ptr 1 0), (10, .d (i64 i))], [(1, .box (.dd c.cells))], st⟩) (fun i r _ => firstE weatherE [] c.weathers 0 = firstE weatherE (c.weathers.take i) r i) ()
    (Wk.sub ⟨(by first | rfl | (simp only [List.length_map]; rfl) | simp [PX.get]), (by first | rfl | (simp only [List.length_map]; rfl) | simp [PX.get]), trivial⟩ ⟨(by first | rfl | (simp only [List.length_map]; rfl) | simp [PX.get]), trivial⟩) rfl ?_ ?_
  · intro i x r _ hx hi hr he
    rw [firstE, ← weatherF_eq] at he
    have htk : c.weathers.take (i + 1) = c.weathers.take i ++ [x] := by rw [List.take_succ, hx]; rfl
    conv => whnf
    refine brk_i (fun _ => ?_) (fun h => absurd hi (by simpa using h))
    conv => whnf
    refine elemK_nat hx ?_
    conv => whnf
    refine CallA_v (fn56 x) rfl rfl ?_
    conv => whnf
    refine brk_i (fun h1 => ?_) (fun h1 => ?_)
    · conv => whnf
      refine RetA_view 0 rfl ⟨⟨?_, rfl⟩, rfl⟩
      have h1 : weatherF x ≠ 0 := by simpa using h1
      rw [he]
      simp [h1, packD, tri]
    · conv => whnf
      refine arith_in (wrap_i64 (by (try dsimp only); omega)) ?_
      conv => whnf
      have h1 : weatherF x = 0 := by simpa using h1
      rw [if_pos h1, ← htk] at he
      exact ⟨(), he, (Wk.sub ⟨(by first | rfl | (simp only [List.length_map]; rfl) | simp [PX.get]), (by first | rfl | (simp only [List.length_map]; rfl) | simp [PX.get]), trivial⟩ ⟨(by first | rfl | (simp only [List.length_map]; rfl) | simp [PX.get]), trivial⟩)⟩
  · intro _ he
    rw [List.take_length, firstE] at he
    rw [he]
    conv => whnf
    refine brk_i (fun h => absurd h (by simp)) (fun _ => ?_)
    conv => whnf
    exact RetA_view 0 rfl ⟨⟨rfl, rfl⟩, rfl⟩
end Go.PX
