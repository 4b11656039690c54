import Derived.Test.YtifbnniijibfgaaPxN
set_option linter.all false
set_option maxRecDepth 10000
namespace Go.PX
open Go.Proofs

theorem mul_bd {a b : Int} (A B : Nat) (ha : -(A : Int) ≤ a ∧ a ≤ A) (hb : -(B : Int) ≤ b ∧ b ≤ B) : -((A * B : Nat) : Int) ≤ a * b ∧ a * b ≤ ((A * B : Nat) : Int) := by
  have h1 : a.natAbs ≤ A := by omega
  have h2 : b.natAbs ≤ B := by omega
  have h3 : (a * b).natAbs ≤ A * B := by rw [Int.natAbs_mul]; exact Nat.mul_le_mul h1 h2
  omega

structure Shot where
  name : ByteArray
  links : Int
  set : Int
  new : Span
  wear : Span
  gauges : List Gauge
def Shot.cells (s : Shot) : List D := [.str s.name, i64 s.links, i64 s.set, i64 s.new.lo, i64 s.new.hi, i64 s.wear.lo, i64 s.wear.hi, gaugesD s.gauges]
def Shot.d (s : Shot) : D := .agg s.cells
def Gauge.d (g : Gauge) : D := .agg g.cells

/-- A number of everyday size. -/
def bd (n : Int) : Prop := -1000000000 ≤ n ∧ n ≤ 1000000000

def onF (set fresh wear day : Int) : Int := max 0 (fresh - wear * (day - set))

theorem fn30 (s : Shot) (fresh wear day : Int) (h1 : bd fresh) (h2 : bd wear) (h3 : bd day) (h4 : bd s.set) : FnV Try.prog 30 [s.d, i64 fresh, i64 wear, i64 day] (i64 (onF s.set fresh wear day)) := by
  refine fnV_of mixed tysOk Try.func30 rfl (ft := ft30) 4 (by decide +kernel) (by rfl) fun {σ} Y st => ?_
  unfold bd at *
  have hm := mul_bd (a := wear) (b := day - s.set) 1000000000 2000000000 (by omega) (by omega)
  conv => whnf
  refine arith_in (wrap_i64 (by omega)) ?_
  conv => whnf
  refine arith_in (wrap_i64 (by omega)) ?_
  conv => whnf
  refine arith_in (wrap_i64 (by omega)) ?_
  conv => whnf
  exact RetA_view 0 rfl ⟨⟨rfl, rfl⟩, rfl⟩

theorem onF_bd {set fresh wear day : Int} (h1 : bd fresh) (h2 : bd wear) (h3 : bd day) (h4 : bd set) : 0 ≤ onF set fresh wear day ∧ onF set fresh wear day ≤ 2000000001000000000 := by
  unfold bd at h1 h2 h3 h4
  have hm := mul_bd (a := wear) (b := day - set) 1000000000 2000000000 (by omega) (by omega)
  unfold onF; omega

theorem fn116 (s : Shot) (off : Int) (g : Gauge) (fresh wear : Int) (h1 : bd fresh) (h2 : bd wear) (h3 : bd g.day) (h4 : bd s.set) (h5 : bd g.shown) (h6 : bd off) :
    FnV Try.prog 116 [s.d, i64 off, g.d, i64 fresh, i64 wear] (.bool (inB (g.shown - onF s.set fresh wear g.day) (-off) off)) := by
  refine fnV_of mixed tysOk Try.func116 rfl (ft := ft116) 5 (by decide +kernel) (by rfl) fun {σ} Y st => ?_
  have hb := onF_bd h1 h2 h3 h4
  have h5' := h5
  have h6' := h6
  unfold bd at h5' h6'
  conv => whnf
  refine DrawCall_v (ds := [s.d, i64 fresh, i64 wear, i64 g.day]) (fn30 s fresh wear g.day h1 h2 h3 h4) rfl rfl ?_
  conv => whnf
  refine arith_in (wrap_i64 (by omega)) ?_
  conv => whnf
  refine arith_in (wrap_i64 (by omega)) ?_
  conv => whnf
  refine DrawCall_v (fn55 _ _ _) rfl rfl ?_
  conv => whnf
  refine RetA_view 0 rfl ⟨⟨?_, rfl⟩, rfl⟩
  simp [packD]

theorem fn101 (n b : Int) (hn : 0 ≤ n ∧ n ≤ 4000000000000000000) (hb : 0 < b ∧ b ≤ 1000000) : FnV Try.prog 101 [i64 n, i64 b] (i64 ((n + b - 1).tdiv b)) := by
  refine fnV_of mixed tysOk Try.func101 rfl (ft := ft101) 2 (by decide +kernel) (by rfl) fun {σ} Y s => ?_
  conv => whnf
  refine arith_in (wrap_i64 (by omega)) ?_
  conv => whnf
  refine arith_in (wrap_i64 (by omega)) ?_
  conv => whnf
  refine chk_i (by simp; omega) ?_
  conv => whnf
  refine arith_in (wrap_i64 ?_) ?_
  · have h1 : 0 ≤ (n + b - 1).tdiv b := Int.tdiv_nonneg (by omega) (by omega)
    have h2 : (n + b - 1).tdiv b ≤ n + b - 1 := by
      rw [Int.tdiv_eq_ediv_of_nonneg (by omega)]; exact Int.ediv_le_self _ (by omega)
    omega
  conv => whnf
  exact RetA_view 0 rfl ⟨⟨rfl, rfl⟩, rfl⟩

def strongF (thick : Int) : Int := (thick * thick).tdiv 20000

theorem fn67 (n : Int) (hn : bd n) : FnV Try.prog 67 [i64 n] (i64 (strongF n)) := by
  refine fnV_of mixed tysOk Try.func67 rfl (ft := ft67) 1 (by decide +kernel) (by rfl) fun {σ} Y s => ?_
  unfold bd at hn
  have hm := mul_bd (a := n) (b := n) 1000000000 1000000000 (by omega) (by omega)
  have h0 : 0 ≤ n * n := by
    rcases Int.le_total 0 n with h | h
    · exact Int.mul_nonneg h h
    · exact Int.mul_nonneg_of_nonpos_of_nonpos h h
  have hq : 0 ≤ (n * n).tdiv 20000 ∧ (n * n).tdiv 20000 ≤ n * n := ⟨Int.tdiv_nonneg h0 (by omega), by
    rw [Int.tdiv_eq_ediv_of_nonneg h0]; exact Int.ediv_le_self _ h0⟩
  conv => whnf
  refine arith_in (wrap_i64 (by omega)) ?_
  conv => whnf
  refine arith_in (wrap_i64 (by omega)) ?_
  conv => whnf
  exact RetA_view 0 rfl ⟨⟨rfl, rfl⟩, rfl⟩

theorem fn69 (n : Int) (hn : bd n) : FnV Try.prog 69 [i64 n] (i64 (strongF n)) := by
  refine fnV_of mixed tysOk Try.func69 rfl (ft := ft69) 1 (by decide +kernel) (by rfl) fun {σ} Y s => ?_
  unfold bd at hn
  have hm := mul_bd (a := n) (b := n) 1000000000 1000000000 (by omega) (by omega)
  have h0 : 0 ≤ n * n := by
    rcases Int.le_total 0 n with h | h
    · exact Int.mul_nonneg h h
    · exact Int.mul_nonneg_of_nonpos_of_nonpos h h
  have hq : 0 ≤ (n * n).tdiv 20000 ∧ (n * n).tdiv 20000 ≤ n * n := ⟨Int.tdiv_nonneg h0 (by omega), by
    rw [Int.tdiv_eq_ediv_of_nonneg h0]; exact Int.ediv_le_self _ h0⟩
  conv => whnf
  refine arith_in (wrap_i64 (by omega)) ?_
  conv => whnf
  refine arith_in (wrap_i64 (by omega)) ?_
  conv => whnf
  exact RetA_view 0 rfl ⟨⟨rfl, rfl⟩, rfl⟩
end Go.PX

namespace Go.PX
open Go.Proofs

/-- What a gauging leaves of the numbers of New. -/
def fitStep (set off wear : Int) (p : Int × Int) (g : Gauge) : Option (Int × Int) :=
  let lost := wear * (g.day - set)
  let lo := if g.shown > off then max p.1 (g.shown - off + lost) else p.1
  let hi := min p.2 (g.shown + off + lost)
  if lo > hi then none else some (lo, hi)

def fitsF (set off wear : Int) : Int × Int → List Gauge → Option (Int × Int)
  | p, [] => some p
  | p, g :: r => match fitStep set off wear p g with
    | none => none
    | some q => fitsF set off wear q r

def fitSpan : Option (Int × Int) → Span
  | some p => ⟨p.1, p.2⟩
  | none => ⟨1, 0⟩

def gaugeOk (g : Gauge) : Prop := 0 ≤ g.day ∧ g.day ≤ 1000000 ∧ 0 ≤ g.shown ∧ g.shown ≤ 1000000

theorem fn95 (s : Shot) (off : Int) (gs : List Gauge) (wear : Int) (ho : 0 ≤ off ∧ off ≤ 1000000) (hw : 0 ≤ wear ∧ wear ≤ 1000000) (hs : 0 ≤ s.set ∧ s.set ≤ 1000000) (hn : 0 ≤ s.new.lo ∧ s.new.lo ≤ 1000000 ∧ 0 ≤ s.new.hi ∧ s.new.hi ≤ 1000000 ∧ s.new.lo ≤ s.new.hi)
    (hg : ∀ g ∈ gs, gaugeOk g) (hl : gs.length < 1000000) : FnV Try.prog 95 [s.d, i64 off, gaugesD gs, i64 wear] (fitSpan (fitsF s.set off wear (s.new.lo, s.new.hi) gs)).d := by
  refine fnV_of mixed tysOk Try.func95 rfl (ft := ft95) 4 (by decide +kernel) (by rfl) fun {σ} Y st => ?_
  conv => whnf
  refine LoopA_p (T := tys) tysOk (by exact drawsB_spec mixed tysOk (by decide +kernel)) (α := Nat × (Int × Int))
    (fun x => ⟨[(1, .d (i64 off)), (2, .d (gaugesD gs)), (3, .d (i64 wear)), (4, .ptr 4 0), (8, .ptr 8 0), (9, .ptr 9 0), (10, .d (i64 x.1))], [(4, .box (.dd s.cells)), (8, .box (.dd [i64 0, i64 0])), (9, .box (.dd [i64 x.2.1, i64 x.2.2]))], st⟩)
    (fun x => x.1 ≤ gs.length ∧ (0 ≤ x.2.1 ∧ x.2.1 ≤ x.2.2 ∧ x.2.2 ≤ 1000000) ∧ fitsF s.set off wear (s.new.lo, s.new.hi) gs = fitsF s.set off wear x.2 (gs.drop x.1)) (fun x => gs.length - x.1) (0, (s.new.lo, s.new.hi))
    (Wk.sub ⟨rfl, rfl, rfl, rfl, rfl, rfl, rfl, trivial⟩ ⟨rfl, rfl, rfl, trivial⟩) (by simp; omega) ?_
  rintro ⟨i, L0, H0⟩ ⟨hi, hb0, he⟩
  simp only at hi hb0 he
  conv => whnf
  refine brk_i (fun hb => ?_) (fun hb => ?_)
  · have hb : i < gs.length := by simpa using hb
    obtain ⟨g, hgg⟩ : ∃ g, gs[i]? = some g := ⟨_, List.getElem?_eq_getElem hb⟩
    have hd : gs.drop i = g :: gs.drop (i + 1) := by
      rw [List.drop_eq_getElem_cons hb]
      rw [List.getElem?_eq_getElem hb] at hgg
      rw [Option.some.inj hgg]
    have hgi := hg g (List.mem_of_getElem? hgg)
    unfold gaugeOk at hgi
    rw [hd, fitsF] at he
    have hlost := mul_bd (a := wear) (b := g.day - s.set) 1000000 1000000 (by omega) (by omega)
    -- how far a day is, and the two ends
    obtain ⟨lost, hlo⟩ : ∃ lost, lost = wear * (g.day - s.set) := ⟨_, rfl⟩
    have hon : ∀ x, onF s.set x wear g.day = max 0 (x - lost) := fun x => by rw [hlo]; rfl
    rw [← hlo] at hlost
    obtain ⟨least, hle⟩ : ∃ l, l = min (if g.shown > off then max L0 (g.shown - off + lost) else L0) (H0 + 1) := ⟨_, rfl⟩
    obtain ⟨great, hgr⟩ : ∃ l, l = max (least - 1) (min H0 (g.shown + off + lost)) := ⟨_, rfl⟩
    conv => whnf
    refine elemK_i g.cells (by simp [hgg]) ?_
    conv => whnf
    refine arith_in (wrap_i64 (by (try dsimp only); omega)) ?_
    conv => whnf
    refine LoopA_p (T := tys) tysOk (by exact drawsB_spec mixed tysOk (by decide +kernel)) (α := Int × Int)
      (fun x => ⟨[(1, .d (i64 off)), (2, .d (gaugesD gs)), (3, .d (i64 wear)), (4, .ptr 4 0), (8, .ptr 8 0), (9, .ptr 9 0), (10, .d (i64 i)), (11, .ptr 11 0), (12, .d (i64 x.1)), (13, .d (i64 x.2))],
        [(4, .box (.dd s.cells)), (8, .box (.dd [i64 0, i64 0])), (9, .box (.dd [i64 L0, i64 H0])), (11, .box (.dd g.cells))], st⟩)
      (fun x => L0 ≤ x.1 ∧ x.1 ≤ least ∧ least ≤ x.2 ∧ x.2 ≤ H0 + 1) (fun x => (x.2 - x.1).toNat) (L0, H0 + 1)
      (Wk.sub ⟨rfl, rfl, rfl, rfl, rfl, rfl, rfl, rfl, rfl, rfl, trivial⟩ ⟨rfl, rfl, rfl, rfl, trivial⟩) (by simp only; split at hle <;> omega) ?_
    · rintro ⟨low, high⟩ hinv
      simp only at hinv
      conv => whnf
      refine brk_i (fun hc => ?_) (fun hc => ?_)
      · have hc : low < high := by simpa using hc
        conv => whnf
        refine arith_in (wrap_i64 (by (try dsimp only); omega)) ?_
        conv => whnf
        have hmid : (low + high).tdiv 2 = (low + high) / 2 := Int.tdiv_eq_ediv_of_nonneg (by omega)
        refine arith_in (wrap_i64 (by rw [hmid]; omega)) ?_
        conv => whnf
        rw [hmid]
        obtain ⟨mid, hm⟩ : ∃ m, m = (low + high) / 2 := ⟨_, rfl⟩
        rw [← hm]
        refine DrawCall_v (ds := [s.d, i64 mid, i64 wear, i64 g.day]) (fn30 s mid wear g.day (by unfold bd; omega) (by unfold bd; omega) (by unfold bd; omega) (by unfold bd; omega)) rfl rfl ?_
        conv => whnf
        refine arith_in (wrap_i64 (by (try dsimp only); omega)) ?_
        conv => whnf
        rw [hon]
        refine brk_i (fun h1 => ?_) (fun h1 => ?_)
        · have h1 : g.shown - off ≤ max 0 (mid - lost) := by simpa using h1
          conv => whnf
          exact ⟨(low, mid), by simp only; omega, by simp only; split at hle <;> omega, Wk.sub ⟨rfl, rfl, rfl, rfl, rfl, rfl, rfl, rfl, rfl, rfl, trivial⟩ ⟨rfl, rfl, rfl, rfl, trivial⟩⟩
        · have h1 : ¬ g.shown - off ≤ max 0 (mid - lost) := by simpa using h1
          conv => whnf
          refine arith_in (wrap_i64 (by (try dsimp only); omega)) ?_
          conv => whnf
          exact ⟨(mid + 1, high), by simp only; omega, by simp only; split at hle <;> omega, Wk.sub ⟨rfl, rfl, rfl, rfl, rfl, rfl, rfl, rfl, rfl, rfl, trivial⟩ ⟨rfl, rfl, rfl, rfl, trivial⟩⟩
      · have hc : ¬ low < high := by simpa using hc
        have hlow : low = least := by omega
        conv => whnf
        refine arith_in (wrap_i64 (by (try dsimp only); omega)) ?_
        conv => whnf
        refine LoopA_p (T := tys) tysOk (by exact drawsB_spec mixed tysOk (by decide +kernel)) (α := Int × Int)
          (fun x => ⟨[(1, .d (i64 off)), (2, .d (gaugesD gs)), (3, .d (i64 wear)), (4, .ptr 4 0), (8, .ptr 8 0), (9, .ptr 9 0), (10, .d (i64 i)), (11, .ptr 11 0), (12, .d (i64 x.1)), (13, .d (i64 x.2)), (15, .d (i64 least))],
            [(4, .box (.dd s.cells)), (8, .box (.dd [i64 0, i64 0])), (9, .box (.dd [i64 L0, i64 H0])), (11, .box (.dd g.cells))], st⟩)
          (fun x => least - 1 ≤ x.1 ∧ x.1 ≤ great ∧ great ≤ x.2 ∧ x.2 ≤ H0 ∨ x.1 = least - 1 ∧ x.2 = H0 ∧ great = least - 1 ∧ H0 = least - 1) (fun x => (x.2 - x.1).toNat) (least - 1, H0)
          (Wk.sub ⟨rfl, rfl, rfl, rfl, rfl, rfl, rfl, rfl, by simp [PX.get, hlow], rfl, by simp [PX.get, hlow], trivial⟩ ⟨rfl, rfl, rfl, rfl, trivial⟩) (by simp only; omega) ?_
        rintro ⟨low2, high2⟩ hinv2
        simp only at hinv2
        conv => whnf
        refine brk_i (fun hc2 => ?_) (fun hc2 => ?_)
        · have hc2 : low2 < high2 := by simpa using hc2
          conv => whnf
          refine arith_in (wrap_i64 (by (try dsimp only); omega)) ?_
          conv => whnf
          refine arith_in (wrap_i64 (by (try dsimp only); omega)) ?_
          conv => whnf
          have hmid : (low2 + high2 + 1).tdiv 2 = (low2 + high2 + 1) / 2 := Int.tdiv_eq_ediv_of_nonneg (by omega)
          refine arith_in (wrap_i64 (by (try dsimp only); rw [hmid]; omega)) ?_
          conv => whnf
          rw [hmid]
          obtain ⟨mid, hm⟩ : ∃ m, m = (low2 + high2 + 1) / 2 := ⟨_, rfl⟩
          rw [← hm]
          refine DrawCall_v (ds := [s.d, i64 mid, i64 wear, i64 g.day]) (fn30 s mid wear g.day (by unfold bd; omega) (by unfold bd; omega) (by unfold bd; omega) (by unfold bd; omega)) rfl rfl ?_
          conv => whnf
          refine arith_in (wrap_i64 (by (try dsimp only); omega)) ?_
          conv => whnf
          rw [hon]
          refine brk_i (fun h1 => ?_) (fun h1 => ?_)
          · have h1 : max 0 (mid - lost) ≤ g.shown + off := by simpa using h1
            conv => whnf
            exact ⟨(mid, high2), by simp only; omega, by simp only; omega, Wk.sub ⟨rfl, rfl, rfl, rfl, rfl, rfl, rfl, rfl, rfl, rfl, rfl, trivial⟩ ⟨rfl, rfl, rfl, rfl, trivial⟩⟩
          · have h1 : ¬ max 0 (mid - lost) ≤ g.shown + off := by simpa using h1
            conv => whnf
            refine arith_in (wrap_i64 (by (try dsimp only); omega)) ?_
            conv => whnf
            exact ⟨(low2, mid - 1), by simp only; omega, by simp only; omega, Wk.sub ⟨rfl, rfl, rfl, rfl, rfl, rfl, rfl, rfl, rfl, rfl, rfl, trivial⟩ ⟨rfl, rfl, rfl, rfl, trivial⟩⟩
        · have hc2 : ¬ low2 < high2 := by simpa using hc2
          have hlow2 : low2 = great := by omega
          conv => whnf
          refine brk_i (fun h1 => ?_) (fun h1 => ?_)
          · have h1 : great < least := by rw [← hlow2]; simpa using h1
            have hnone : fitStep s.set off wear (L0, H0) g = none := by
              unfold fitStep
              simp only [← hlo]
              rw [if_pos]
              split at hle <;> simp_all <;> omega
            rw [hnone] at he
            simp only at he
            conv => whnf
            rw [he]
            exact RetA_view 0 rfl ⟨⟨rfl, rfl⟩, rfl⟩
          · have h1 : ¬ great < least := by rw [← hlow2]; simpa using h1
            have hsome : fitStep s.set off wear (L0, H0) g = some (least, great) := by
              unfold fitStep
              simp only [← hlo]
              rw [if_neg]
              · congr 2 <;> (split at hle <;> simp_all <;> omega)
              · split at hle <;> simp_all <;> omega
            rw [hsome] at he
            simp only at he
            conv => whnf
            refine CallA_v (ds := [s.d, i64 off, g.d, i64 least, i64 wear]) (fn116 s off g least wear (by unfold bd; omega) (by unfold bd; omega) (by unfold bd; omega) (by unfold bd; omega) (by unfold bd; omega) (by unfold bd; omega)) rfl rfl ?_
            conv => whnf
            refine brk_i (fun h2 => ?_) (fun h2 => ?_)
            · exfalso
              rw [hon] at h2
              simp only [inB, Bool.not_eq_true', Bool.and_eq_false_iff, decide_eq_false_iff_not] at h2
              split at hle <;> omega
            · conv => whnf
              refine arith_in (wrap_i64 (by (try dsimp only); omega)) ?_
              conv => whnf
              exact ⟨(i + 1, (least, great)), by simp only; omega, ⟨hb, by simp only; split at hle <;> omega, he⟩, Wk.sub ⟨rfl, rfl, rfl, rfl, rfl, rfl, rfl, trivial⟩ ⟨rfl, rfl, by simp [PX.get, hlow2, Cells.splice, V.cells], trivial⟩⟩
  · have hb : ¬ i < gs.length := by simpa using hb
    conv => whnf
    rw [List.drop_of_length_le (by omega)] at he
    simp only [fitsF] at he
    rw [he]
    exact RetA_view 0 rfl ⟨⟨rfl, rfl⟩, rfl⟩
end Go.PX

namespace Go.PX
open Go.Proofs

theorem fitStep_le {set off wear : Int} {p q : Int × Int} {g : Gauge} (h : fitStep set off wear p g = some q) : p.1 ≤ q.1 ∧ q.1 ≤ q.2 ∧ q.2 ≤ p.2 := by
  unfold fitStep at h
  by_cases hs : g.shown > off
  · simp only [hs, if_true] at h
    split at h
    · cases h
    · cases h; simp only; omega
  · simp only [hs, if_false] at h
    split at h
    · cases h
    · cases h; simp only; omega

theorem fitsF_le {set off wear : Int} : ∀ {gs : List Gauge} {p q : Int × Int}, p.1 ≤ p.2 → fitsF set off wear p gs = some q → p.1 ≤ q.1 ∧ q.1 ≤ q.2 ∧ q.2 ≤ p.2
  | [], p, q, hp, h => by simp only [fitsF, Option.some.injEq] at h; subst h; omega
  | g :: r, p, q, hp, h => by
    simp only [fitsF] at h
    split at h
    · cases h
    · rename_i p' hp'
      have h1 := fitStep_le hp'
      have h2 := fitsF_le h1.2.1 h
      omega

/-- How thick a shot can be on a day: the span so far, and whether there is any. -/
def rangeF (set off day : Int) (new : Int × Int) (gs : List Gauge) : Nat → Int → Span × Bool → Span × Bool
  | 0, _, acc => acc
  | n + 1, wear, acc => rangeF set off day new gs n (wear + 1) (match fitsF set off wear new gs with
    | none => acc
    | some f =>
      let lo := onF set f.1 wear day
      let hi := onF set f.2 wear day
      let out := if acc.2 then acc.1 else ⟨lo, hi⟩
      (⟨min out.lo lo, max out.hi hi⟩, true))

structure ShotOk (s : Shot) : Prop where
  set : 0 ≤ s.set ∧ s.set ≤ 1000000
  new : 0 ≤ s.new.lo ∧ s.new.lo ≤ 1000000 ∧ 0 ≤ s.new.hi ∧ s.new.hi ≤ 1000000 ∧ s.new.lo ≤ s.new.hi
  wear : 0 ≤ s.wear.lo ∧ s.wear.lo ≤ 1000000 ∧ 0 ≤ s.wear.hi ∧ s.wear.hi ≤ 900000

def rangeS (s : Shot) (off : Int) (gs : List Gauge) (day : Int) : Span × Bool := rangeF s.set off day (s.new.lo, s.new.hi) gs (s.wear.hi + 1 - s.wear.lo).toNat s.wear.lo (⟨0, 0⟩, false)

theorem fn60 (s : Shot) (off : Int) (gs : List Gauge) (day : Int) (ho : 0 ≤ off ∧ off ≤ 1000000) (hs : ShotOk s) (hg : ∀ g ∈ gs, gaugeOk g) (hl : gs.length < 1000000) (hday : 0 ≤ day ∧ day ≤ 1000000) :
    FnV Try.prog 60 [s.d, i64 off, gaugesD gs, i64 day] (.tup [(rangeS s off gs day).1.d, .bool (rangeS s off gs day).2]) := by
  refine fnV_of mixed tysOk Try.func60 rfl (ft := ft60) 4 (by decide +kernel) (by rfl) fun {σ} Y st => ?_
  obtain ⟨hset, hnew, hwear⟩ := hs
  conv => whnf
  refine LoopA_p (T := tys) tysOk (by exact drawsB_spec mixed tysOk (by decide +kernel)) (α := Int × (Span × Bool))
    (fun x => ⟨[(1, .d (i64 off)), (2, .d (gaugesD gs)), (3, .d (i64 day)), (4, .ptr 4 0), (8, .ptr 8 0), (10, .ptr 10 0), (11, .d (.bool x.2.2)), (12, .d (i64 x.1))], [(4, .box (.dd s.cells)), (8, .box (.dd [i64 0, i64 0])), (10, .box (.dd x.2.1.cells))], st⟩)
    (fun x => s.wear.lo ≤ x.1 ∧ x.1 ≤ max s.wear.lo (s.wear.hi + 1) ∧ rangeS s off gs day = rangeF s.set off day (s.new.lo, s.new.hi) gs (s.wear.hi + 1 - x.1).toNat x.1 x.2) (fun x => (s.wear.hi + 1 - x.1).toNat) (s.wear.lo, (⟨0, 0⟩, false))
    (Wk.sub ⟨rfl, rfl, rfl, rfl, rfl, rfl, rfl, rfl, trivial⟩ ⟨rfl, rfl, rfl, trivial⟩) (by refine ⟨by simp only; omega, by simp only; omega, rfl⟩) ?_
  rintro ⟨wear, ⟨out, some_⟩⟩ ⟨h1, h2, he⟩
  simp only at h1 h2 he
  conv => whnf
  refine brk_i (fun hb => ?_) (fun hb => ?_)
  · have hb : wear ≤ s.wear.hi := by simpa using hb
    obtain ⟨n, hn⟩ : ∃ n, (s.wear.hi + 1 - wear).toNat = n + 1 := ⟨(s.wear.hi - wear).toNat, by omega⟩
    have hn' : (s.wear.hi + 1 - (wear + 1)).toNat = n := by omega
    rw [hn, rangeF] at he
    conv => whnf
    refine CallA_v (fn95 s off gs wear ho (by omega) hset hnew hg hl) rfl rfl ?_
    conv => whnf
    cases hf : fitsF s.set off wear (s.new.lo, s.new.hi) gs with
    | none =>
      rw [hf] at he
      simp only at he
      simp only [fitSpan]
      conv => whnf
      refine arith_in (wrap_i64 (by (try dsimp only); omega)) ?_
      conv => whnf
      exact ⟨(wear + 1, (out, some_)), by simp only; omega, ⟨by simp only; omega, by simp only; omega, by simp only; rw [hn', he]⟩, Wk.sub ⟨rfl, rfl, rfl, rfl, rfl, rfl, rfl, rfl, trivial⟩ ⟨rfl, rfl, rfl, trivial⟩⟩
    | some f =>
      rw [hf] at he
      simp only at he
      simp only [fitSpan]
      obtain ⟨f1, f2⟩ := f
      have hfl := fitsF_le (by simp only; omega) hf
      simp only at hfl he
      refine brk_i (fun h3 => ?_) (fun h3 => ?_)
      · exfalso
        have h3 : f2 < f1 := of_decide_eq_true h3
        omega
      · conv => whnf
        refine DrawCall_v (ds := [s.d, i64 f1, i64 wear, i64 day]) (fn30 s f1 wear day (by unfold bd; omega) (by unfold bd; omega) (by unfold bd; omega) (by unfold bd; omega)) rfl rfl ?_
        conv => whnf
        refine DrawCall_v (ds := [s.d, i64 f2, i64 wear, i64 day]) (fn30 s f2 wear day (by unfold bd; omega) (by unfold bd; omega) (by unfold bd; omega) (by unfold bd; omega)) rfl rfl ?_
        conv => whnf
        refine brk_i (fun h4 => ?_) (fun h4 => ?_)
        · have h4 : some_ = false := by simpa using h4
          subst h4
          conv => whnf
          refine arith_in (wrap_i64 (by (try dsimp only); omega)) ?_
          conv => whnf
          exact ⟨(wear + 1, (⟨min (onF s.set f1 wear day) (onF s.set f1 wear day), max (onF s.set f2 wear day) (onF s.set f2 wear day)⟩, true)), by simp only; omega, ⟨by simp only; omega, by simp only; omega, by simp only; rw [hn', he]; rfl⟩, Wk.sub ⟨rfl, rfl, rfl, rfl, rfl, rfl, rfl, rfl, trivial⟩ ⟨rfl, rfl, rfl, trivial⟩⟩
        · have h4 : some_ = true := by simpa using h4
          subst h4
          conv => whnf
          refine arith_in (wrap_i64 (by (try dsimp only); omega)) ?_
          conv => whnf
          exact ⟨(wear + 1, (⟨min out.lo (onF s.set f1 wear day), max out.hi (onF s.set f2 wear day)⟩, true)), by simp only; omega, ⟨by simp only; omega, by simp only; omega, by simp only; rw [hn', he]; rfl⟩, Wk.sub ⟨rfl, rfl, rfl, rfl, rfl, rfl, rfl, rfl, trivial⟩ ⟨rfl, rfl, rfl, trivial⟩⟩
  · have hb : ¬ wear ≤ s.wear.hi := by simpa using hb
    conv => whnf
    rw [show (s.wear.hi + 1 - wear).toNat = 0 by omega] at he
    simp only [rangeF] at he
    rw [he]
    exact RetA_view 0 rfl ⟨⟨rfl, rfl⟩, rfl⟩
end Go.PX

namespace Go.PX
open Go.Proofs

structure Row where
  scope : Int
  holds : Int
def Row.cells (r : Row) : List D := [i64 r.scope, i64 r.holds]
def shotsD (l : List Shot) : D := .vs (l.map Shot.cells)
def rowsD (l : List Row) : D := .vs (l.map Row.cells)
structure Chain where
  shots : List Shot
  long : Int
  heavy : Int
  err : Int
  hold : Span
  rows : List Row
def Chain.cells (c : Chain) : List D := [shotsD c.shots, i64 c.long, i64 c.heavy, i64 c.err, i64 c.hold.lo, i64 c.hold.hi, rowsD c.rows]
def Chain.d (c : Chain) : D := .agg c.cells

/-- All links. -/
def linksF : List Shot → Int
  | [] => 0
  | s :: r => s.links + linksF r

theorem linksF_take {l : List Shot} {i : Nat} {s : Shot} (h : l[i]? = some s) : linksF (l.take (i + 1)) = linksF (l.take i) + s.links := by
  induction l generalizing i with
  | nil => simp at h
  | cons x r ih =>
    cases i with
    | zero => simp at h; subst h; simp [linksF]
    | succ i => simp at h; simp only [List.take_succ_cons, linksF, ih h]; omega

theorem linksF_bd {l : List Shot} (h : ∀ s ∈ l, bd s.links) (i : Nat) : -1000000000 * (i : Int) ≤ linksF (l.take i) ∧ linksF (l.take i) ≤ 1000000000 * (i : Int) := by
  induction l generalizing i with
  | nil => simp [linksF]; omega
  | cons x r ih =>
    cases i with
    | zero => simp [linksF]
    | succ i =>
      have h1 := ih (fun s hs => h s (List.mem_cons_of_mem _ hs)) i
      have h2 := h x (List.mem_cons_self ..)
      unfold bd at h2
      simp only [List.take_succ_cons, linksF]; omega

theorem fn34 (c : Chain) (hl : c.shots.length < 1000000) (hb : ∀ s ∈ c.shots, bd s.links) : FnV Try.prog 34 [c.d] (i64 (linksF c.shots)) := by
  refine fnV_of mixed tysOk Try.func34 rfl (ft := ft34) 1 (by decide +kernel) (by rfl) fun {σ} Y st => ?_
  conv => whnf
  refine LoopA_p (T := tys) tysOk (by exact drawsB_spec mixed tysOk (by decide +kernel)) (α := Nat)
    (fun i => ⟨[(1, .ptr 1 0), (3, .d (i64 (linksF (c.shots.take i)))), (4, .d (i64 i))], [(1, .box (.dd c.cells))], st⟩) (fun i => i ≤ c.shots.length) (fun i => c.shots.length - i) 0
    (Wk.sub ⟨rfl, rfl, rfl, trivial⟩ ⟨rfl, trivial⟩) (by omega) ?_
  rintro i hi
  conv => whnf
  refine brk_i (fun hc => ?_) (fun hc => ?_)
  · have hc : i < c.shots.length := by simpa using hc
    obtain ⟨s, hs⟩ : ∃ s, c.shots[i]? = some s := ⟨_, List.getElem?_eq_getElem hc⟩
    have h1 := linksF_bd hb i
    have h2 := hb s (List.mem_of_getElem? hs)
    unfold bd at h2
    conv => whnf
    refine elemK_i s.cells (by simp [hs]) ?_
    conv => whnf
    refine arith_in (wrap_i64 (by (try dsimp only); omega)) ?_
    conv => whnf
    refine arith_in (wrap_i64 (by (try dsimp only); omega)) ?_
    conv => whnf
    exact ⟨i + 1, by omega, hc, Wk.sub ⟨rfl, by rw [linksF_take hs]; rfl, rfl, trivial⟩ ⟨rfl, trivial⟩⟩
  · have hc : ¬ i < c.shots.length := by simpa using hc
    conv => whnf
    rw [List.take_of_length_le (by omega)]
    exact RetA_view 0 rfl ⟨⟨rfl, rfl⟩, rfl⟩

theorem fn84 (c : Chain) (hl : c.shots.length < 1000000) (hb : ∀ s ∈ c.shots, bd s.links) : FnV Try.prog 84 [c.d] (i64 (linksF c.shots)) := by
  refine fnV_of mixed tysOk Try.func84 rfl (ft := ft84) 1 (by decide +kernel) (by rfl) fun {σ} Y st => ?_
  conv => whnf
  refine LoopA_p (T := tys) tysOk (by exact drawsB_spec mixed tysOk (by decide +kernel)) (α := Nat)
    (fun i => ⟨[(2, .d (i64 (linksF (c.shots.take i)))), (6, .d (shotsD c.shots)), (7, .d (i64 c.shots.length)), (8, .d (i64 i))], [], st⟩) (fun i => i ≤ c.shots.length) (fun i => c.shots.length - i) 0
    (Wk.sub ⟨rfl, rfl, by simp [PX.get], rfl, trivial⟩ trivial) (by omega) ?_
  rintro i hi
  conv => whnf
  refine brk_i (fun hc => ?_) (fun hc => ?_)
  · have hc : i < c.shots.length := by simpa using hc
    obtain ⟨s, hs⟩ : ∃ s, c.shots[i]? = some s := ⟨_, List.getElem?_eq_getElem hc⟩
    have h1 := linksF_bd hb i
    have h2 := hb s (List.mem_of_getElem? hs)
    unfold bd at h2
    conv => whnf
    refine elemK_i s.cells (by simp [hs]) ?_
    conv => whnf
    refine arith_in (wrap_i64 (by (try dsimp only); omega)) ?_
    conv => whnf
    refine arith_in (wrap_i64 (by (try dsimp only); omega)) ?_
    conv => whnf
    exact ⟨i + 1, by omega, hc, Wk.sub ⟨by rw [linksF_take hs]; rfl, rfl, rfl, rfl, trivial⟩ trivial⟩
  · have hc : ¬ i < c.shots.length := by simpa using hc
    conv => whnf
    rw [List.take_of_length_le (by omega)]
    exact RetA_view 0 rfl ⟨⟨rfl, rfl⟩, rfl⟩

theorem fn19 (a b : List Int) (ha : a.length < 1000000) : FnV Try.prog 19 [intsD a, intsD b] (.bool (decide (a = b))) := by
  refine fnV_of mixed tysOk Try.func19 rfl (ft := ft19) 2 (by decide +kernel) (by rfl) fun {σ} Y st => ?_
  conv => whnf
  refine brk_i (fun h0 => ?_) (fun h0 => ?_)
  · have h0 : a.length ≠ b.length := by
      intro e; simp [e] at h0
    conv => whnf
    rw [decide_eq_false (by rintro rfl; exact h0 rfl)]
    exact RetA_view 0 rfl ⟨⟨rfl, rfl⟩, rfl⟩
  · have h0 : a.length = b.length := by
      have := h0
      simp at this; omega
    conv => whnf
    refine LoopA_p (T := tys) tysOk (by exact drawsB_spec mixed tysOk (by decide +kernel)) (α := Nat)
      (fun i => ⟨[(0, .d (intsD a)), (1, .d (intsD b)), (5, .d (i64 i))], [], st⟩) (fun i => i ≤ a.length ∧ a.take i = b.take i) (fun i => a.length - i) 0
      (Wk.sub ⟨rfl, rfl, rfl, trivial⟩ trivial) (by simp) ?_
    rintro i ⟨hi, he⟩
    conv => whnf
    refine brk_i (fun hc => ?_) (fun hc => ?_)
    · have hc : i < a.length := by simpa using hc
      have hc' : i < b.length := by omega
      conv => whnf
      refine elemK_i [i64 a[i]] (by simp [hc]) ?_
      conv => whnf
      refine elemK_i [i64 b[i]] (by simp [hc']) ?_
      conv => whnf
      refine brk_i (fun h1 => ?_) (fun h1 => ?_)
      · conv => whnf
        have h1 : a[i] ≠ b[i] := by simpa using h1
        rw [decide_eq_false (by rintro rfl; exact h1 rfl)]
        exact RetA_view 0 rfl ⟨⟨rfl, rfl⟩, rfl⟩
      · have h1 : a[i] = b[i] := by simpa using h1
        conv => whnf
        refine arith_in (wrap_i64 (by (try dsimp only); omega)) ?_
        conv => whnf
        exact ⟨i + 1, by omega, ⟨hc, by rw [List.take_succ_eq_append_getElem hc, List.take_succ_eq_append_getElem hc', he, h1]⟩, Wk.sub ⟨rfl, rfl, rfl, trivial⟩ trivial⟩
    · have hc : ¬ i < a.length := by simpa using hc
      conv => whnf
      rw [List.take_of_length_le (by omega), List.take_of_length_le (by omega)] at he
      rw [decide_eq_true he]
      exact RetA_view 0 rfl ⟨⟨rfl, rfl⟩, rfl⟩
end Go.PX

namespace Go.PX
open Go.Proofs

theorem fn90 (s : Span) (lo hi : Int) : FnV Try.prog 90 [s.d, i64 lo, i64 hi] (i64 (spread lo hi [s] 0)) := by
  refine fnV_of mixed tysOk Try.func90 rfl (ft := ft90) 3 (by decide +kernel) (by rfl) fun {σ} Y st => ?_
  conv => whnf
  refine CallA_view (fn111 [s] lo hi (by simp)) rfl 1 rfl ?_
  conv => whnf
  exact RetA_view 0 rfl ⟨⟨rfl, rfl⟩, rfl⟩

theorem span_eq {a b : Span} : a = b ↔ a.lo = b.lo ∧ a.hi = b.hi := by cases a; cases b; simp

theorem fn45 (a b : List Span) (ha : a.length < 1000000) : FnV Try.prog 45 [spansD a, spansD b] (.bool (decide (a = b))) := by
  refine fnV_of mixed tysOk Try.func45 rfl (ft := ft45) 2 (by decide +kernel) (by rfl) fun {σ} Y st => ?_
  conv => whnf
  refine brk_i (fun h0 => ?_) (fun h0 => ?_)
  · have h0 : a.length ≠ b.length := by
      intro e; simp [e] at h0
    conv => whnf
    rw [decide_eq_false (by rintro rfl; exact h0 rfl)]
    exact RetA_view 0 rfl ⟨⟨rfl, rfl⟩, rfl⟩
  · have h0 : a.length = b.length := by
      have := h0
      simp at this; omega
    conv => whnf
    refine LoopA_p (T := tys) tysOk (by exact drawsB_spec mixed tysOk (by decide +kernel)) (α := Nat)
      (fun i => ⟨[(0, .d (spansD a)), (1, .d (spansD b)), (5, .d (i64 i))], [], st⟩) (fun i => i ≤ a.length ∧ a.take i = b.take i) (fun i => a.length - i) 0
      (Wk.sub ⟨rfl, rfl, rfl, trivial⟩ trivial) (by simp) ?_
    rintro i ⟨hi, he⟩
    conv => whnf
    refine brk_i (fun hc => ?_) (fun hc => ?_)
    · have hc : i < a.length := by simpa using hc
      have hc' : i < b.length := by omega
      conv => whnf
      refine elemK_i a[i].cells (by simp [hc]) ?_
      conv => whnf
      refine elemK_i b[i].cells (by simp [hc']) ?_
      conv => whnf
      refine brk_i (fun h1 => ?_) (fun h1 => ?_)
      · conv => whnf
        have h1 : a[i] ≠ b[i] := by
          intro e; rw [e] at h1; simp at h1
        rw [decide_eq_false (by rintro rfl; exact h1 rfl)]
        exact RetA_view 0 rfl ⟨⟨rfl, rfl⟩, rfl⟩
      · have h1 : a[i] = b[i] := by
          rw [span_eq]
          simp at h1; exact h1
        conv => whnf
        refine arith_in (wrap_i64 (by (try dsimp only); omega)) ?_
        conv => whnf
        exact ⟨i + 1, by omega, ⟨hc, by rw [List.take_succ_eq_append_getElem hc, List.take_succ_eq_append_getElem hc', he, h1]⟩, Wk.sub ⟨rfl, rfl, rfl, trivial⟩ trivial⟩
    · have hc : ¬ i < a.length := by simpa using hc
      conv => whnf
      rw [List.take_of_length_le (by omega), List.take_of_length_le (by omega)] at he
      rw [decide_eq_true he]
      exact RetA_view 0 rfl ⟨⟨rfl, rfl⟩, rfl⟩

/-- The error of gaugings. -/
def gaugesF (set : Int) : Option Int → List Gauge → Int
  | _, [] => 0
  | last, g :: r => if inB g.day set 40000 && inB g.shown 0 60000 then (if (match last with
      | some d => decide (g.day < d)
      | none => false) then 2 else gaugesF set (some g.day) r) else 7

theorem gaugesF_cons (set : Int) (last : Option Int) (g : Gauge) (r : List Gauge) : gaugesF set last (g :: r) = if inB g.day set 40000 && inB g.shown 0 60000 then (if (match last with
      | some d => decide (g.day < d)
      | none => false) then 2 else gaugesF set (some g.day) r) else 7 := rfl

def lastDay (gs : List Gauge) : Nat → Option Int
  | 0 => none
  | i + 1 => (gs[i]?).map (·.day)

theorem fn114 (s : Shot) : FnV Try.prog 114 [s.d] (i64 (if 6 < s.gauges.length then 3 else gaugesF s.set none s.gauges)) := by
  refine fnV_of mixed tysOk Try.func114 rfl (ft := ft114) 1 (by decide +kernel) (by rfl) fun {σ} Y st => ?_
  conv => whnf
  refine brk_i (fun h0 => ?_) (fun h0 => ?_)
  · have h0 : 6 < s.gauges.length := by
      have := h0
      simp at this; omega
    conv => whnf
    rw [if_pos h0]
    exact RetA_view 0 rfl ⟨⟨rfl, rfl⟩, rfl⟩
  · have h0 : ¬ 6 < s.gauges.length := by
      have := h0
      simp at this; omega
    conv => whnf
    rw [if_neg h0]
    refine LoopA_p (T := tys) tysOk (by exact drawsB_spec mixed tysOk (by decide +kernel)) (α := Nat)
      (fun i => ⟨[(1, .ptr 1 0), (3, .d (i64 i))], [(1, .box (.dd s.cells))], st⟩) (fun i => i ≤ s.gauges.length ∧ gaugesF s.set none s.gauges = gaugesF s.set (lastDay s.gauges i) (s.gauges.drop i)) (fun i => s.gauges.length - i) 0
      (Wk.sub ⟨rfl, rfl, trivial⟩ ⟨rfl, trivial⟩) (by simp [lastDay]) ?_
    rintro i ⟨hi, he⟩
    conv => whnf
    refine brk_i (fun hc => ?_) (fun hc => ?_)
    · have hc : i < s.gauges.length := by simpa using hc
      obtain ⟨g, hg⟩ : ∃ g, s.gauges[i]? = some g := ⟨_, List.getElem?_eq_getElem hc⟩
      have hd : s.gauges.drop i = g :: s.gauges.drop (i + 1) := by
        rw [List.drop_eq_getElem_cons hc]
        rw [List.getElem?_eq_getElem hc] at hg
        rw [Option.some.inj hg]
      rw [hd, gaugesF_cons] at he
      conv => whnf
      refine elemK_i g.cells (by simp [hg]) ?_
      conv => whnf
      refine CallA_v (fn55 _ _ _) rfl rfl ?_
      conv => whnf
      refine brk_i (fun h1 => ?_) (fun h1 => ?_)
      · conv => whnf
        rw [if_neg (by simp at h1; simp [h1])] at he
        rw [he]
        exact RetA_view 0 rfl ⟨⟨rfl, rfl⟩, rfl⟩
      · conv => whnf
        refine CallA_v (fn55 _ _ _) rfl rfl ?_
        conv => whnf
        refine brk_i (fun h2 => ?_) (fun h2 => ?_)
        · conv => whnf
          rw [if_neg (by simp at h2; simp [h2])] at he
          rw [he]
          exact RetA_view 0 rfl ⟨⟨rfl, rfl⟩, rfl⟩
        · conv => whnf
          rw [if_pos (by simp at h1 h2; simp [h1, h2])] at he
          refine brk_i (fun h3 => ?_) (fun h3 => ?_)
          · have h3 : 0 < i := by
              have := h3
              simp at this; omega
            obtain ⟨j, rfl⟩ : ∃ j, i = j + 1 := ⟨i - 1, by omega⟩
            obtain ⟨p, hp⟩ : ∃ p, s.gauges[j]? = some p := ⟨_, List.getElem?_eq_getElem (by omega)⟩
            simp only [lastDay, hp, Option.map_some] at he
            conv => whnf
            refine arith_in (wrap_i64 (by (try dsimp only); omega)) ?_
            conv => whnf
            refine elemK_i p.cells ⟨by omega, by rw [show ((((j + 1 : Nat) : Int) - 1).toNat) = j by omega]; simp [hp]⟩ ?_
            conv => whnf
            refine brk_i (fun h4 => ?_) (fun h4 => ?_)
            · conv => whnf
              rw [if_pos h4] at he
              rw [he]
              exact RetA_view 0 rfl ⟨⟨rfl, rfl⟩, rfl⟩
            · conv => whnf
              rw [if_neg (by rw [h4]; simp)] at he
              refine arith_in (wrap_i64 (by (try dsimp only); omega)) ?_
              conv => whnf
              exact ⟨j + 1 + 1, by omega, ⟨hc, by rw [he]; simp only [lastDay, hg, Option.map_some]⟩, Wk.sub ⟨rfl, rfl, trivial⟩ ⟨rfl, trivial⟩⟩
          · have h3 : i = 0 := by
              have := h3
              simp at this; omega
            subst h3
            simp only [lastDay, Bool.false_eq_true, if_false] at he
            conv => whnf
            refine arith_in (wrap_i64 (by (try dsimp only); omega)) ?_
            conv => whnf
            exact ⟨0 + 1, by omega, ⟨hc, by rw [he]; simp only [lastDay, hg, Option.map_some]⟩, Wk.sub ⟨rfl, rfl, trivial⟩ ⟨rfl, trivial⟩⟩
    · have hc : ¬ i < s.gauges.length := by simpa using hc
      conv => whnf
      rw [List.drop_of_length_le (by omega)] at he
      rw [he]
      exact RetA_view 0 rfl ⟨⟨rfl, rfl⟩, rfl⟩
end Go.PX
