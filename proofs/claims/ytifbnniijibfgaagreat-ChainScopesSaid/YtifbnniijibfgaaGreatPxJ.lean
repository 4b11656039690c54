import Derived.Test.YtifbnniijibfgaaGreatPxI
import Derived.Test.YtifbnniijibfgaaGreatPxG
set_option linter.all false
set_option maxRecDepth 10000
namespace Go.PX
open Go.Proofs

/-- The truths with which gaugings agree, wear by wear. -/
def truthsL (set off : Int) (new : Int × Int) (gs : List Gauge) : Nat → Int → List (Int × (Int × Int))
  | 0, _ => []
  | n + 1, wear => match fitsF set off wear new gs with
    | none => truthsL set off new gs n (wear + 1)
    | some f => (wear, f) :: truthsL set off new gs n (wear + 1)

def truthsS (s : Shot) (off : Int) (gs : List Gauge) : List (Int × (Int × Int)) := truthsL s.set off (s.new.lo, s.new.hi) gs (s.wear.hi + 1 - s.wear.lo).toNat s.wear.lo

def truthD (t : Int × (Int × Int)) : D := .agg [i64 t.1, i64 t.2.1, i64 t.2.2]

def sCells (s : Shot) (off : Int) : List D := s.cells ++ [i64 off]

/-- What is needed of a shot that is looked at. -/
structure LookOk (s : Shot) (off : Int) (gs : List Gauge) : Prop where
  off : 0 ≤ off ∧ off ≤ 1000000
  shot : ShotOk s
  gok : ∀ g ∈ gs, gaugeOk g
  len : gs.length < 1000000

theorem lost_bd {wear day set : Int} (hw : 0 ≤ wear ∧ wear ≤ 1000000) (hd : 0 ≤ day ∧ day ≤ 1000000) (hs : 0 ≤ set ∧ set ≤ 1000000) : -1000000000000 ≤ wear * (day - set) ∧ wear * (day - set) ≤ 1000000000000 := by
  have := mul_bd (a := wear) (b := day - set) 1000000 1000000 (by omega) (by omega)
  omega

theorem yields115 (s : Shot) (off : Int) (gs : List Gauge) (h : LookOk s off gs) : Yields Tryz.prog 105 [.ref (sCells s off), .ref [gaugesD gs]] ((truthsS s off gs).map fun t => ([.d (truthD t)], [])) := by
  intro γ Y g0 Q hit
  obtain ⟨hoff, ⟨hset, hnew, hwear⟩, hg, hlen⟩ := h
  refine fnC_of mixed tysOk Tryz.func105 rfl (ft := ft105) (args := [.yld, .d (.ref (sCells s off)), .d (.ref [gaugesD gs])]) (show fnB ft105 Tryz.f105 3 = true from by decide +kernel) ?_
  conv => whnf
  refine LoopA_p (T := tys) tysOk (by exact drawsB_spec mixed tysOk (by decide +kernel)) (α := Int × γ)
    (fun x => ⟨[(0, .yld), (1, .d (.ref (sCells s off))), (2, .d (.ref [gaugesD gs])), (4, .d (i64 x.1))], [], x.2⟩)
    (fun x => s.wear.lo ≤ x.1 ∧ x.1 ≤ max s.wear.lo (s.wear.hi + 1) ∧ iterate Y ((truthsL s.set off (s.new.lo, s.new.hi) gs (s.wear.hi + 1 - x.1).toNat x.1).map fun t => ([.d (truthD t)], [])) x.2 Q) (fun x => (s.wear.hi + 1 - x.1).toNat) (s.wear.lo, g0)
    (Wk.sub ⟨(by first | rfl | (simp only [List.length_map]; rfl) | simp [PX.get]), (by first | rfl | (simp only [List.length_map]; rfl) | simp [PX.get]), (by first | rfl | (simp only [List.length_map]; rfl) | simp [PX.get]), (by first | rfl | (simp only [List.length_map]; rfl) | simp [PX.get]), trivial⟩ trivial) ⟨by simp only; omega, by simp only; omega, hit⟩ ?_
  clear hit g0
  rintro ⟨wear, g0⟩ ⟨h1, h2, hit⟩
  simp only at h1 h2 hit
  conv => whnf
  refine brk_i (fun hb => ?_) (fun hb => ?_)
  · have hb : wear ≤ s.wear.hi := by simpa using hb
    obtain ⟨n, hn⟩ : ∃ n, (s.wear.hi + 1 - wear).toNat = n + 1 := ⟨(s.wear.hi - wear).toNat, by omega⟩
    have hn' : (s.wear.hi + 1 - (wear + 1)).toNat = n := by omega
    rw [hn, truthsL] at hit
    conv => whnf
    refine LoopA_i (T := tys) tysOk (by exact drawsB_spec mixed tysOk (by decide +kernel)) gs (fun i (p : Int × Int) => ⟨[(0, .yld), (1, .d (.ref (sCells s off))), (2, .d (.ref [gaugesD gs])), (4, .d (i64 wear)), (5, .ptr 5 0), (26, .d (gaugesD gs)), (27, .d (i64 gs.length)), (28, .d (i64 i))], [(5, .box (.dd [i64 wear, i64 p.1, i64 p.2]))], g0⟩)
      (fun i r p => (0 ≤ p.1 ∧ p.1 ≤ p.2 ∧ p.2 ≤ 1000000) ∧ (∀ g ∈ r, gaugeOk g) ∧ fitsF s.set off wear (s.new.lo, s.new.hi) gs = fitsF s.set off wear p r) (s.new.lo, s.new.hi)
      (Wk.sub ⟨(by first | rfl | (simp only [List.length_map]; rfl) | simp [PX.get]), (by first | rfl | (simp only [List.length_map]; rfl) | simp [PX.get]), (by first | rfl | (simp only [List.length_map]; rfl) | simp [PX.get]), (by first | rfl | (simp only [List.length_map]; rfl) | simp [PX.get]), (by first | rfl | (simp only [List.length_map]; rfl) | simp [PX.get]), (by first | rfl | (simp only [List.length_map]; rfl) | simp [PX.get]), (by first | rfl | (simp only [List.length_map]; rfl) | simp [PX.get]), (by first | rfl | (simp only [List.length_map]; rfl) | simp [PX.get]), trivial⟩ ⟨(by first | rfl | (simp only [List.length_map]; rfl) | simp [PX.get]), trivial⟩) ⟨by simp only; omega, hg, rfl⟩ ?_ ?_
    · rintro i x r ⟨p1, p2⟩ hx hi hr ⟨hp, hgr, he⟩
      simp only at hp
      obtain ⟨g1, g2, g3, g4⟩ := hgr x (by simp)
      have hlb := lost_bd (wear := wear) (day := x.day) (set := s.set) (by omega) (by omega) (by omega)
      rw [fitsF] at he
      simp only [fitStep] at he
      conv => whnf
      refine brk_i (fun _ => ?_) (fun h => absurd hi (by simpa using h))
      conv => whnf
      refine elemK_nat hx ?_
      conv => whnf
      refine arith_in (wrap_i64 (by (try dsimp only); omega)) ?_
      conv => whnf
      refine arith_in (wrap_i64 (by (try dsimp only); omega)) ?_
      conv => whnf
      refine brk_i (fun h3 => ?_) (fun h3 => ?_)
      · have h3 : x.shown > off := by simpa using h3
        simp only [h3, if_true] at he
        conv => whnf
        refine arith_in (wrap_i64 (by (try dsimp only); omega)) ?_
        conv => whnf
        refine arith_in (wrap_i64 (by (try dsimp only); omega)) ?_
        conv => whnf
        refine arith_in (wrap_i64 (by (try dsimp only); omega)) ?_
        conv => whnf
        refine arith_in (wrap_i64 (by (try dsimp only); omega)) ?_
        conv => whnf
        refine brk_i (fun h4 => ?_) (fun h4 => ?_)
        · have h4 : max p1 (x.shown - off + wear * (x.day - s.set)) > min p2 (x.shown + off + wear * (x.day - s.set)) := by simpa using h4
          simp only [h4, if_true] at he
          rw [he] at hit
          conv => whnf
          refine arith_in (wrap_i64 (by (try dsimp only); omega)) ?_
          conv => whnf
          exact ⟨(wear + 1, g0), by simp only; omega, ⟨by simp only; omega, by simp only; omega, by simp only; rw [hn']; exact hit⟩, (Wk.sub ⟨(by first | rfl | (simp only [List.length_map]; rfl) | simp [PX.get]), (by first | rfl | (simp only [List.length_map]; rfl) | simp [PX.get]), (by first | rfl | (simp only [List.length_map]; rfl) | simp [PX.get]), (by first | rfl | (simp only [List.length_map]; rfl) | simp [PX.get]), trivial⟩ trivial)⟩
        · have h4 : ¬ max p1 (x.shown - off + wear * (x.day - s.set)) > min p2 (x.shown + off + wear * (x.day - s.set)) := by simpa using h4
          simp only [h4, if_false] at he
          conv => whnf
          refine arith_in (wrap_i64 (by (try dsimp only); omega)) ?_
          conv => whnf
          exact ⟨(max p1 (x.shown - off + wear * (x.day - s.set)), min p2 (x.shown + off + wear * (x.day - s.set))), ⟨by simp only; omega, fun g hg => hgr g (by simp [hg]), he⟩, (Wk.sub ⟨(by first | rfl | (simp only [List.length_map]; rfl) | simp [PX.get]), (by first | rfl | (simp only [List.length_map]; rfl) | simp [PX.get]), (by first | rfl | (simp only [List.length_map]; rfl) | simp [PX.get]), (by first | rfl | (simp only [List.length_map]; rfl) | simp [PX.get]), (by first | rfl | (simp only [List.length_map]; rfl) | simp [PX.get]), (by first | rfl | (simp only [List.length_map]; rfl) | simp [PX.get]), (by first | rfl | (simp only [List.length_map]; rfl) | simp [PX.get]), (by first | rfl | (simp only [List.length_map]; rfl) | simp [PX.get]), trivial⟩ ⟨(by first | rfl | (simp only [List.length_map]; rfl) | simp [PX.get]), trivial⟩)⟩
      · have h3 : ¬ x.shown > off := by simpa using h3
        simp only [h3, if_false] at he
        conv => whnf
        refine arith_in (wrap_i64 (by (try dsimp only); omega)) ?_
        conv => whnf
        refine arith_in (wrap_i64 (by (try dsimp only); omega)) ?_
        conv => whnf
        refine brk_i (fun h4 => ?_) (fun h4 => ?_)
        · have h4 : p1 > min p2 (x.shown + off + wear * (x.day - s.set)) := by simpa using h4
          simp only [h4, if_true] at he
          rw [he] at hit
          conv => whnf
          refine arith_in (wrap_i64 (by (try dsimp only); omega)) ?_
          conv => whnf
          exact ⟨(wear + 1, g0), by simp only; omega, ⟨by simp only; omega, by simp only; omega, by simp only; rw [hn']; exact hit⟩, (Wk.sub ⟨(by first | rfl | (simp only [List.length_map]; rfl) | simp [PX.get]), (by first | rfl | (simp only [List.length_map]; rfl) | simp [PX.get]), (by first | rfl | (simp only [List.length_map]; rfl) | simp [PX.get]), (by first | rfl | (simp only [List.length_map]; rfl) | simp [PX.get]), trivial⟩ trivial)⟩
        · have h4 : ¬ p1 > min p2 (x.shown + off + wear * (x.day - s.set)) := by simpa using h4
          simp only [h4, if_false] at he
          conv => whnf
          refine arith_in (wrap_i64 (by (try dsimp only); omega)) ?_
          conv => whnf
          exact ⟨(p1, min p2 (x.shown + off + wear * (x.day - s.set))), ⟨by simp only; omega, fun g hg => hgr g (by simp [hg]), he⟩, (Wk.sub ⟨(by first | rfl | (simp only [List.length_map]; rfl) | simp [PX.get]), (by first | rfl | (simp only [List.length_map]; rfl) | simp [PX.get]), (by first | rfl | (simp only [List.length_map]; rfl) | simp [PX.get]), (by first | rfl | (simp only [List.length_map]; rfl) | simp [PX.get]), (by first | rfl | (simp only [List.length_map]; rfl) | simp [PX.get]), (by first | rfl | (simp only [List.length_map]; rfl) | simp [PX.get]), (by first | rfl | (simp only [List.length_map]; rfl) | simp [PX.get]), (by first | rfl | (simp only [List.length_map]; rfl) | simp [PX.get]), trivial⟩ ⟨(by first | rfl | (simp only [List.length_map]; rfl) | simp [PX.get]), trivial⟩)⟩
    · rintro ⟨p1, p2⟩ ⟨hp, _, he⟩
      rw [fitsF] at he
      rw [he] at hit
      simp only [List.map_cons] at hit
      conv => whnf
      refine brk_i (fun h => absurd h (by simp)) (fun _ => ?_)
      conv => whnf
      refine YldA_v (ds := [truthD (wear, (p1, p2))]) hit rfl rfl (fun s' hs' => ?_) (fun s' hs' => ?_)
      · conv => whnf
        refine arith_in (wrap_i64 (by (try dsimp only); omega)) ?_
        conv => whnf
        exact ⟨(wear + 1, s'), by simp only; omega, ⟨by simp only; omega, by simp only; omega, by simp only; rw [hn']; exact hs'⟩, (Wk.sub ⟨(by first | rfl | (simp only [List.length_map]; rfl) | simp [PX.get]), (by first | rfl | (simp only [List.length_map]; rfl) | simp [PX.get]), (by first | rfl | (simp only [List.length_map]; rfl) | simp [PX.get]), (by first | rfl | (simp only [List.length_map]; rfl) | simp [PX.get]), trivial⟩ trivial)⟩
      · conv => whnf
        exact RetA_view 0 rfl ⟨rfl, hs'⟩
  · have hb : ¬ wear ≤ s.wear.hi := by simpa using hb
    rw [show (s.wear.hi + 1 - wear).toNat = 0 by omega, truthsL] at hit
    conv => whnf
    exact RetA_view 0 rfl ⟨rfl, hit⟩

theorem fn93 (s : Shot) (off : Int) (gs : List Gauge) : FnV Tryz.prog 91 [.agg (sCells s off), gaugesD gs] (.clo 105 [.ref (sCells s off), .ref [gaugesD gs]]) := by
  refine fnV_of mixed tysOk Tryz.func91 rfl (ft := ft91) 2 (by decide +kernel) (by rfl) fun {σ} Y st => ?_
  conv => whnf
  exact RetA_view 1 rfl ⟨⟨rfl, rfl⟩, rfl⟩

theorem fn94 (t : Int × (Int × Int)) (s : Shot) (off day : Int) (h1 : 0 ≤ t.1 ∧ t.1 ≤ 1000000) (h2 : 0 ≤ t.2.1 ∧ t.2.1 ≤ 1000000) (h3 : 0 ≤ t.2.2 ∧ t.2.2 ≤ 1000000) (h4 : 0 ≤ day ∧ day ≤ 1000000) (h5 : 0 ≤ s.set ∧ s.set ≤ 1000000) :
    FnV Tryz.prog 92 [truthD t, .agg (sCells s off), i64 day] (Span.d ⟨onF s.set t.2.1 t.1 day, onF s.set t.2.2 t.1 day⟩) := by
  refine fnV_of mixed tysOk Tryz.func92 rfl (ft := ft92) 3 (by decide +kernel) (by rfl) fun {σ} Y st => ?_
  conv => whnf
  have hlb := lost_bd (wear := t.1) (day := day) (set := s.set) h1 h4 h5
  refine arith_in (wrap_i64 (by (try dsimp only); omega)) ?_
  conv => whnf
  refine arith_in (wrap_i64 (by (try dsimp only); omega)) ?_
  conv => whnf
  refine arith_in (wrap_i64 (by (try dsimp only); omega)) ?_
  conv => whnf
  refine arith_in (wrap_i64 (by (try dsimp only); omega)) ?_
  conv => whnf
  exact RetA_view 0 rfl ⟨⟨rfl, rfl⟩, rfl⟩

def thickStep (set day : Int) (acc : Span × Bool) (t : Int × (Int × Int)) : Span × Bool :=
  let out := if acc.2 then acc.1 else ⟨onF set t.2.1 t.1 day, onF set t.2.2 t.1 day⟩
  (⟨min out.lo (onF set t.2.1 t.1 day), max out.hi (onF set t.2.2 t.1 day)⟩, true)

theorem thick_eq (set off day : Int) (new : Int × Int) (gs : List Gauge) : ∀ (n : Nat) (wear : Int) (acc : Span × Bool), rangeF set off day new gs n wear acc = (truthsL set off new gs n wear).foldl (thickStep set day) acc
  | 0, wear, acc => rfl
  | n + 1, wear, acc => by
    simp only [rangeF, truthsL]
    cases fitsF set off wear new gs with
    | none => exact thick_eq set off day new gs n (wear + 1) acc
    | some f => exact thick_eq set off day new gs n (wear + 1) _

theorem rangeS_fold (s : Shot) (off : Int) (gs : List Gauge) (day : Int) : rangeS s off gs day = (truthsS s off gs).foldl (thickStep s.set day) (⟨0, 0⟩, false) := thick_eq _ _ _ _ _ _ _ _

theorem truthsL_ok {set off : Int} {new : Int × Int} {gs : List Gauge} (hn : 0 ≤ new.1 ∧ new.1 ≤ new.2 ∧ new.2 ≤ 1000000) : ∀ (n : Nat) (wear : Int), 0 ≤ wear → wear + n ≤ 1000000 → ∀ t ∈ truthsL set off new gs n wear, (0 ≤ t.1 ∧ t.1 ≤ 1000000) ∧ (0 ≤ t.2.1 ∧ t.2.1 ≤ 1000000) ∧ (0 ≤ t.2.2 ∧ t.2.2 ≤ 1000000)
  | 0, wear, h0, h1, t, ht => by cases ht
  | n + 1, wear, h0, h1, t, ht => by
    simp only [truthsL] at ht
    split at ht
    · exact truthsL_ok hn n (wear + 1) (by omega) (by omega) t ht
    · rename_i f hf
      rcases List.mem_cons.1 ht with rfl | ht
      · have := fitsF_le hn.2.1 hf
        simp only; omega
      · exact truthsL_ok hn n (wear + 1) (by omega) (by omega) t ht

theorem truthsS_ok {s : Shot} {off : Int} {gs : List Gauge} (h : LookOk s off gs) : ∀ t ∈ truthsS s off gs, (0 ≤ t.1 ∧ t.1 ≤ 1000000) ∧ (0 ≤ t.2.1 ∧ t.2.1 ≤ 1000000) ∧ (0 ≤ t.2.2 ∧ t.2.2 ≤ 1000000) := by
  obtain ⟨hoff, ⟨hset, hnew, hwear⟩, hg, hlen⟩ := h
  exact truthsL_ok (by simp only; omega) _ _ (by omega) (by omega)
end Go.PX

namespace Go.PX
open Go.Proofs

theorem fn58 (s : Shot) (off day : Int) (h : LookOk s off s.gauges) (hday : 0 ≤ day ∧ day ≤ 1000000) :
    FnV Tryz.prog 63 [.agg (sCells s off), i64 day] (.tup [(rangeS s off s.gauges day).1.d, .bool (rangeS s off s.gauges day).2]) := by
  refine fnV_of mixed tysOk Tryz.func63 rfl (ft := ft63) 2 (by decide +kernel) (by rfl) fun {σ} Y st => ?_
  conv => whnf
  refine CallA_v (fn93 s off s.gauges) rfl rfl ?_
  conv => whnf
  refine RangeA_list tysOk (by exact drawsB_spec mixed tysOk (by decide +kernel)) (by exact drawsB_spec mixed tysOk (by decide +kernel)) rfl 1500000 1600000 [2, 3, 4, 5] (yields115 s off s.gauges h)
    (fun (x : Span × Bool) => ([(1500000, .box (.dd (sCells s off))), (1500001, .box (.dd [i64 day])), (1500002, .box (.dd x.1.cells)), (1500003, .box (.dd [.bool x.2]))], st))
    (fun rest x => (∀ t ∈ rest, (0 ≤ t.1 ∧ t.1 ≤ 1000000) ∧ (0 ≤ t.2.1 ∧ t.2.1 ≤ 1000000) ∧ (0 ≤ t.2.2 ∧ t.2.2 ≤ 1000000)) ∧ rangeS s off s.gauges day = rest.foldl (thickStep s.set day) x) (⟨0, 0⟩, false)
    rfl rfl rfl ⟨truthsS_ok h, rangeS_fold s off s.gauges day⟩ ?_ ?_
  · rintro t rest ⟨out, is⟩ ⟨hok, he⟩ Q hQ _
    refine ⟨⟨rfl, rfl⟩, ?_⟩
    rw [List.foldl_cons] at he
    obtain ⟨h1, h2, h3⟩ := hok t (by simp)
    conv => whnf
    refine CallA_v (ds := [truthD t, .agg (sCells s off), i64 day]) (fn94 t s off day h1 h2 h3 hday h.shot.set) rfl rfl ?_
    conv => whnf
    have next : ∀ (x' : Span × Bool) {st' : St σ}, x' = thickStep s.set day (out, is) t → Wk st' ⟨[], [(1500000, .box (.dd (sCells s off))), (1500001, .box (.dd [i64 day])), (1500002, .box (.dd x'.1.cells)), (1500003, .box (.dd [.bool x'.2]))], st⟩ →
        ∃ x', Wk st' ⟨[], [(1500000, .box (.dd (sCells s off))), (1500001, .box (.dd [i64 day])), (1500002, .box (.dd x'.1.cells)), (1500003, .box (.dd [.bool x'.2]))], st⟩ ∧ true = true ∧ Q (.d (.bool true)) [] (.go x') := by
      intro x' st' hx hw
      exact ⟨x', hw, rfl, hQ x' ⟨fun u hu => hok u (by simp [hu]), by rw [hx]; exact he⟩⟩
    cases is with
    | false =>
      conv => whnf
      exact next (⟨min (onF s.set t.2.1 t.1 day) (onF s.set t.2.1 t.1 day), max (onF s.set t.2.2 t.1 day) (onF s.set t.2.2 t.1 day)⟩, true) rfl (Wk.sub trivial ⟨(by first | rfl | (simp only [List.length_map]; rfl) | simp [PX.get]), (by first | rfl | (simp only [List.length_map]; rfl) | simp [PX.get]), (by first | rfl | (simp only [List.length_map]; rfl) | simp [PX.get]), (by first | rfl | (simp only [List.length_map]; rfl) | simp [PX.get]), trivial⟩)
    | true =>
      conv => whnf
      refine brk_i (fun h5 => ?_) (fun h5 => ?_)
      · conv => whnf
        have h5 : onF s.set t.2.1 t.1 day = out.lo ∧ onF s.set t.2.2 t.1 day = out.hi := by simpa using h5
        refine next (⟨min (onF s.set t.2.1 t.1 day) (onF s.set t.2.1 t.1 day), max (onF s.set t.2.2 t.1 day) (onF s.set t.2.2 t.1 day)⟩, true) ?_ (Wk.sub trivial ⟨(by first | rfl | (simp only [List.length_map]; rfl) | simp [PX.get]), (by first | rfl | (simp only [List.length_map]; rfl) | simp [PX.get]), (by first | rfl | (simp only [List.length_map]; rfl) | simp [PX.get]), (by first | rfl | (simp only [List.length_map]; rfl) | simp [PX.get]), trivial⟩)
        simp only [thickStep, h5.1, h5.2, if_true]
      · conv => whnf
        exact next (⟨min out.lo (onF s.set t.2.1 t.1 day), max out.hi (onF s.set t.2.2 t.1 day)⟩, true) rfl (Wk.sub trivial ⟨(by first | rfl | (simp only [List.length_map]; rfl) | simp [PX.get]), (by first | rfl | (simp only [List.length_map]; rfl) | simp [PX.get]), (by first | rfl | (simp only [List.length_map]; rfl) | simp [PX.get]), (by first | rfl | (simp only [List.length_map]; rfl) | simp [PX.get]), trivial⟩)
  · rintro ⟨out, is⟩ ⟨_, he⟩
    conv => whnf
    rw [he]
    exact RetA_view 0 rfl ⟨⟨rfl, rfl⟩, rfl⟩
end Go.PX

namespace Go.PX
open Go.Proofs

theorem fn64 (s : Shot) (off : Int) (gs : List Gauge) (h : LookOk s off gs) : FnV Tryz.prog 74 [.agg (sCells s off), gaugesD gs] (.bool (!(truthsS s off gs).isEmpty)) := by
  refine fnV_of mixed tysOk Tryz.func74 rfl (ft := ft74) 2 (by decide +kernel) (by rfl) fun {σ} Y st => ?_
  conv => whnf
  refine CallA_v (fn93 s off gs) rfl rfl ?_
  conv => whnf
  refine RangeA_list tysOk (by exact drawsB_spec mixed tysOk (by decide +kernel)) (by exact drawsB_spec mixed tysOk (by decide +kernel)) rfl 1500000 1600000 [2, 4] (yields115 s off gs h)
    (fun (_ : Unit) => ([(1500000, .box (.dd (sCells s off))), (1500001, .box (.dd [.bool false]))], st))
    (fun rest _ => (truthsS s off gs).isEmpty = rest.isEmpty) () rfl rfl rfl rfl ?_ ?_
  · rintro t rest _ he Q _ hQ
    refine ⟨⟨rfl, rfl⟩, ?_⟩
    have he : (truthsS s off gs).isEmpty = false := he
    conv => whnf
    refine ⟨[(1500000, .box (.dd (sCells s off))), (1500001, .box (.dd [.bool true]))], st, (Wk.sub trivial ⟨(by first | rfl | (simp only [List.length_map]; rfl) | simp [PX.get]), (by first | rfl | (simp only [List.length_map]; rfl) | simp [PX.get]), trivial⟩), rfl, hQ _ _ _ ?_⟩
    conv => whnf
    rw [he]
    exact RetA_view 0 rfl ⟨⟨rfl, rfl⟩, rfl⟩
  · intro _ he
    have he : (truthsS s off gs).isEmpty = true := he
    conv => whnf
    rw [he]
    exact RetA_view 0 rfl ⟨⟨rfl, rfl⟩, rfl⟩

theorem rangeS_some (s : Shot) (off : Int) (gs : List Gauge) (day : Int) : (rangeS s off gs day).2 = !(truthsS s off gs).isEmpty := by
  rw [rangeS_fold]
  cases truthsS s off gs with
  | nil => rfl
  | cons t r =>
    rw [List.foldl_cons]
    have : ∀ (l : List (Int × (Int × Int))) (acc : Span × Bool), acc.2 = true → (l.foldl (thickStep s.set day) acc).2 = true := by
      intro l
      induction l with
      | nil => exact fun _ h => h
      | cons a l ih => exact fun acc _ => ih _ rfl
    exact this r _ rfl
end Go.PX

namespace Go.PX
open Go.Proofs

/-- The error of a case and the index of a shot. -/
def openE (c : Case) (i : Int) : Int :=
  if (checkC c).2.2 = 0 then (if inB i 0 ((c.chain.shots.length : Int) - 1) then 0 else 4) else (checkC c).2.2

theorem inB_get {l : List Shot} {i : Int} (h : inB i 0 ((l.length : Int) - 1) = true) : ∃ s, 0 ≤ i ∧ l[i.toNat]? = some s := by
  simp only [inB, Bool.and_eq_true, decide_eq_true_eq] at h
  exact ⟨_, h.1, List.getElem?_eq_getElem (by omega)⟩

/-- The cells of a shot that is asked for; none are, if there is an error. -/
def openD (c : Case) (i : Int) : D :=
  if openE c i = 0 then (match c.chain.shots[i.toNat]? with
    | some s => .agg (sCells s c.chain.err)
    | none => .nilp) else .agg [.str ⟨#[]⟩, i64 0, i64 0, i64 0, i64 0, i64 0, i64 0, .nils, i64 0]

theorem chainE_ok {c : Case} (h : (checkC c).2.2 = 0) : (chainE c.chain).2.2 = 0 := by
  rw [checkC_alt] at h
  by_cases h0 : (chainE c.chain).2.2 = 0
  · exact h0
  · rw [if_neg h0] at h; exact absurd h h0

theorem case_lens {c : Case} (h : (checkC c).2.2 = 0) : c.chain.shots.length ≤ 7 ∧ c.chain.rows.length ≤ 6 := chainE_lens (chainE_ok h)

theorem fn57 (c : Case) (i : Int) : FnV Tryz.prog 70 [c.d, i64 i] (.tup [openD c i, i64 (openE c i)]) := by
  refine fnV_of mixed tysOk Tryz.func70 rfl (ft := ft70) 2 (by decide +kernel) (by rfl) fun {σ} Y st => ?_
  conv => whnf
  refine CallA_v (fn13 c) rfl rfl ?_
  conv => whnf
  have hl := case_lens (c := c)
  refine brk_i (fun h0 => ?_) (fun h0 => ?_)
  · have h0 : (checkC c).2.2 ≠ 0 := by simpa using h0
    conv => whnf
    refine RetA_view 0 rfl ⟨⟨?_, rfl⟩, rfl⟩
    simp [openD, openE, h0, packD]
  have h0 : (checkC c).2.2 = 0 := by simpa using h0
  obtain ⟨hl, _⟩ := hl h0
  conv => whnf
  refine arith_in (wrap_i64 (by simp; omega)) ?_
  conv => whnf
  refine CallA_view (fn51_1 _ _ _) rfl 1 rfl ?_
  conv => whnf
  have hlen : ((c.chain.shots.map Shot.cells).length : Int) = c.chain.shots.length := by simp
  refine brk_i (fun h1 => ?_) (fun h1 => ?_)
  · have h1 : inB i 0 ((c.chain.shots.length : Int) - 1) = false := by rw [← hlen]; simpa using h1
    conv => whnf
    refine RetA_view 0 rfl ⟨⟨?_, rfl⟩, rfl⟩
    simp [openD, openE, h0, h1, packD]
  · have h1 : inB i 0 ((c.chain.shots.length : Int) - 1) = true := by rw [← hlen]; simpa using h1
    obtain ⟨s, hi, hs⟩ := inB_get h1
    conv => whnf
    refine elemK_i s.cells ⟨hi, by simp [hs]⟩ ?_
    conv => whnf
    refine RetA_view 0 rfl ⟨⟨?_, rfl⟩, rfl⟩
    simp [openD, openE, h0, h1, hs, packD]
    rfl

theorem firstE_all {α : Type} {f : List α → α → Int} : ∀ {l : List α} {b : List α} {i : Int}, (firstE f b l i).2 = 0 → ∀ x ∈ l, ∃ b', f b' x = 0
  | [], _, _, _, x, hx => by cases hx
  | y :: r, b, i, h, x, hx => by
    simp only [firstE] at h
    split at h
    · rename_i h0
      rcases List.mem_cons.1 hx with rfl | hx
      · exact ⟨b, h0⟩
      · exact firstE_all h x hx
    · rename_i h0; exact absurd h h0

theorem inB_iff {n lo hi : Int} : inB n lo hi = true ↔ lo ≤ n ∧ n ≤ hi := by
  simp [inB]

theorem gaugesL_ok {set : Int} : ∀ {l : List Gauge} {last : Int}, gaugesL set last l = 0 → ∀ g ∈ l, (set ≤ g.day ∧ g.day ≤ 40000) ∧ (0 ≤ g.shown ∧ g.shown ≤ 60000)
  | [], _, _, g, hg => by cases hg
  | x :: r, last, h, g, hg => by
    simp only [gaugesL] at h
    split at h
    · rename_i h1
      simp only [Bool.and_eq_true, inB_iff] at h1
      split at h
      · cases h
      · rcases List.mem_cons.1 hg with rfl | hg
        · exact h1
        · exact gaugesL_ok h g hg
    · cases h

/-- What holds of a shot without an error. -/
structure ShotR (s : Shot) : Prop where
  links : 1 ≤ s.links ∧ s.links ≤ 40
  set : 0 ≤ s.set ∧ s.set ≤ 40000
  new : 1 ≤ s.new.lo ∧ s.new.lo ≤ s.new.hi ∧ s.new.hi ≤ 60000
  wear : 0 ≤ s.wear.lo ∧ s.wear.lo ≤ s.wear.hi ∧ s.wear.hi ≤ 20
  len : s.gauges.length ≤ 6
  gauges : ∀ g ∈ s.gauges, (s.set ≤ g.day ∧ g.day ≤ 40000) ∧ (0 ≤ g.shown ∧ g.shown ≤ 60000)

theorem checkF_ok {s : Shot} (h : checkF s = 0) : ShotR s := by
  unfold checkF at h
  split at h
  · rename_i h1
    simp only [Bool.and_eq_true, inB_iff] at h1
    split at h
    · cases h
    · split at h
      · cases h
      · refine ⟨by omega, by omega, by omega, by omega, by omega, gaugesL_ok h⟩
  · cases h

/-- What holds of a case without an error. -/
structure CaseR (c : Case) : Prop where
  lens : 1 ≤ c.chain.shots.length ∧ c.chain.shots.length ≤ 7
  rlen : 1 ≤ c.chain.rows.length ∧ c.chain.rows.length ≤ 6
  long : 1 ≤ c.chain.long ∧ c.chain.long ≤ 50
  heavy : 0 ≤ c.chain.heavy ∧ c.chain.heavy ≤ 200
  err : 0 ≤ c.chain.err ∧ c.chain.err ≤ 2000
  hold : 0 ≤ c.chain.hold.lo ∧ c.chain.hold.lo ≤ c.chain.hold.hi ∧ c.chain.hold.hi ≤ 200000
  shots : ∀ s ∈ c.chain.shots, ShotR s ∧ s.set ≤ c.day
  rows : ∀ r ∈ c.chain.rows, (1 ≤ r.scope ∧ r.scope ≤ 200) ∧ (1 ≤ r.holds ∧ r.holds ≤ 1000)
  ship : (0 ≤ c.ship.wind ∧ c.ship.wind ≤ 10000) ∧ (0 ≤ c.ship.current ∧ c.ship.current ≤ 10000) ∧ (0 ≤ c.ship.swell ∧ c.ship.swell ≤ 10000) ∧ (0 ≤ c.ship.yaw ∧ c.ship.yaw ≤ 20)
  day : 0 ≤ c.day ∧ c.day ≤ 40000
  wlen : 1 ≤ c.weathers.length ∧ c.weathers.length ≤ 6
  weathers : ∀ w ∈ c.weathers, (1 ≤ w.depth.lo ∧ w.depth.lo ≤ w.depth.hi ∧ w.depth.hi ≤ 1000) ∧ (0 ≤ w.wind.lo ∧ w.wind.lo ≤ w.wind.hi ∧ w.wind.hi ≤ 80) ∧ (0 ≤ w.current.lo ∧ w.current.lo ≤ w.current.hi ∧ w.current.hi ≤ 80) ∧ (0 ≤ w.swell.lo ∧ w.swell.lo ≤ w.swell.hi ∧ w.swell.hi ≤ 150)

theorem case_ok {c : Case} (h : (checkC c).2.2 = 0) : CaseR c := by
  unfold checkC at h
  split at h
  case isFalse h0 => exact absurd h h0
  rename_i hp
  simp only at h
  split at h
  case isFalse h0 => exact absurd h h0
  rename_i hs
  unfold rowsE at h
  simp only at h
  split at h
  case isFalse h0 => exact absurd h h0
  rename_i hr
  unfold restE at h
  split at h
  case isFalse => cases h
  rename_i h1
  split at h
  case isFalse => cases h
  rename_i h2
  split at h
  case isTrue => cases h
  rename_i h3
  split at h
  case isFalse => cases h
  rename_i h4
  simp only at h
  split at h
  case isFalse h0 => exact absurd h h0
  rename_i hw
  unfold plainF at hp
  split at hp
  case isFalse => cases hp
  rename_i p1
  split at hp
  case isFalse => cases hp
  rename_i p2
  split at hp
  case isTrue => cases hp
  rename_i p3
  simp only [Bool.and_eq_true, inB_iff] at h1 h2 h4 p1 p2
  refine ⟨by omega, by omega, by omega, by omega, by omega, by omega, fun s hm => ⟨?_, ?_⟩, fun r hm => ?_, by omega, by omega, by omega, fun w hm => ?_⟩
  · obtain ⟨b, hb⟩ := firstE_all hs s hm
    unfold shotE at hb
    split at hb
    · split at hb
      · cases hb
      · exact checkF_ok hb
    · cases hb
  · rw [Bool.not_eq_true, List.any_eq_false] at h3
    have := h3 s hm
    simp at this; exact this
  · obtain ⟨b, hb⟩ := firstE_all hr r hm
    unfold rowE at hb
    split at hb
    · rename_i q; simp only [Bool.and_eq_true, inB_iff] at q; exact q
    · cases hb
  · obtain ⟨b, hb⟩ := firstE_all hw w hm
    unfold weatherE at hb
    split at hb
    · rename_i q
      simp only [Bool.and_eq_true, inB_iff] at q
      split at hb
      · cases hb
      · omega
    · cases hb

theorem CaseR.look {c : Case} (h : CaseR c) {s : Shot} (hs : s ∈ c.chain.shots) : LookOk s c.chain.err s.gauges := by
  obtain ⟨⟨h1, h2, h3, h4, h5, h6⟩, h7⟩ := h.shots s hs
  have he := h.err
  refine ⟨by omega, ⟨by omega, by omega, by omega⟩, fun g hg => ?_, by omega⟩
  have := h6 g hg
  unfold gaugeOk
  omega

/-- How thick a shot can be on a day, and the error. -/
def thickE (c : Case) (i day : Int) : Span × Int :=
  if openE c i = 0 then (match c.chain.shots[i.toNat]? with
    | some s => if inB day s.set 40000 then (if (rangeS s c.chain.err s.gauges day).2 then ((rangeS s c.chain.err s.gauges day).1, 0) else (⟨0, 0⟩, 9)) else (⟨0, 0⟩, 7)
    | none => (⟨0, 0⟩, 0)) else (⟨0, 0⟩, openE c i)

theorem openE_ok {c : Case} {i : Int} (h : openE c i = 0) : (checkC c).2.2 = 0 ∧ ∃ s, 0 ≤ i ∧ c.chain.shots[i.toNat]? = some s := by
  unfold openE at h
  split at h
  · rename_i h0
    split at h
    · rename_i h1
      obtain ⟨s, h2, h3⟩ := inB_get h1
      exact ⟨h0, s, h2, h3⟩
    · cases h
  · rename_i h0; exact absurd h h0

theorem fn15 (c : Case) (i day : Int) : FnV Tryz.prog 39 [c.d, i64 i, i64 day] (.tup [(thickE c i day).1.d, i64 (thickE c i day).2]) := by
  refine fnV_of mixed tysOk Tryz.func39 rfl (ft := ft39) 3 (by decide +kernel) (by rfl) fun {σ} Y st => ?_
  conv => whnf
  refine CallA_v (ds := [c.d, i64 i]) (fn57 c i) rfl rfl ?_
  by_cases h0 : openE c i = 0
  · obtain ⟨hc, s, hi, hs⟩ := openE_ok h0
    have hR := case_ok hc
    have hm := List.mem_of_getElem? hs
    have hL := hR.look hm
    have hr := (hR.shots s hm).1
    have hD : openD c i = .agg (sCells s c.chain.err) := by simp [openD, h0, hs]
    rw [hD, h0]
    conv => whnf
    refine CallA_view (fn51_1 s.set 40000 day) rfl 1 rfl ?_
    conv => whnf
    refine brk_i (fun h1 => ?_) (fun h1 => ?_)
    · have h1 : inB day s.set 40000 = false := by simpa using h1
      conv => whnf
      refine RetA_view 0 rfl ⟨⟨?_, rfl⟩, rfl⟩
      simp [thickE, h0, hs, h1, packD]
      rfl
    · have h1 : inB day s.set 40000 = true := by simpa using h1
      have h1' := inB_iff.1 h1
      have hset := hr.set
      conv => whnf
      refine CallA_v (ds := [.agg (sCells s c.chain.err), i64 day]) (fn58 s c.chain.err day hL (by omega)) rfl rfl ?_
      conv => whnf
      refine brk_i (fun h2 => ?_) (fun h2 => ?_)
      · have h2 : (rangeS s c.chain.err s.gauges day).2 = false := by simpa using h2
        conv => whnf
        refine RetA_view 0 rfl ⟨⟨?_, rfl⟩, rfl⟩
        simp [thickE, h0, hs, h1, h2, packD]
        rfl
      · have h2 : (rangeS s c.chain.err s.gauges day).2 = true := by simpa using h2
        conv => whnf
        refine RetA_view 0 rfl ⟨⟨?_, rfl⟩, rfl⟩
        simp [thickE, h0, hs, h1, h2, packD]
        rfl
  · have hD : openD c i = .agg [.str ⟨#[]⟩, i64 0, i64 0, i64 0, i64 0, i64 0, i64 0, .nils, i64 0] := by simp [openD, h0]
    rw [hD]
    conv => whnf
    refine brk_i (fun h1 => ?_) (fun h1 => absurd h0 (by simpa using h1))
    conv => whnf
    refine RetA_view 0 rfl ⟨⟨?_, rfl⟩, rfl⟩
    simp [thickE, h0, packD]
    rfl

end Go.PX

namespace Go.PX
open Go.Proofs

/-- The first ascending list that goes on so and is wanted. -/
def fillF {τ : Type} (wf : List Int → τ × Bool) (many : Nat) : Nat → List Int → Nat → Option (List Int × τ)
  | 0, p, _ => if (wf p).2 then some (p, (wf p).1) else none
  | left + 1, p, start => (List.range' start (many - left - start)).findSome? fun (i : Nat) => fillF wf many left (p ++ [(i : Int)]) (i + 1)

def intsC (l : List Int) : List (List D) := l.map fun n => [i64 n]

def fillArgs (start left : Nat) : List V := [.d (i64 start), .d (i64 left), .ptr 1000000 0, .ptr 1000001 0, .ptr 1000002 0, .ptr 1000003 0, .ptr 1000004 0, .ptr 1000005 0]

def fillCaps : List V := [.ptr 1000000 0, .ptr 1000001 0, .ptr 1000002 0, .ptr 1000003 0, .ptr 1000004 0, .ptr 1000005 0]

/-- The boxes of a search, and its buffer. -/
def fillH (f g : FuncId) (caps : List D) (many : Nat) (k : Nat) (n : Nat) (p : List Int) (x is : D) : Heap :=
  [(1000000, .box (.dd [.clo g caps])), (1000001, .box (.vv [.sl k 1 0 n])), (1000002, .box (.dd [x])), (1000003, .box (.dd [is])), (1000004, .box (.dd [i64 many])), (1000005, .box (.vv [.clo f fillCaps])), (k, .arr 1 (.dd (intsC p)))]

/-- What a search does, from a place, with so many numbers to come. -/
def Fill96 (g : FuncId) (caps : List D) (wf : List Int → Int × Bool) (many left : Nat) : Prop :=
  ∀ (start : Nat) (p : List Int) (x : Int) (b : Bool), left ≤ many → start ≤ many + 1 → p.length + left ≤ many → (∀ i ∈ p, 0 ≤ i ∧ i < many) → ∀ {σ : Type} (Y : Hd σ) (s : σ),
      FnC Tryz.prog Y 97 (fillArgs start left) (fillH 97 g caps many 1000006 p.length p (i64 x) (.bool b)) s fun v h' s' => s' = s ∧ ∃ (q : List Int) (y : Int) (b' : Bool), h' = fillH 97 g caps many 2000000 q.length q (i64 y) (.bool b') ∧
        (match fillF wf many left p start with
        | some (q', y') => v = .d (.bool true) ∧ q = q' ∧ y = y' ∧ b' = true
        | none => v = .d (.bool false) ∧ q = p)

/-- What is searched for. -/
def Want96 (g : FuncId) (caps : List D) (wf : List Int → Int × Bool) (many : Nat) : Prop :=
  ∀ q : List Int, (∀ i ∈ q, 0 ≤ i ∧ i < many) → q.length ≤ many → FnV Tryz.prog g (intsD q :: caps) (.tup [i64 (wf q).1, .bool (wf q).2])

theorem fill96_zero {g : FuncId} {caps : List D} {wf : List Int → Int × Bool} {many : Nat} (hm : many ≤ 1000) (hw : Want96 g caps wf many) : Fill96 g caps wf many 0 := by
  intro start p x b hl hf hp hin σ Y s
  refine fnC_of mixed tysOk Tryz.func97 rfl (ft := ft97) (args := fillArgs start 0) (show fnB ft97 Tryz.f97 8 = true from by decide +kernel) ?_
  conv => whnf
  have hcl : (intsC p).length = p.length := by simp [intsC]
  refine CallA_view (ds := intsD p :: caps) (hw p hin (by omega)) rfl 1 (viewL_cons (viewV_sl rfl (by simp [intsC])) (viewL_inj caps)) ?_
  conv => whnf
  refine RetA_hand [1000006] [.d (.bool (wf p).2)] (fillH 97 g caps many 2000000 p.length p (i64 (wf p).1) (.bool (wf p).2)) rfl ⟨rfl, rfl, rfl, rfl, rfl, rfl, rfl, trivial⟩ rfl ?_
  refine ⟨rfl, p, (wf p).1, (wf p).2, rfl, ?_⟩
  simp only [fillF]
  cases hb : (wf p).2 <;> simp [packVv]

theorem fill96_succ {g : FuncId} {caps : List D} {wf : List Int → Int × Bool} {many left : Nat} (hm : many ≤ 1000) (ihl : Fill96 g caps wf many left) : Fill96 g caps wf many (left + 1) := by
  intro start p x b hl hf hp hin σ Y s
  refine fnC_of mixed tysOk Tryz.func97 rfl (ft := ft97) (args := fillArgs start (left + 1)) (show fnB ft97 Tryz.f97 8 = true from by decide +kernel) ?_
  conv => whnf
  refine LoopA_p (T := tys) tysOk (by exact drawsB_spec mixed tysOk (by decide +kernel)) (α := Nat × Int × Bool)
    (fun x => ⟨[(1, .d (i64 (left + 1 : Nat))), (2, .ptr 1000000 0), (3, .ptr 1000001 0), (4, .ptr 1000002 0), (5, .ptr 1000003 0), (6, .ptr 1000004 0), (7, .ptr 1000005 0), (11, .d (i64 x.1))], fillH 97 g caps many 900000 p.length p (i64 x.2.1) (.bool x.2.2), s⟩)
    (fun x => x.1 ≤ many + 1 ∧ fillF wf many (left + 1) p start = (List.range' x.1 (many - left - x.1)).findSome? fun (i : Nat) => fillF wf many left (p ++ [(i : Int)]) (i + 1)) (fun x => many + 1 - x.1) (start, x, b)
    ((Wk.move 1000006 900000 rfl rfl).trans (Wk.sub ⟨rfl, rfl, rfl, rfl, rfl, rfl, rfl, rfl, trivial⟩ ⟨rfl, rfl, rfl, rfl, rfl, rfl, rfl, trivial⟩)) ⟨hf, rfl⟩ ?_
  clear hf x b
  rintro ⟨i, x, b⟩ ⟨hi, he⟩
  simp only at hi he
  conv => whnf
  refine arith_in (wrap_i64 (by (try dsimp only); omega)) ?_
  conv => whnf
  refine brk_i (fun h1 => ?_) (fun h1 => ?_)
  · have h1 : i ≤ many - (left + 1) := by have := of_decide_eq_true h1; omega
    obtain ⟨m, hm1⟩ : ∃ m, many - left - i = m + 1 := ⟨many - left - i - 1, by omega⟩
    rw [hm1, List.range'_succ, List.findSome?_cons] at he
    have hpl : (intsC p).length = p.length := by simp [intsC]
    conv => whnf
    refine ownK_whole rfl ?_
    conv => whnf
    refine ownK.mk (by simp [Els.len, hpl]) ?_
    conv => whnf
    refine chk_i (by simp [Els.len, Els.part, Els.cons, V.cells, hpl]; omega) ?_
    conv => whnf
    refine arith_to (((i + 1 : Nat) : Int)) (by (try dsimp only); omega) (wrap_i64 (by (try dsimp only); omega)) ?_
    conv => whnf
    refine arith_to ((left : Int)) (by (try dsimp only); omega) (wrap_i64 (by (try dsimp only); omega)) ?_
    conv => whnf
    have hin' : ∀ j ∈ p ++ [(i : Int)], 0 ≤ j ∧ j < many := by
      intro j hj
      rcases List.mem_append.1 hj with hj | hj
      · exact hin j hj
      · rw [List.mem_singleton] at hj; subst hj; omega
    have ih := ihl (i + 1) (p ++ [(i : Int)]) x b (by omega) (by omega) (by simp; omega) hin' Y s
    refine CallA_y ih [1000000, 1000001, 1000002, 1000003, 1000004, 1000005, 32] rfl ⟨_, _, rfl, rfl, _, _, rfl, (by
        show some (Obj.box (Cells.vv [V.sl 32 1 0 ((((intsC p).drop 0).take p.length).length + 1)])) = some (Obj.box (Cells.vv [V.sl 32 1 0 (p ++ [(i : Int)]).length]))
        simp [intsC]), _, _, rfl, rfl, _, _, rfl, rfl, _, _, rfl, rfl, _, _, rfl, rfl, _, _, rfl, (by
        show some (Obj.arr 1 (Els.dd ((((intsC p).drop 0).take p.length) ++ [[i64 (i : Int)]]))) = some (Obj.arr 1 (Els.dd (intsC (p ++ [(i : Int)]))))
        simp [intsC, List.take_of_length_le]), rfl⟩ rfl rfl ?_
    rintro v h1 s' ⟨rfl, q, y, b', rfl, hpost⟩
    cases hF : fillF wf many left (p ++ [(i : Int)]) (i + 1) with
    | some r =>
      obtain ⟨q', y'⟩ := r
      rw [hF] at hpost he
      obtain ⟨rfl, rfl, rfl, rfl⟩ := hpost
      refine ⟨rfl, ?_⟩
      conv => whnf
      refine RetA_hand [102432] [.d (.bool true)] (fillH 97 g caps many 2000000 q.length q (i64 y) (.bool true)) rfl ⟨rfl, box_same rfl ⟨⟨rfl, rfl, rfl, rfl⟩, trivial⟩, rfl, rfl, rfl, box_same rfl ⟨⟨rfl, ⟨rfl, rfl⟩, ⟨rfl, rfl⟩, ⟨rfl, rfl⟩, ⟨rfl, rfl⟩, ⟨rfl, rfl⟩, ⟨rfl, rfl⟩, trivial⟩, trivial⟩, rfl, trivial⟩ rfl ?_
      refine ⟨rfl, q, y, true, rfl, ?_⟩
      rw [he]
      exact ⟨rfl, rfl, rfl, rfl⟩
    | none =>
      rw [hF] at hpost he
      obtain ⟨rfl, rfl⟩ := hpost
      refine ⟨rfl, ?_⟩
      conv => whnf
      refine arith_to (p.length : Int) (by simp) (wrap_i64 (by omega)) ?_
      conv => whnf
      refine chk_i (by simp; omega) ?_
      conv => whnf
      refine arith_to (((i + 1 : Nat) : Int)) (by (try dsimp only); omega) (wrap_i64 (by (try dsimp only); omega)) ?_
      conv => whnf
      have hm2 : many - left - (i + 1) = m := by omega
      refine ⟨(i + 1, y, b'), by simp only; omega, ⟨by simp only; omega, by simp only; rw [hm2]; exact he⟩, (Wk.move 102432 900000 rfl rfl).trans ((Wk.shrink 900000 p.length rfl).trans ?_)⟩
      have hsh : (intsC (p ++ [(i : Int)])).take p.length = intsC p := by simp [intsC, List.take_left']
      refine Wk.sub ⟨rfl, rfl, rfl, rfl, rfl, rfl, rfl, rfl, trivial⟩ ⟨rfl, ?_, rfl, rfl, rfl, rfl, ?_, trivial⟩
      · rfl
      · show some (Obj.arr 1 (Els.dd ((intsC (p ++ [(i : Int)])).take p.length))) = _
        rw [hsh]
  · have h1 : ¬ (i : Int) ≤ (many : Int) - ((left + 1 : Nat) : Int) := of_decide_eq_false h1
    rw [show many - left - i = 0 by omega] at he
    conv => whnf
    refine RetA_hand [900000] [.d (.bool false)] (fillH 97 g caps many 2000000 p.length p (i64 x) (.bool b)) rfl ⟨rfl, rfl, rfl, rfl, rfl, rfl, rfl, trivial⟩ rfl ?_
    refine ⟨rfl, p, x, b, rfl, ?_⟩
    rw [he]
    exact ⟨rfl, rfl⟩

theorem fill96 {g : FuncId} {caps : List D} {wf : List Int → Int × Bool} {many : Nat} (hm : many ≤ 1000) (hw : Want96 g caps wf many) (left : Nat) : Fill96 g caps wf many left := by
  induction left with
  | zero => exact fill96_zero hm hw
  | succ n ih => exact fill96_succ hm ih
end Go.PX

namespace Go.PX
open Go.Proofs

theorem fn97 (p : List Int) (hp : p.length < 1000000) : FnV Tryz.prog 85 [intsD p] (intsD p) := by
  refine fnV_of mixed tysOk Tryz.func85 rfl (ft := ft85) 1 (by decide +kernel) (by rfl) fun {σ} Y st => ?_
  conv => whnf
  refine ⟨fun b hb => ?_⟩
  cases b with
  | true =>
    have hp0 : p = [] := by
      cases p with
      | nil => rfl
      | cons a r => exact absurd (hb (by simp)) (by simp)
    subst hp0
    conv => whnf
    refine RetA_nil0 ?_
    exact RetA_view 0 rfl ⟨⟨rfl, rfl⟩, rfl⟩
  | false =>
    conv => whnf
    refine ownK.mk rfl ?_
    conv => whnf
    refine chk_i (by
      show (lenAllD 1 (p.map fun n => [i64 n]) && true) = true
      rw [lenAllD_map (fun x => ⟨rfl, rfl⟩)]; rfl) ?_
    conv => whnf
    refine chk_i (by simp [Els.len, Els.part]; omega) ?_
    conv => whnf
    exact RetA_sl (es := p.map fun n => [i64 n]) rfl (by simp [Els.len, Els.part]) ⟨⟨rfl, rfl⟩, rfl⟩

/-- The first one of the shortest lists that are wanted. -/
def chooseF {τ : Type} (wf : List Int → τ × Bool) (many : Nat) : Option (List Int × τ) := (List.range' 0 (many + 1)).findSome? fun (n : Nat) => fillF wf many n [] 0

theorem fillF_len {τ : Type} {wf : List Int → τ × Bool} {many : Nat} : ∀ {left : Nat} {p : List Int} {start : Nat} {q : List Int} {y : τ}, fillF wf many left p start = some (q, y) → q.length = p.length + left
  | 0, p, start, q, y, h => by
    simp only [fillF] at h
    split at h
    · cases h; rfl
    · cases h
  | left + 1, p, start, q, y, h => by
    simp only [fillF] at h
    obtain ⟨i, hi, h1⟩ := List.exists_of_findSome?_eq_some h
    have := fillF_len h1
    simp at this; omega

theorem fn61 (g : FuncId) (caps : List D) (wf : List Int → Int × Bool) (many : Nat) (hm : many ≤ 1000) (hw : Want96 g caps wf many) {σ : Type} (Y : Hd σ) (s : σ) :
    FnC Tryz.prog Y 71 [.d (i64 many), .d (.clo g caps)] [] s fun v h' s' => s' = s ∧ h' = [] ∧ (match chooseF wf many with
      | some (q, y) => v = .d (.tup [intsD q, i64 y, .bool true])
      | none => ∃ y, v = .d (.tup [intsD [], i64 y, .bool false])) := by
  refine fnC_of mixed tysOk Tryz.func71 rfl (ft := ft71) (args := [.d (i64 many), .d (.clo g caps)]) (show fnB ft71 Tryz.f71 2 = true from by decide +kernel) ?_
  conv => whnf
  refine arith_in (wrap_i64 (by (try dsimp only); omega)) ?_
  conv => whnf
  refine LoopA_p (T := tys) tysOk (by exact drawsB_spec mixed tysOk (by decide +kernel)) (α := Nat × Int × Bool)
    (fun x => ⟨[(2, .ptr 2 0), (3, .ptr 3 0), (4, .ptr 4 0), (5, .ptr 5 0), (6, .ptr 6 0), (7, .ptr 7 0), (11, .d (i64 (many + 1 : Nat))), (12, .d (i64 x.1))],
      [(2, .box (.dd [i64 many])), (3, .box (.dd [.clo g caps])), (4, .box (.vv [.sl 900000 1 0 0])), (5, .box (.dd [i64 x.2.1])), (6, .box (.dd [.bool x.2.2])), (7, .box (.vv [.clo 97 [.ptr 3 0, .ptr 4 0, .ptr 5 0, .ptr 6 0, .ptr 2 0, .ptr 7 0]])), (900000, .arr 1 (.dd []))], s⟩)
    (fun x => x.1 ≤ many + 1 ∧ chooseF wf many = (List.range' x.1 (many + 1 - x.1)).findSome? fun (n : Nat) => fillF wf many n [] 0) (fun x => many + 1 - x.1) (0, 0, false)
    ((Wk.bornBox 4 900000 1 rfl rfl rfl rfl).trans (Wk.sub ⟨rfl, rfl, rfl, rfl, rfl, rfl, rfl, rfl, trivial⟩ ⟨rfl, rfl, rfl, rfl, rfl, rfl, rfl, trivial⟩)) ⟨by simp, rfl⟩ ?_
  rintro ⟨n, x, b⟩ ⟨hn, he⟩
  simp only at hn he
  conv => whnf
  refine brk_i (fun h1 => ?_) (fun h1 => ?_)
  · have h1 : n < many + 1 := by have := of_decide_eq_true h1; omega
    obtain ⟨m, hm1⟩ : ∃ m, many + 1 - n = m + 1 := ⟨many - n, by omega⟩
    have hm2 : many + 1 - (n + 1) = m := by omega
    rw [hm1, List.range'_succ, List.findSome?_cons] at he
    conv => whnf
    refine CallA_w (fill96 hm hw n 0 [] x b (by omega) (by omega) (by simp; omega) (by simp) Y s) [3, 4, 5, 6, 2, 7, 900000] rfl ⟨_, _, rfl, rfl, _, _, rfl, rfl, _, _, rfl, rfl, _, _, rfl, rfl, _, _, rfl, rfl, _, _, rfl, rfl, _, _, rfl, rfl, rfl⟩ rfl rfl ?_
    rintro v h1 s' ⟨rfl, q, y, b', rfl, hpost⟩
    cases hF : fillF wf many n [] 0 with
    | some r =>
      obtain ⟨q', y'⟩ := r
      rw [hF] at hpost he
      obtain ⟨rfl, rfl, rfl, rfl⟩ := hpost
      refine ⟨rfl, ?_⟩
      conv => whnf
      refine ⟨⟨[(4, .ptr 4 0), (5, .ptr 5 0), (6, .ptr 6 0), (17, .d (.bool true))], [(4, .box (.dd [intsD q])), (5, .box (.dd [i64 y])), (6, .box (.dd [.bool true]))], s'⟩, (Wk.frz 1 [101088]).trans (Wk.sub ⟨rfl, rfl, rfl, rfl, trivial⟩ ⟨?_, rfl, rfl, trivial⟩), ?_⟩
      · exact get_frz (id := 101088) (sz := 1) (n := q.length) rfl (viewV_sl (es := intsC q) rfl (by simp [intsC]))
      conv => whnf
      refine DrawCall_v (fn97 q (by have := fillF_len hF; simp at this; omega)) rfl rfl ?_
      conv => whnf
      refine RetA_view 0 rfl ⟨rfl, rfl, ?_⟩
      rw [he]
      rfl
    | none =>
      rw [hF] at hpost he
      obtain ⟨rfl, rfl⟩ := hpost
      refine ⟨rfl, ?_⟩
      conv => whnf
      refine ⟨⟨[(2, .ptr 2 0), (3, .ptr 3 0), (4, .ptr 4 0), (5, .ptr 5 0), (6, .ptr 6 0), (7, .ptr 7 0), (11, .d (i64 (many + 1 : Nat))), (12, .d (i64 n)), (17, .d (.bool false))],
        [(2, .box (.dd [i64 many])), (3, .box (.dd [.clo g caps])), (4, .box (.vv [.sl 900000 1 0 0])), (5, .box (.dd [i64 y])), (6, .box (.dd [.bool b'])), (7, .box (.vv [.clo 97 [.ptr 3 0, .ptr 4 0, .ptr 5 0, .ptr 6 0, .ptr 2 0, .ptr 7 0]])), (900000, .arr 1 (.dd []))], s'⟩,
        (Wk.move 101088 900000 rfl rfl).trans (Wk.sub ⟨rfl, rfl, rfl, rfl, rfl, rfl, rfl, rfl, rfl, trivial⟩ ⟨rfl, rfl, rfl, rfl, rfl, rfl, rfl, trivial⟩), ?_⟩
      conv => whnf
      refine arith_in (wrap_i64 (by (try dsimp only); omega)) ?_
      conv => whnf
      exact ⟨(n + 1, y, b'), by simp only; omega, ⟨by simp only; omega, by simp only; rw [hm2]; exact he⟩, (Wk.sub ⟨rfl, rfl, rfl, rfl, rfl, rfl, rfl, rfl, trivial⟩ ⟨rfl, rfl, rfl, rfl, rfl, rfl, rfl, trivial⟩)⟩
  · have h1 : ¬ n < many + 1 := by have := of_decide_eq_false h1; omega
    rw [show many + 1 - n = 0 by omega] at he
    conv => whnf
    refine RetA_nil0 ?_
    refine RetA_view 0 rfl ⟨rfl, rfl, ?_⟩
    rw [he]
    exact ⟨x, rfl⟩

theorem fn98 (l : List Int) (v : Int) (hl : l.length < 4000000000000000000) : FnV Tryz.prog 98 [intsD l, i64 v] (i64 (indexOf (fun x => decide (v = x)) l 0)) := by
  refine fnV_of mixed tysOk Tryz.func98 rfl (ft := ft98) 2 (by decide +kernel) (by rfl) fun {σ} Y st => ?_
  conv => whnf
  refine LoopA_i (T := tys) tysOk (by exact drawsB_spec mixed tysOk (by decide +kernel)) l (fun i (_ : Unit) => ⟨[(0, .d (intsD l)), (1, .d (i64 v)), (7, .d (i64 l.length)), (8, .d (i64 i))], [], st⟩) (fun i r _ => indexOf (fun x => decide (v = x)) l 0 = indexOf (fun x => decide (v = x)) r i) ()
    (Wk.sub ⟨(by first | rfl | (simp only [List.length_map]; rfl) | simp [PX.get]), (by first | rfl | (simp only [List.length_map]; rfl) | simp [PX.get]), (by first | rfl | (simp only [List.length_map]; rfl) | simp [PX.get]), (by first | rfl | (simp only [List.length_map]; rfl) | simp [PX.get]), trivial⟩ trivial) rfl ?_ ?_
  · intro i x r _ hx hi hr he
    rw [indexOf] at he
    conv => whnf
    refine brk_i (fun _ => ?_) (fun h => absurd hi (by simpa using h))
    conv => whnf
    refine elemK_nat hx ?_
    conv => whnf
    refine brk_i (fun h1 => ?_) (fun h1 => ?_)
    · conv => whnf
      rw [if_pos h1] at he
      rw [he]
      exact RetA_view 0 rfl ⟨⟨rfl, rfl⟩, rfl⟩
    · conv => whnf
      rw [if_neg (by simp [h1])] at he
      refine arith_in (wrap_i64 (by (try dsimp only); omega)) ?_
      conv => whnf
      exact ⟨(), he, (Wk.sub ⟨(by first | rfl | (simp only [List.length_map]; rfl) | simp [PX.get]), (by first | rfl | (simp only [List.length_map]; rfl) | simp [PX.get]), (by first | rfl | (simp only [List.length_map]; rfl) | simp [PX.get]), (by first | rfl | (simp only [List.length_map]; rfl) | simp [PX.get]), trivial⟩ trivial)⟩
  · intro _ he
    conv => whnf
    refine brk_i (fun h => absurd h (by simp)) (fun _ => ?_)
    conv => whnf
    rw [he]
    exact RetA_view 0 rfl ⟨⟨rfl, rfl⟩, rfl⟩

theorem fn63 (l : List Int) (v : Int) (hl : l.length < 4000000000000000000) : FnV Tryz.prog 73 [intsD l, i64 v] (.bool (decide (v ∈ l))) := by
  refine fnV_of mixed tysOk Tryz.func73 rfl (ft := ft73) 2 (by decide +kernel) (by rfl) fun {σ} Y st => ?_
  conv => whnf
  refine CallA_v (fn98 l v hl) rfl rfl ?_
  conv => whnf
  refine RetA_view 0 rfl ⟨⟨?_, rfl⟩, rfl⟩
  have h1 := indexOf_any (fun x => decide (v = x)) l 0 (by omega)
  have h2 : (l.any fun x => decide (v = x)) = decide (v ∈ l) := by
    rw [Bool.eq_iff_iff]; simp
  rw [← h2, ← h1]; rfl

/-- What is wanted of doubts: the others do not contradict each other. -/
def doubtW (s : Shot) (off : Int) (q : List Int) : Int × Bool := ((withoutF q s.gauges 0).length, !(truthsS s off (withoutF q s.gauges 0)).isEmpty)

theorem withoutF_mem {α : Type} {q : List Int} : ∀ {l : List α} {i : Int}, ∀ x ∈ withoutF q l i, x ∈ l
  | [], i, x, h => by cases h
  | a :: r, i, x, h => by
    simp only [withoutF] at h
    split at h
    · exact List.mem_cons_of_mem _ (withoutF_mem x h)
    · rcases List.mem_cons.1 h with rfl | h
      · simp
      · exact List.mem_cons_of_mem _ (withoutF_mem x h)

theorem withoutF_len {α : Type} {q : List Int} : ∀ {l : List α} {i : Int}, (withoutF q l i).length ≤ l.length
  | [], i => by simp [withoutF]
  | a :: r, i => by
    simp only [withoutF]
    split
    · have := withoutF_len (q := q) (l := r) (i := i + 1); simp; omega
    · have := withoutF_len (q := q) (l := r) (i := i + 1); simp; omega

theorem LookOk.sub {s : Shot} {off : Int} {gs gs' : List Gauge} (h : LookOk s off gs) (hm : ∀ g ∈ gs', g ∈ gs) (hl : gs'.length ≤ gs.length) : LookOk s off gs' := ⟨h.off, h.shot, fun g hg => h.gok g (hm g hg), by have := h.len; omega⟩

theorem fn62 (s : Shot) (off : Int) (q : List Int) (h : LookOk s off s.gauges) (hq : q.length < 1000000) : FnV Tryz.prog 72 [intsD q, .ref (sCells s off)] (.tup [i64 (doubtW s off q).1, .bool (doubtW s off q).2]) := by
  refine fnV_of mixed tysOk Tryz.func72 rfl (ft := ft72) 2 (by decide +kernel) (by rfl) fun {σ} Y st => ?_
  conv => whnf
  have hlen := h.len
  refine LoopA_i (T := tys) tysOk (by exact drawsB_spec mixed tysOk (by decide +kernel)) s.gauges (fun i (acc : List Gauge) => ⟨[(0, .d (intsD q)), (1, .d (.ref (sCells s off))), (5, .sl 24 2 0 acc.length), (10, .d (gaugesD s.gauges)), (11, .d (i64 s.gauges.length)), (12, .d (i64 i))], [(24, .arr 2 (.dd (acc.map Gauge.cells)))], st⟩)
    (fun i r acc => acc.length ≤ i ∧ withoutF q s.gauges 0 = acc ++ withoutF q r i) []
    ((Wk.born 5 24 2 rfl rfl rfl).trans (Wk.sub ⟨(by first | rfl | (simp only [List.length_map]; rfl) | simp [PX.get]), (by first | rfl | (simp only [List.length_map]; rfl) | simp [PX.get]), (by first | rfl | (simp only [List.length_map]; rfl) | simp [PX.get]), (by first | rfl | (simp only [List.length_map]; rfl) | simp [PX.get]), (by first | rfl | (simp only [List.length_map]; rfl) | simp [PX.get]), (by first | rfl | (simp only [List.length_map]; rfl) | simp [PX.get]), trivial⟩ ⟨(by first | rfl | (simp only [List.length_map]; rfl) | simp [PX.get]), trivial⟩)) ⟨by simp, rfl⟩ ?_ ?_
  · intro i x r acc hx hi hr ⟨ha, he⟩
    rw [withoutF] at he
    conv => whnf
    refine brk_i (fun _ => ?_) (fun h => absurd hi (by simpa using h))
    conv => whnf
    refine elemK_nat hx ?_
    conv => whnf
    refine CallA_v (fn63 q i (by omega)) rfl rfl ?_
    conv => whnf
    refine brk_i (fun h1 => ?_) (fun h1 => ?_)
    · have h1 : (i : Int) ∉ q := by simpa using h1
      rw [if_neg h1] at he
      conv => whnf
      refine ownK_whole rfl ?_
      conv => whnf
      refine ownK.mk (by simp [Els.len]) ?_
      conv => whnf
      refine chk_i (by simp [Els.len, Els.part, Els.cons, V.cells]; omega) ?_
      conv => whnf
      refine arith_in (wrap_i64 (by (try dsimp only); omega)) ?_
      conv => whnf
      refine ⟨acc ++ [x], ⟨by simp; omega, by rw [he, List.append_assoc]; rfl⟩, Wk.sub ⟨rfl, rfl, ?_, rfl, rfl, rfl, trivial⟩ ⟨?_, trivial⟩⟩
      · simp [PX.get, Els.len, Els.part, Els.cons, V.cells]
      · simp [PX.get, Els.app, Els.part, Els.cons, V.cells, Gauge.cells, take_map]
    · have h1 : (i : Int) ∈ q := by simpa using h1
      rw [if_pos h1] at he
      conv => whnf
      refine arith_in (wrap_i64 (by (try dsimp only); omega)) ?_
      conv => whnf
      exact ⟨acc, ⟨by omega, he⟩, (Wk.sub ⟨(by first | rfl | (simp only [List.length_map]; rfl) | simp [PX.get]), (by first | rfl | (simp only [List.length_map]; rfl) | simp [PX.get]), (by first | rfl | (simp only [List.length_map]; rfl) | simp [PX.get]), (by first | rfl | (simp only [List.length_map]; rfl) | simp [PX.get]), (by first | rfl | (simp only [List.length_map]; rfl) | simp [PX.get]), (by first | rfl | (simp only [List.length_map]; rfl) | simp [PX.get]), trivial⟩ ⟨(by first | rfl | (simp only [List.length_map]; rfl) | simp [PX.get]), trivial⟩)⟩
  · intro acc ⟨ha, he⟩
    rw [withoutF, List.append_nil] at he
    conv => whnf
    refine brk_i (fun h => absurd h (by simp)) (fun _ => ?_)
    conv => whnf
    rw [← he] at ha ⊢
    refine CallA_view (ds := [.agg (sCells s off), gaugesD (withoutF q s.gauges 0)]) (fn64 s off (withoutF q s.gauges 0) (h.sub (fun g hg => withoutF_mem g hg) withoutF_len)) rfl 1 (viewL_cons rfl (viewL_cons (viewV_sl rfl (by simp)) rfl)) ?_
    conv => whnf
    exact RetA_view 0 rfl ⟨⟨rfl, rfl⟩, rfl⟩

def doubtsQ (s : Shot) (off : Int) : List Int :=
  match chooseF (doubtW s off) s.gauges.length with
  | some (q, _) => q
  | none => []

def doubtsE (c : Case) (i : Int) : List Int :=
  if openE c i = 0 then (match c.chain.shots[i.toNat]? with
    | some s => doubtsQ s c.chain.err
    | none => []) else []

theorem fn17 (c : Case) (i : Int) : FnV Tryz.prog 41 [c.d, i64 i] (.tup [intsD (doubtsE c i), i64 (openE c i)]) := by
  refine fnV_of mixed tysOk Tryz.func41 rfl (ft := ft41) 2 (by decide +kernel) (by rfl) fun {σ} Y st => ?_
  conv => whnf
  refine CallA_v (ds := [c.d, i64 i]) (fn57 c i) rfl rfl ?_
  by_cases h0 : openE c i = 0
  · obtain ⟨hc, s, hi, hs⟩ := openE_ok h0
    have hR := case_ok hc
    have hm := List.mem_of_getElem? hs
    have hL := hR.look hm
    have hr := (hR.shots s hm).1
    have hlen := hr.len
    have hD : openD c i = .agg (sCells s c.chain.err) := by simp [openD, h0, hs]
    rw [hD, h0]
    conv => whnf
    have hwant : Want96 72 [.ref (sCells s c.chain.err)] (doubtW s c.chain.err) s.gauges.length := fun q _ hq => fn62 s c.chain.err q hL (by omega)
    refine CallA_frz 1 [6] ?_
    refine CallA_sub (e' := [(2, .ptr 2 0), (4, .d .nils), (7, .d (i64 0))]) (h' := []) (args' := [.d (i64 s.gauges.length), .d (.clo 72 [.ref (sCells s c.chain.err)])]) ⟨rfl, rfl, rfl, trivial⟩ trivial (by simp only [List.length_map]; rfl) ?_
    refine CallA_y (fn61 72 [.ref (sCells s c.chain.err)] (doubtW s c.chain.err) s.gauges.length (by omega) hwant Y st) [] rfl rfl rfl rfl ?_
    rintro v h1 s' ⟨rfl, rfl, hv⟩
    cases hF : chooseF (doubtW s c.chain.err) s.gauges.length with
    | some r =>
      obtain ⟨q, y⟩ := r
      rw [hF] at hv
      simp only at hv
      subst hv
      refine ⟨rfl, ?_⟩
      conv => whnf
      refine RetA_view 0 rfl ⟨⟨?_, rfl⟩, rfl⟩
      simp [doubtsE, doubtsQ, h0, hs, hF, packD]
    | none =>
      rw [hF] at hv
      obtain ⟨y, rfl⟩ := hv
      refine ⟨rfl, ?_⟩
      conv => whnf
      refine RetA_view 0 rfl ⟨⟨?_, rfl⟩, rfl⟩
      simp [doubtsE, doubtsQ, h0, hs, hF, packD]
  · have hD : openD c i = .agg [.str ⟨#[]⟩, i64 0, i64 0, i64 0, i64 0, i64 0, i64 0, .nils, i64 0] := by simp [openD, h0]
    rw [hD]
    conv => whnf
    refine brk_i (fun h1 => ?_) (fun h1 => absurd h0 (by simpa using h1))
    conv => whnf
    refine RetA_nil0 ?_
    refine RetA_view 0 rfl ⟨⟨?_, rfl⟩, rfl⟩
    simp [doubtsE, h0, packD, intsD]
end Go.PX

namespace Go.PX
open Go.Proofs

/-- All ascending lists that go on so, with so many numbers to come. -/
def listsF (below : Nat) : Nat → List Int → Nat → List (List Int)
  | 0, p, _ => [p]
  | many + 1, p, start => (List.range' start (below - start)).flatMap fun (i : Nat) => listsF below many (p ++ [(i : Int)]) (i + 1)

theorem listsF_len (below : Nat) (hb : below ≤ 8) : ∀ (many : Nat) (p : List Int) (start : Nat), (listsF below many p start).length ≤ 8 ^ many
  | 0, p, start => by simp [listsF]
  | many + 1, p, start => by
    have key : ∀ (l : List Nat), (l.flatMap fun (i : Nat) => listsF below many (p ++ [(i : Int)]) (i + 1)).length ≤ l.length * 8 ^ many := by
      intro l
      induction l with
      | nil => simp
      | cons a r ih =>
        have := listsF_len below hb many (p ++ [(a : Int)]) (a + 1)
        simp only [List.flatMap_cons, List.length_append, List.length_cons, Nat.add_mul, Nat.one_mul]
        omega
    have h1 := key (List.range' start (below - start))
    simp only [List.length_range'] at h1
    rw [listsF, Nat.pow_succ]
    have h2 : (below - start) * 8 ^ many ≤ 8 * 8 ^ many := Nat.mul_le_mul_right _ (by omega)
    omega

def listsD (l : List (List Int)) : D := .vs (l.map fun q => [intsD q])

/-- Where the next number begins. -/
def startOk (p : List Int) (start : Nat) : Prop := (p = [] ∧ start = 0) ∨ ∃ q, p = q ++ [(start : Int) - 1]

theorem fn65 (below : Nat) (hb : below ≤ 8) : ∀ (many : Nat) (p : List Int) (start : Nat), many ≤ 8 → p.length + many ≤ 100 → start ≤ 1000 → startOk p start → FnV Tryz.prog 53 [intsD p, i64 many, i64 below] (listsD (listsF below many p start))
  | 0, p, start, hm, hp, hs, hst => by
    refine fnV_of mixed tysOk Tryz.func53 rfl (ft := ft53) 3 (by decide +kernel) (by rfl) fun {σ} Y st => ?_
    conv => whnf
    exact RetA_sl (es := [[intsD p]]) rfl rfl ⟨⟨rfl, rfl⟩, rfl⟩
  | many + 1, p, start, hm, hp, hs, hst => by
    refine fnV_of mixed tysOk Tryz.func53 rfl (ft := ft53) 3 (by decide +kernel) (by rfl) fun {σ} Y st => ?_
    conv => whnf
    have ih := fn65 below hb many
    have hpow : 8 ^ (many + 1) ≤ 134217728 := by
      have : 8 ^ (many + 1) ≤ 8 ^ 9 := Nat.pow_le_pow_right (by omega) (by omega)
      omega
    have hlen := listsF_len below hb (many + 1) p start
    obtain ⟨total, ht⟩ : ∃ t, t = listsF below (many + 1) p start := ⟨_, rfl⟩
    rw [← ht] at hlen ⊢
    refine brk_i (fun h1 => ?_) (fun h1 => ?_)
    case' refine_1 =>
      have h1 : 0 < p.length := by simpa using h1
      obtain ⟨q, hq⟩ : ∃ q, p = q ++ [(start : Int) - 1] := by
        rcases hst with ⟨rfl, _⟩ | h
        · simp at h1
        · exact h
      conv => whnf
      refine arith_to ((p.length - 1 : Nat) : Int) (by simp; omega) (wrap_i64 (by omega)) ?_
      conv => whnf
      refine elemK_i [i64 ((start : Int) - 1)] ⟨by omega, by rw [hq]; simp⟩ ?_
      conv => whnf
      refine arith_to ((start : Int)) (by (try dsimp only); omega) (wrap_i64 (by (try dsimp only); omega)) ?_
      conv => whnf
    case' refine_2 =>
      have h1 : start = 0 := by
        rcases hst with ⟨_, h⟩ | ⟨q, rfl⟩
        · exact h
        · simp at h1
      subst h1
      conv => whnf
    all_goals
      refine LoopA_p (T := tys) tysOk (by exact drawsB_spec mixed tysOk (by decide +kernel)) (α := Nat × List (List Int))
        (fun x => ⟨[(0, .d (intsD p)), (1, .d (i64 (many + 1 : Nat))), (2, .d (i64 below)), (8, .sl 41 1 0 x.2.length), (9, .d (i64 x.1))], [(41, .arr 1 (.dd (x.2.map fun q => [intsD q])))], st⟩)
        (fun x => x.1 ≤ max 1000 below ∧ total = x.2 ++ (List.range' x.1 (below - x.1)).flatMap fun (i : Nat) => listsF below many (p ++ [(i : Int)]) (i + 1)) (fun x => below - x.1) (_, [])
        ((Wk.born 8 41 1 rfl rfl rfl).trans (Wk.sub ⟨rfl, rfl, rfl, rfl, rfl, trivial⟩ ⟨rfl, trivial⟩)) ⟨by simp only; omega, ht⟩ ?_
      clear h1 hst ht
      rintro ⟨i, acc⟩ ⟨hi, he⟩
      simp only at hi he
      conv => whnf
      refine brk_i (fun h2 => ?_) (fun h2 => ?_)
      · have h2 : i < below := by have := of_decide_eq_true h2; omega
        obtain ⟨m, hm1⟩ : ∃ m, below - i = m + 1 := ⟨below - i - 1, by omega⟩
        have hm2 : below - (i + 1) = m := by omega
        rw [hm1, List.range'_succ, List.flatMap_cons] at he
        have hacc : acc.length + (listsF below many (p ++ [(i : Int)]) (i + 1)).length ≤ 134217728 := by
          have := hlen
          rw [he] at this
          simp only [List.length_append] at this
          omega
        conv => whnf
        refine ownK.mk rfl ?_
        conv => whnf
        refine chk_i (by
          show (lenAllD 1 (p.map fun n => [i64 n]) && true) = true
          rw [lenAllD_map (fun x => ⟨rfl, rfl⟩)]; rfl) ?_
        conv => whnf
        refine chk_i (by simp [Els.len, Els.part]; omega) ?_
        conv => whnf
        refine ownK_whole rfl ?_
        conv => whnf
        refine ownK.mk (by simp [Els.len, Els.part]) ?_
        conv => whnf
        refine chk_i (by simp [Els.len, Els.part, Els.cons, V.cells]; omega) ?_
        conv => whnf
        refine arith_to (many : Int) (by omega) (wrap_i64 (by omega)) ?_
        conv => whnf
        have hbuf : intsC (p ++ [(i : Int)]) = ((p.map fun n => [i64 n]).drop 0).take (((Els.part (.dd []) 0 0).len + (Els.dd (p.map fun n => [i64 n])).len)) ++ [[i64 (i : Int)]] := by
          simp [intsC, Els.len, Els.part, List.take_of_length_le]
        refine CallA_frz 1 [36] ?_
        refine CallA_sub (e' := [(0, .d (intsD p)), (1, .d (i64 (many + 1 : Nat))), (2, .d (i64 below)), (9, .d (i64 i)), (30, .sl 41 1 0 acc.length)]) (h' := [(41, .arr 1 (.dd (acc.map fun q => [intsD q])))])
          (args' := [.d (intsD (p ++ [(i : Int)])), .d (i64 many), .d (i64 below)]) ⟨rfl, rfl, rfl, rfl, rfl, trivial⟩ ⟨rfl, trivial⟩ ?_ ?_
        · exact replL_sl0 (ds := [i64 many, i64 below]) (viewV_sl' (es' := intsC (p ++ [(i : Int)])) rfl hbuf.symm (by simp [intsC, Els.len, Els.part, Els.cons, V.cells]))
        refine CallA_v (ih (p ++ [(i : Int)]) (i + 1) (by omega) (by simp; omega) (by omega) (.inr ⟨p, by simp⟩)) rfl rfl ?_
        conv => whnf
        refine ownK.mk (by simp [Els.len]) ?_
        conv => whnf
        refine chk_i (by
          show (lenAllD 1 ((listsF below many (p ++ [(i : Int)]) (i + 1)).map fun q => [intsD q]) && true) = true
          rw [lenAllD_map (fun x => ⟨rfl, rfl⟩)]; rfl) ?_
        conv => whnf
        refine chk_i (by simp [Els.len, Els.part]; omega) ?_
        conv => whnf
        refine arith_to ((i + 1 : Nat) : Int) (by omega) (wrap_i64 (by omega)) ?_
        conv => whnf
        refine ⟨(i + 1, acc ++ listsF below many (p ++ [(i : Int)]) (i + 1)), by simp only; omega, ⟨by simp only; omega, by simp only; rw [hm2, List.append_assoc]; exact he⟩, Wk.sub ⟨rfl, rfl, rfl, ?_, rfl, trivial⟩ ⟨?_, trivial⟩⟩
        · simp [PX.get, Els.len, Els.part]
        · simp [PX.get, Els.app, Els.part, List.take_of_length_le]
      · have h2 : ¬ i < below := by have := of_decide_eq_false h2; omega
        rw [show below - i = 0 by omega] at he
        conv => whnf
        simp only [List.range'_zero, List.flatMap_nil, List.append_nil] at he
        rw [he]
        exact RetA_sl rfl (by simp) ⟨⟨rfl, rfl⟩, rfl⟩
end Go.PX

namespace Go.PX
open Go.Proofs

theorem findSome_flatMap {α β γ : Type} (f : α → List β) (g : β → Option γ) : ∀ (l : List α), (l.flatMap f).findSome? g = l.findSome? fun a => (f a).findSome? g
  | [] => rfl
  | a :: r => by
    rw [List.flatMap_cons, List.findSome?_append, findSome_flatMap f g r, List.findSome?_cons]
    cases (f a).findSome? g <;> rfl

theorem listsF_nil (below : Nat) : ∀ (n : Nat) (p : List Int) (start : Nat), below < start + n → 0 < n → listsF below n p start = []
  | 0, p, start, _, h => absurd h (by omega)
  | n + 1, p, start, h, _ => by
    rw [listsF, List.flatMap_eq_nil_iff]
    intro i hi
    rw [List.mem_range'_1] at hi
    cases n with
    | zero => omega
    | succ n => exact listsF_nil below (n + 1) _ _ (by omega) (by omega)

theorem fill_lists {τ : Type} (wf : List Int → τ × Bool) (many : Nat) : ∀ (n : Nat) (p : List Int) (start : Nat), n ≤ many → fillF wf many n p start = (listsF many n p start).findSome? fun q => if (wf q).2 then some (q, (wf q).1) else none
  | 0, p, start, _ => by simp [fillF, listsF]
  | n + 1, p, start, hn => by
    rw [fillF, listsF, findSome_flatMap]
    have hsplit : List.range' start (many - start) = List.range' start (many - n - start) ++ List.range' (start + (many - n - start)) (many - start - (many - n - start)) := by
      rw [List.range'_append_1]; congr 1; omega
    rw [hsplit, List.findSome?_append]
    have h1 : ((List.range' (start + (many - n - start)) (many - start - (many - n - start))).findSome? fun (i : Nat) => (listsF many n (p ++ [(i : Int)]) (i + 1)).findSome? fun q => if (wf q).2 then some (q, (wf q).1) else none) = none := by
      rw [List.findSome?_eq_none_iff]
      intro i hi
      rw [List.mem_range'_1] at hi
      have : listsF many n (p ++ [(i : Int)]) (i + 1) = [] := by
        cases n with
        | zero => omega
        | succ n => exact listsF_nil many (n + 1) _ _ (by omega) (by omega)
      rw [this]; rfl
    rw [h1, Option.or_none]
    congr 1
    funext i
    exact fill_lists wf many n _ _ (by omega)

/-- The first one of lists in order that is wanted, by their number. -/
def firstL (w : List Int → Bool) (many : Nat) : Option (List Int) := (List.range' 0 (many + 1)).findSome? fun (n : Nat) => (listsF many n [] 0).find? w

theorem find_some {α τ : Type} (w : α → Bool) (y : α → τ) : ∀ (l : List α), (l.findSome? fun q => if w q then some (q, y q) else none) = (l.find? w).map fun q => (q, y q)
  | [] => rfl
  | a :: r => by
    rw [List.findSome?_cons, List.find?_cons]
    cases h : w a
    · simp [find_some w y r]
    · simp

theorem findSome_map {α β γ : Type} (f : α → Option β) (g : β → γ) : ∀ (l : List α), (l.findSome? fun a => (f a).map g) = (l.findSome? f).map g
  | [] => rfl
  | a :: r => by
    rw [List.findSome?_cons, List.findSome?_cons]
    cases h : f a with
    | none => simp [findSome_map f g r]
    | some b => simp

theorem findSome_congr {α β : Type} {f g : α → Option β} : ∀ {l : List α}, (∀ a ∈ l, f a = g a) → l.findSome? f = l.findSome? g
  | [], _ => rfl
  | a :: r, h => by
    rw [List.findSome?_cons, List.findSome?_cons, h a (by simp), findSome_congr fun b hb => h b (by simp [hb])]

theorem choose_first {τ : Type} (wf : List Int → τ × Bool) (many : Nat) : chooseF wf many = (firstL (fun q => (wf q).2) many).map fun q => (q, (wf q).1) := by
  unfold chooseF firstL
  rw [← findSome_map]
  refine findSome_congr fun n hn => ?_
  rw [List.mem_range'_1] at hn
  rw [fill_lists wf many n [] 0 (by omega), find_some (fun q => (wf q).2)]

/-- What is wanted of doubts, as the reference says it. -/
def doubtR (s : Shot) (off : Int) (q : List Int) : Bool := (rangeS s off (withoutF q s.gauges 0) s.set).2

theorem doubtsQ_eq (s : Shot) (off : Int) : doubtsQ s off = (firstL (doubtR s off) s.gauges.length).getD [] := by
  unfold doubtsQ
  rw [choose_first]
  have : (fun q => (doubtW s off q).2) = doubtR s off := by
    funext q
    simp only [doubtW, doubtR, rangeS_some]
  rw [this]
  cases firstL (doubtR s off) s.gauges.length <;> rfl

theorem listsF_mem (below : Nat) : ∀ (n : Nat) (p : List Int) (start : Nat), ∀ q ∈ listsF below n p start, q.length = p.length + n
  | 0, p, start, q, h => by rw [listsF, List.mem_singleton] at h; rw [h]; rfl
  | n + 1, p, start, q, h => by
    rw [listsF, List.mem_flatMap] at h
    obtain ⟨i, _, h⟩ := h
    have := listsF_mem below n _ _ q h
    simp at this; omega

end Go.PX

namespace Go.PX
open Go.Proofs

structure Truth where
  depth : Int
  wind : Int
  current : Int
  swell : Int
  hold : Int
  thick : List Int
def Truth.cells (t : Truth) : List D := [i64 t.depth, i64 t.wind, i64 t.current, i64 t.swell, i64 t.hold, intsD t.thick]
def Truth.d (t : Truth) : D := .agg t.cells
def Ship.cells (s : Ship) : List D := [i64 s.wind, i64 s.current, i64 s.swell, i64 s.yaw]
def Ship.d (s : Ship) : D := .agg s.cells
def forceD (s : Ship) (t : Truth) : D := .agg (s.cells ++ t.cells)

/-- What is needed of a ship and a truth. -/
structure ForceOk (s : Ship) (t : Truth) : Prop where
  wind : 0 ≤ s.wind ∧ s.wind ≤ 10000
  current : 0 ≤ s.current ∧ s.current ≤ 10000
  swell : 0 ≤ s.swell ∧ s.swell ≤ 10000
  yaw : 0 ≤ s.yaw ∧ s.yaw ≤ 20
  tdepth : 0 ≤ t.depth ∧ t.depth ≤ 1000
  twind : 0 ≤ t.wind ∧ t.wind ≤ 80
  tcurrent : 0 ≤ t.current ∧ t.current ≤ 80
  tswell : 0 ≤ t.swell ∧ t.swell ≤ 150
  thold : 0 ≤ t.hold ∧ t.hold ≤ 200000

theorem prod_bd {a b : Int} (A B : Int) (ha : 0 ≤ a ∧ a ≤ A) (hb : 0 ≤ b ∧ b ≤ B) : 0 ≤ a * b ∧ a * b ≤ A * B :=
  ⟨Int.mul_nonneg ha.1 hb.1, Int.mul_le_mul ha.2 hb.2 hb.1 (by omega)⟩

theorem fn99 (s : Ship) (t : Truth) (h : ForceOk s t) : FnV Tryz.prog 56 [forceD s t] (i64 (t.wind * t.wind * s.wind)) := by
  refine fnV_of mixed tysOk Tryz.func56 rfl (ft := ft56) 1 (by decide +kernel) (by rfl) fun {σ} Y st => ?_
  conv => whnf
  have h1 := prod_bd 80 80 h.twind h.twind
  have h2 := prod_bd 6400 10000 h1 h.wind
  refine arith_in (wrap_i64 (by (try dsimp only); omega)) ?_
  conv => whnf
  refine arith_in (wrap_i64 (by (try dsimp only); omega)) ?_
  conv => whnf
  exact RetA_view 0 rfl ⟨⟨rfl, rfl⟩, rfl⟩

theorem fn100 (s : Ship) (t : Truth) (h : ForceOk s t) : FnV Tryz.prog 57 [forceD s t] (i64 (t.current * t.current * s.current)) := by
  refine fnV_of mixed tysOk Tryz.func57 rfl (ft := ft57) 1 (by decide +kernel) (by rfl) fun {σ} Y st => ?_
  conv => whnf
  have h1 := prod_bd 80 80 h.tcurrent h.tcurrent
  have h2 := prod_bd 6400 10000 h1 h.current
  refine arith_in (wrap_i64 (by (try dsimp only); omega)) ?_
  conv => whnf
  refine arith_in (wrap_i64 (by (try dsimp only); omega)) ?_
  conv => whnf
  exact RetA_view 0 rfl ⟨⟨rfl, rfl⟩, rfl⟩

theorem fn102 (s : Ship) (t : Truth) (h : ForceOk s t) : FnV Tryz.prog 59 [forceD s t] (i64 (t.swell * s.swell)) := by
  refine fnV_of mixed tysOk Tryz.func59 rfl (ft := ft59) 1 (by decide +kernel) (by rfl) fun {σ} Y st => ?_
  conv => whnf
  have h1 := prod_bd 150 10000 h.tswell h.swell
  refine arith_in (wrap_i64 (by (try dsimp only); omega)) ?_
  conv => whnf
  exact RetA_view 0 rfl ⟨⟨rfl, rfl⟩, rfl⟩

def upF (n b : Int) : Int := (n + b - 1).tdiv b
def pullF (s : Ship) (t : Truth) (out : Int) : Int := upF ((upF (t.wind * t.wind * s.wind + t.current * t.current * s.current) 100 + t.swell * s.swell) * (1000 + s.yaw * out)) 1000

theorem upF_bd {n b : Int} (N : Int) (hn : 0 ≤ n ∧ n ≤ N) (hb : 1 ≤ b) : 0 ≤ upF n b ∧ upF n b ≤ N + b := by
  unfold upF
  rw [Int.tdiv_eq_ediv_of_nonneg (by omega)]
  constructor
  · exact Int.ediv_nonneg (by omega) (by omega)
  · exact Int.le_trans (Int.ediv_le_self _ (by omega)) (by omega)

theorem pull_bds {s : Ship} {t : Truth} (h : ForceOk s t) {out : Int} (ho : 0 ≤ out ∧ out ≤ 1000) :
    (0 ≤ t.wind * t.wind * s.wind ∧ t.wind * t.wind * s.wind ≤ 64000000) ∧ (0 ≤ t.current * t.current * s.current ∧ t.current * t.current * s.current ≤ 64000000) ∧
    (0 ≤ upF (t.wind * t.wind * s.wind + t.current * t.current * s.current) 100 ∧ upF (t.wind * t.wind * s.wind + t.current * t.current * s.current) 100 ≤ 128000100) ∧
    (0 ≤ t.swell * s.swell ∧ t.swell * s.swell ≤ 1500000) ∧ (0 ≤ s.yaw * out ∧ s.yaw * out ≤ 20000) ∧
    (0 ≤ (upF (t.wind * t.wind * s.wind + t.current * t.current * s.current) 100 + t.swell * s.swell) * (1000 + s.yaw * out) ∧ (upF (t.wind * t.wind * s.wind + t.current * t.current * s.current) 100 + t.swell * s.swell) * (1000 + s.yaw * out) ≤ 130000000 * 21000) ∧
    (0 ≤ pullF s t out ∧ pullF s t out ≤ 3000000000000) := by
  have h1 := prod_bd 6400 10000 (prod_bd 80 80 h.twind h.twind) h.wind
  have h2 := prod_bd 6400 10000 (prod_bd 80 80 h.tcurrent h.tcurrent) h.current
  have h3 := upF_bd (n := t.wind * t.wind * s.wind + t.current * t.current * s.current) (b := 100) 128000000 (by omega) (by omega)
  have h4 := prod_bd 150 10000 h.tswell h.swell
  have h5 := prod_bd 20 1000 h.yaw ho
  have h6 := prod_bd (a := upF (t.wind * t.wind * s.wind + t.current * t.current * s.current) 100 + t.swell * s.swell) (b := 1000 + s.yaw * out) 130000000 21000 (by omega) (by omega)
  have h7 := upF_bd (n := (upF (t.wind * t.wind * s.wind + t.current * t.current * s.current) 100 + t.swell * s.swell) * (1000 + s.yaw * out)) (b := 1000) (130000000 * 21000) h6 (by omega)
  refine ⟨by omega, by omega, by omega, by omega, by omega, h6, ?_⟩
  unfold pullF
  omega

theorem fn73 (s : Ship) (t : Truth) (out : Int) (h : ForceOk s t) (ho : 0 ≤ out ∧ out ≤ 1000) : FnV Tryz.prog 24 [forceD s t, i64 out] (i64 (pullF s t out)) := by
  refine fnV_of mixed tysOk Tryz.func24 rfl (ft := ft24) 2 (by decide +kernel) (by rfl) fun {σ} Y st => ?_
  conv => whnf
  obtain ⟨b1, b2, b3, b4, b5, b6, b7⟩ := pull_bds h ho
  refine LoopA_p (T := tys) tysOk (by exact drawsB_spec mixed tysOk (by decide +kernel)) (α := Nat × Int)
    (fun x => ⟨[(1, .d (i64 out)), (2, .ptr 2 0), (5, .d (i64 x.2)), (12, .d (.agg [.mth 56 [forceD s t], .mth 57 [forceD s t]])), (13, .d (i64 x.1))], [(2, .box (.dd (s.cells ++ t.cells)))], st⟩)
    (fun x => (x.1 = 0 ∧ x.2 = 0) ∨ (x.1 = 1 ∧ x.2 = t.wind * t.wind * s.wind) ∨ (x.1 = 2 ∧ x.2 = t.wind * t.wind * s.wind + t.current * t.current * s.current)) (fun x => 2 - x.1) (0, 0)
    (Wk.sub ⟨(by first | rfl | (simp only [List.length_map]; rfl) | simp [PX.get]), (by first | rfl | (simp only [List.length_map]; rfl) | simp [PX.get]), (by first | rfl | (simp only [List.length_map]; rfl) | simp [PX.get]), (by first | rfl | (simp only [List.length_map]; rfl) | simp [PX.get]), (by first | rfl | (simp only [List.length_map]; rfl) | simp [PX.get]), trivial⟩ ⟨(by first | rfl | (simp only [List.length_map]; rfl) | simp [PX.get]), trivial⟩) (.inl ⟨rfl, rfl⟩) ?_
  rintro ⟨n, sum⟩ hn
  simp only at hn
  rcases hn with ⟨rfl, rfl⟩ | ⟨rfl, rfl⟩ | ⟨rfl, rfl⟩
  · conv => whnf
    refine CallA_v (fn99 s t h) rfl rfl ?_
    conv => whnf
    refine arith_in (wrap_i64 (by (try dsimp only); omega)) ?_
    conv => whnf
    refine arith_in (wrap_i64 (by (try dsimp only); omega)) ?_
    conv => whnf
    refine ⟨(1, t.wind * t.wind * s.wind), by simp, .inr (.inl ⟨rfl, rfl⟩), Wk.sub ⟨rfl, rfl, by simp [PX.get], rfl, rfl, trivial⟩ ⟨rfl, trivial⟩⟩
  · conv => whnf
    refine CallA_v (fn100 s t h) rfl rfl ?_
    conv => whnf
    refine arith_in (wrap_i64 (by (try dsimp only); omega)) ?_
    conv => whnf
    refine arith_in (wrap_i64 (by (try dsimp only); omega)) ?_
    conv => whnf
    refine ⟨(2, t.wind * t.wind * s.wind + t.current * t.current * s.current), by simp, .inr (.inr ⟨rfl, rfl⟩), (Wk.sub ⟨(by first | rfl | (simp only [List.length_map]; rfl) | simp [PX.get]), (by first | rfl | (simp only [List.length_map]; rfl) | simp [PX.get]), (by first | rfl | (simp only [List.length_map]; rfl) | simp [PX.get]), (by first | rfl | (simp only [List.length_map]; rfl) | simp [PX.get]), (by first | rfl | (simp only [List.length_map]; rfl) | simp [PX.get]), trivial⟩ ⟨(by first | rfl | (simp only [List.length_map]; rfl) | simp [PX.get]), trivial⟩)⟩
  · conv => whnf
    refine DrawCall_v (ds := [i64 (t.wind * t.wind * s.wind + t.current * t.current * s.current), i64 100]) (fn101 _ 100 (by omega) (by omega)) rfl rfl ?_
    conv => whnf
    refine DrawCall_v (ds := [forceD s t]) (fn102 s t h) rfl rfl ?_
    conv => whnf
    have e1 : (t.wind * t.wind * s.wind + t.current * t.current * s.current + 100 - 1).tdiv 100 = upF (t.wind * t.wind * s.wind + t.current * t.current * s.current) 100 := rfl
    rw [e1]
    refine arith_in (wrap_i64 (by omega)) ?_
    conv => whnf
    refine arith_in (wrap_i64 (by (try dsimp only); omega)) ?_
    conv => whnf
    refine arith_in (wrap_i64 (by (try dsimp only); omega)) ?_
    conv => whnf
    refine arith_in (wrap_i64 (by omega)) ?_
    conv => whnf
    refine CallA_v (ds := [i64 ((upF (t.wind * t.wind * s.wind + t.current * t.current * s.current) 100 + t.swell * s.swell) * (1000 + s.yaw * out)), i64 1000]) (fn101 _ 1000 (by omega) (by omega)) rfl rfl ?_
    conv => whnf
    exact RetA_view 0 rfl ⟨⟨rfl, rfl⟩, rfl⟩

theorem fn82 (s : Ship) (t : Truth) (out : Int) (h : ForceOk s t) (ho : 0 ≤ out ∧ out ≤ 1000) : FnV Tryz.prog 27 [s.d, t.d, i64 out] (i64 (pullF s t out)) := by
  refine fnV_of mixed tysOk Tryz.func27 rfl (ft := ft27) 3 (by decide +kernel) (by rfl) fun {σ} Y st => ?_
  conv => whnf
  obtain ⟨b1, b2, b3, b4, b5, b6, b7⟩ := pull_bds h ho
  have c1 := prod_bd 80 80 h.twind h.twind
  have c2 := prod_bd 80 80 h.tcurrent h.tcurrent
  refine arith_in (wrap_i64 (by (try dsimp only); omega)) ?_
  conv => whnf
  refine arith_in (wrap_i64 (by (try dsimp only); omega)) ?_
  conv => whnf
  refine arith_in (wrap_i64 (by (try dsimp only); omega)) ?_
  conv => whnf
  refine arith_in (wrap_i64 (by (try dsimp only); omega)) ?_
  conv => whnf
  refine arith_in (wrap_i64 (by (try dsimp only); omega)) ?_
  conv => whnf
  refine DrawCall_v (ds := [i64 (t.wind * t.wind * s.wind + t.current * t.current * s.current), i64 100]) (fn83 _ 100 (by omega) (by omega)) rfl rfl ?_
  conv => whnf
  have e1 : (t.wind * t.wind * s.wind + t.current * t.current * s.current + 100 - 1).tdiv 100 = upF (t.wind * t.wind * s.wind + t.current * t.current * s.current) 100 := rfl
  rw [e1]
  refine arith_in (wrap_i64 (by (try dsimp only); omega)) ?_
  conv => whnf
  refine arith_in (wrap_i64 (by omega)) ?_
  conv => whnf
  refine arith_in (wrap_i64 (by (try dsimp only); omega)) ?_
  conv => whnf
  refine arith_in (wrap_i64 (by (try dsimp only); omega)) ?_
  conv => whnf
  refine arith_in (wrap_i64 (by omega)) ?_
  conv => whnf
  refine DrawCall_v (ds := [i64 ((upF (t.wind * t.wind * s.wind + t.current * t.current * s.current) 100 + t.swell * s.swell) * (1000 + s.yaw * out)), i64 1000]) (fn83 _ 1000 (by omega) (by omega)) rfl rfl ?_
  conv => whnf
  exact RetA_view 0 rfl ⟨⟨rfl, rfl⟩, rfl⟩
end Go.PX

namespace Go.PX
open Go.Proofs

/-- What is known of new shots, by their indices. -/
def freshM : List Shot → Int → List (D × D)
  | [], _ => []
  | s :: r, i => (i64 i, s.new.d) :: freshM r (i + 1)

theorem freshM_append : ∀ (l : List Shot) (x : Shot) (i : Int), freshM (l ++ [x]) i = freshM l i ++ [(i64 (i + l.length), x.new.d)]
  | [], x, i => by simp [freshM]
  | s :: r, x, i => by
    have : i + 1 + (r.length : Int) = i + ((s :: r).length : Nat) := by simp only [List.length_cons]; omega
    simp only [List.cons_append, freshM, freshM_append r x (i + 1), this]

theorem freshM_none : ∀ (l : List Shot) (i n : Int) (j : Nat), i + l.length ≤ n → findD (i64 n) (freshM l i) j = some none
  | [], i, n, j, _ => rfl
  | s :: r, i, n, j, h => by
    simp only [List.length_cons] at h
    have : decide (n = i) = false := by simp; omega
    simp only [freshM, findD, sameD, decide_true, this]
    exact freshM_none r (i + 1) n (j + 1) (by omega)

theorem freshM_some : ∀ (l : List Shot) (i : Int) (k j : Nat) (s : Shot), l[k]? = some s → findD (i64 (i + k)) (freshM l i) j = some (some (j + k, s.new.d))
  | [], i, k, j, s, h => by simp at h
  | x :: r, i, 0, j, s, h => by
    simp at h; subst h
    simp [freshM, findD, sameD]
  | x :: r, i, k + 1, j, s, h => by
    have h : r[k]? = some s := by simpa using h
    have : decide (i + ((k + 1 : Nat) : Int) = i) = false := by simp; omega
    simp only [freshM, findD, sameD, decide_true, this]
    have := freshM_some r (i + 1) k (j + 1) s h
    rw [show i + ((k + 1 : Nat) : Int) = i + 1 + (k : Int) by omega, this]
    congr 3; omega

def thickL (c : Case) : List Span := c.chain.shots.map fun s => (rangeS s c.chain.err s.gauges c.day).1
def soundE (c : Case) : Int := soundL c.chain.err c.day c.chain.shots 0
def moorC (c : Case) : List D := c.cells ++ [spansD (thickL c), .mv (freshM c.chain.shots 0)]
def moorD (c : Case) : D := .ref (moorC c)

theorem soundL_zero {off day : Int} : ∀ {l : List Shot} {e : Int}, soundL off day l e = 0 → e = 0 ∧ ∀ s ∈ l, (rangeS s off s.gauges day).2 = true
  | [], e, h => ⟨h, fun s hs => by cases hs⟩
  | x :: r, e, h => by
    simp only [soundL] at h
    split at h
    · rename_i he
      obtain ⟨h1, h2⟩ := soundL_zero h
      split at h1
      · rename_i hx
        refine ⟨he, fun s hs => ?_⟩
        rcases List.mem_cons.1 hs with rfl | hs
        · exact hx
        · exact h2 s hs
      · cases h1
    · rename_i he; exact absurd h he

theorem soundL_eight {off day : Int} : ∀ (l : List Shot), soundL off day l 8 = 8
  | [] => rfl
  | x :: r => by simp [soundL]

theorem fn66 (c : Case) (e : Int) (hc : e = 0 → CaseR c) : FnV Tryz.prog 28 [c.d, i64 e] (.tup [if e = 0 then (if soundE c = 0 then moorD c else .nilp) else .nilp, i64 (if e = 0 then soundE c else e)]) := by
  refine fnV_of mixed tysOk Tryz.func28 rfl (ft := ft28) 2 (by decide +kernel) (by rfl) fun {σ} Y st => ?_
  conv => whnf
  refine brk_i (fun h1 => ?_) (fun h1 => ?_)
  · have h1 : e ≠ 0 := by simpa using h1
    conv => whnf
    refine RetA_view 0 rfl ⟨⟨?_, rfl⟩, rfl⟩
    simp [h1, packD]
  have h1 : e = 0 := by simpa using h1
  have hR := hc h1
  subst h1
  simp only [if_true]
  have hlen := hR.lens
  obtain ⟨sE, hsE⟩ : ∃ x, x = soundE c := ⟨_, rfl⟩
  rw [← hsE]
  conv => whnf
  refine LoopA_i (T := tys) tysOk (by exact drawsB_spec mixed tysOk (by decide +kernel)) c.chain.shots (fun i (_ : Unit) => ⟨[(2, .ptr 2 0), (6, .ptr 17 0), (20, .d (shotsD c.chain.shots)), (21, .d (i64 c.chain.shots.length)), (22, .d (i64 i))],
      [(2, .box (.dd c.cells)), (17, .box (.vv (inj c.cells ++ [.sl 47 2 0 i, .mp 15]))), (47, .arr 2 (.dd (((thickL c).take i).map Span.cells))), (15, .map (freshM (c.chain.shots.take i) 0))], st⟩)
    (fun i r _ => (∀ s ∈ r, s ∈ c.chain.shots) ∧ sE = soundL c.chain.err c.day r 0) ()
    ((Wk.bornAt 17 47 2 (inj c.cells) [.mp 15] rfl rfl rfl rfl).trans (Wk.sub ⟨(by first | rfl | (simp only [List.length_map]; rfl) | simp [PX.get]), (by first | rfl | (simp only [List.length_map]; rfl) | simp [PX.get]), (by first | rfl | (simp only [List.length_map]; rfl) | simp [PX.get]), (by first | rfl | (simp only [List.length_map]; rfl) | simp [PX.get]), (by first | rfl | (simp only [List.length_map]; rfl) | simp [PX.get]), trivial⟩ ⟨(by first | rfl | (simp only [List.length_map]; rfl) | simp [PX.get]), (by first | rfl | (simp only [List.length_map]; rfl) | simp [PX.get]), (by first | rfl | (simp only [List.length_map]; rfl) | simp [PX.get]), (by first | rfl | (simp only [List.length_map]; rfl) | simp [PX.get]), trivial⟩)) ⟨fun _ h => h, hsE⟩ ?_ ?_
  · intro i x r _ hx hi hr ⟨hm, he⟩
    have hmx := hm x (by simp)
    have hL := hR.look hmx
    have hday := hR.day
    rw [soundL, if_pos rfl] at he
    have htk : c.chain.shots.take (i + 1) = c.chain.shots.take i ++ [x] := by rw [List.take_succ, hx]; rfl
    have htt : (thickL c).take (i + 1) = (thickL c).take i ++ [(rangeS x c.chain.err x.gauges c.day).1] := by
      rw [List.take_succ]
      simp [thickL, hx]
    have hlt : ((thickL c).take i).length = i := by simp [thickL]; omega
    have hlt2 : min i (thickL c).length = i := by simpa using hlt
    conv => whnf
    refine brk_i (fun _ => ?_) (fun h => absurd hi (by simpa using h))
    conv => whnf
    refine elemK_nat hx ?_
    conv => whnf
    refine CallA_v (ds := [.agg (sCells x c.chain.err), i64 c.day]) (fn58 x c.chain.err c.day hL (by omega)) rfl rfl ?_
    conv => whnf
    refine brk_i (fun h2 => ?_) (fun h2 => ?_)
    · have h2 : (rangeS x c.chain.err x.gauges c.day).2 = false := by simpa using h2
      rw [h2] at he
      simp only [Bool.false_eq_true, if_false, soundL_eight] at he
      conv => whnf
      rw [he]
      exact RetA_view 0 rfl ⟨⟨rfl, rfl⟩, rfl⟩
    · have h2 : (rangeS x c.chain.err x.gauges c.day).2 = true := by simpa using h2
      rw [h2] at he
      simp only [if_true] at he
      conv => whnf
      refine ownK_whole rfl ?_
      conv => whnf
      refine ownK.mk (by simp [Els.len, hlt2]) ?_
      conv => whnf
      refine chk_i (by simp [Els.len, Els.part, Els.cons, V.cells, hlt2]; omega) ?_
      conv => whnf
      refine ⟨none, freshM_none _ 0 i 0 (by simp; omega), ?_⟩
      conv => whnf
      refine arith_in (wrap_i64 (by (try dsimp only); omega)) ?_
      conv => whnf
      refine ⟨(), ⟨fun s hs => hm s (by simp [hs]), he⟩, Wk.sub ⟨rfl, rfl, rfl, rfl, rfl, trivial⟩ ⟨rfl, ?_, ?_, ?_, trivial⟩⟩
      · show some (Obj.box (.vv (inj c.cells ++ [.sl 47 2 0 ((((((thickL c).take i).map Span.cells).drop 0).take i).length + 1), .mp 15]))) = _
        rw [List.drop_zero, List.take_of_length_le (by simp; omega)]; simp only [List.length_map, hlt]
      · show some (Obj.arr 2 (.dd (((((thickL c).take i).map Span.cells).drop 0).take i ++ [(rangeS x c.chain.err x.gauges c.day).1.cells]))) = _
        rw [List.drop_zero, List.take_of_length_le (by simp; omega), htt]; simp
      · show some (Obj.map (freshM (c.chain.shots.take i) 0 ++ [(i64 i, x.new.d)])) = _
        rw [htk, freshM_append]
        have : ((c.chain.shots.take i).length : Int) = i := by simp; omega
        rw [this, Int.zero_add]
  · intro _ ⟨_, he⟩
    rw [soundL] at he
    subst he
    conv => whnf
    refine brk_i (fun h => absurd h (by simp)) (fun _ => ?_)
    conv => whnf
    have htl : (thickL c).take c.chain.shots.length = thickL c := List.take_of_length_le (by simp [thickL])
    refine RetA_view 2 (ds := [.ref (c.cells ++ [spansD (thickL c), .mv (freshM (c.chain.shots.take c.chain.shots.length) 0)]), i64 0]) (viewL_cons (viewV_ptr rfl (viewL_app (viewL_cons (viewV_sl' (es' := (thickL c).map Span.cells) rfl (by rw [htl]) (by simp [thickL])) (viewL_cons (viewV_mp rfl) rfl)))) rfl) ⟨⟨?_, rfl⟩, rfl⟩
    rw [List.take_length]
    simp [packD, moorD, moorC]
end Go.PX

namespace Go.PX
open Go.Proofs

theorem onF_le {set fresh wear day : Int} (hf : 0 ≤ fresh) (hw : 0 ≤ wear) (hd : set ≤ day) : 0 ≤ onF set fresh wear day ∧ onF set fresh wear day ≤ fresh := by
  have := Int.mul_nonneg hw (show 0 ≤ day - set by omega)
  unfold onF
  omega

theorem fold_bd {set day : Int} (hd : set ≤ day) : ∀ (l : List (Int × (Int × Int))) (acc : Span × Bool), (∀ t ∈ l, (0 ≤ t.1 ∧ t.1 ≤ 1000000) ∧ (0 ≤ t.2.1 ∧ t.2.1 ≤ 1000000) ∧ (0 ≤ t.2.2 ∧ t.2.2 ≤ 1000000)) →
    (0 ≤ acc.1.lo ∧ acc.1.lo ≤ 1000000) ∧ (0 ≤ acc.1.hi ∧ acc.1.hi ≤ 1000000) → (0 ≤ (l.foldl (thickStep set day) acc).1.lo ∧ (l.foldl (thickStep set day) acc).1.lo ≤ 1000000) ∧ (0 ≤ (l.foldl (thickStep set day) acc).1.hi ∧ (l.foldl (thickStep set day) acc).1.hi ≤ 1000000)
  | [], acc, _, h => h
  | t :: l, acc, ht, h => by
    rw [List.foldl_cons]
    refine fold_bd hd l _ (fun u hu => ht u (by simp [hu])) ?_
    obtain ⟨h1, h2, h3⟩ := ht t (by simp)
    have k1 := onF_le (set := set) (fresh := t.2.1) (wear := t.1) (day := day) h2.1 h1.1 hd
    have k2 := onF_le (set := set) (fresh := t.2.2) (wear := t.1) (day := day) h3.1 h1.1 hd
    unfold thickStep
    cases acc.2 <;> simp only [if_true, Bool.false_eq_true, if_false] <;> omega

theorem rangeS_bd {s : Shot} {off : Int} {gs : List Gauge} {day : Int} (h : LookOk s off gs) (hd : s.set ≤ day) : (0 ≤ (rangeS s off gs day).1.lo ∧ (rangeS s off gs day).1.lo ≤ 1000000) ∧ (0 ≤ (rangeS s off gs day).1.hi ∧ (rangeS s off gs day).1.hi ≤ 1000000) := by
  rw [rangeS_fold]
  exact fold_bd hd _ _ (truthsS_ok h) (by simp)

theorem CaseR.caseOk {c : Case} (h : CaseR c) : CaseOk c := by
  refine ⟨h.lens.2, h.err, h.day, fun s hs => ?_⟩
  have hL := h.look hs
  exact ⟨hL.shot, hL.gok, (h.shots s hs).1.len⟩

theorem soundL_ne {off day : Int} : ∀ (l : List Shot) (e : Int), e ≠ 0 → soundL off day l e = e
  | [], e, _ => rfl
  | x :: r, e, h => by simp [soundL, h]

/-- The error with which a case whose gaugings are looked at is refused. -/
def lookE (c : Case) (e : Int) : Int := if e = 0 then soundE c else e

theorem lookE_eq (c : Case) (e : Int) : soundL c.chain.err c.day c.chain.shots e = lookE c e := by
  unfold lookE soundE
  by_cases h : e = 0
  · rw [if_pos h, h]
  · rw [if_neg h, soundL_ne _ _ h]

def bearsE (c : Case) (i : Int) : Span × Int :=
  if lookE c (openE c i) = 0 then (match (thickL c)[i.toNat]? with
    | some s => (⟨strongF s.lo, strongF s.hi⟩, 0)
    | none => (⟨0, 0⟩, 0)) else (⟨0, 0⟩, lookE c (openE c i))

theorem lookE_zero {c : Case} {e : Int} (h : lookE c e = 0) : e = 0 ∧ soundE c = 0 := by
  unfold lookE at h
  split at h
  · rename_i h0; exact ⟨h0, h⟩
  · rename_i h0; exact absurd h h0

theorem thick_get {c : Case} {i : Nat} {s : Shot} (h : c.chain.shots[i]? = some s) : (thickL c)[i]? = some (rangeS s c.chain.err s.gauges c.day).1 := by
  simp [thickL, h]

theorem fn20 (c : Case) (i : Int) : FnV Tryz.prog 42 [c.d, i64 i] (.tup [(bearsE c i).1.d, i64 (bearsE c i).2]) := by
  refine fnV_of mixed tysOk Tryz.func42 rfl (ft := ft42) 2 (by decide +kernel) (by rfl) fun {σ} Y st => ?_
  conv => whnf
  refine CallA_v (ds := [c.d, i64 i]) (fn57 c i) rfl rfl ?_
  by_cases h0 : openE c i = 0
  · obtain ⟨hc, s, hi, hs⟩ := openE_ok h0
    have hR := case_ok hc
    have hm := List.mem_of_getElem? hs
    have hL := hR.look hm
    have hsd := (hR.shots s hm).2
    have hday := hR.day
    have hD : openD c i = .agg (sCells s c.chain.err) := by simp [openD, h0, hs]
    have htg := thick_get hs
    obtain ⟨b1, b2⟩ := rangeS_bd hL (day := c.day) (by omega)
    rw [hD, h0]
    conv => whnf
    refine CallA_v (ds := [c.d, i64 0]) (fn66 c 0 (fun _ => hR)) rfl rfl ?_
    simp only [if_true]
    by_cases h1 : soundE c = 0
    · have hE : bearsE c i = (⟨strongF (rangeS s c.chain.err s.gauges c.day).1.lo, strongF (rangeS s c.chain.err s.gauges c.day).1.hi⟩, 0) := by
        simp [bearsE, lookE, h0, h1, htg]
      rw [hE, h1]
      simp only [if_true]
      generalize rangeS s c.chain.err s.gauges c.day = rr at *
      conv => whnf
      refine elemK_i rr.1.cells ⟨hi, by rw [List.getElem?_map, htg]; rfl⟩ ?_
      conv => whnf
      refine DrawCall_v (fn67 rr.1.lo ⟨by omega, by omega⟩) rfl rfl ?_
      conv => whnf
      refine elemK_i rr.1.cells ⟨hi, by rw [List.getElem?_map, htg]; rfl⟩ ?_
      conv => whnf
      refine DrawCall_v (fn67 rr.1.hi ⟨by omega, by omega⟩) rfl rfl ?_
      conv => whnf
      exact RetA_view 0 rfl ⟨⟨rfl, rfl⟩, rfl⟩
    · have hE : bearsE c i = (⟨0, 0⟩, soundE c) := by
        simp [bearsE, lookE, h0, h1]
      rw [hE]
      simp only [h1, if_false]
      conv => whnf
      refine brk_i (fun _ => ?_) (fun h => absurd h (by simpa using h1))
      conv => whnf
      exact RetA_view 0 rfl ⟨⟨rfl, rfl⟩, rfl⟩
  · have hD : openD c i = .agg [.str ⟨#[]⟩, i64 0, i64 0, i64 0, i64 0, i64 0, i64 0, .nils, i64 0] := by simp [openD, h0]
    have hE : bearsE c i = (⟨0, 0⟩, openE c i) := by simp [bearsE, lookE, h0]
    rw [hD, hE]
    conv => whnf
    refine CallA_v (ds := [c.d, i64 (openE c i)]) (fn66 c (openE c i) (fun h => absurd h h0)) rfl rfl ?_
    simp only [h0, if_false]
    conv => whnf
    refine brk_i (fun _ => ?_) (fun h => absurd h (by simpa using h0))
    conv => whnf
    exact RetA_view 0 rfl ⟨⟨rfl, rfl⟩, rfl⟩

end Go.PX
