import Derived.Test.YtifbnniijibfgaaPxR
set_option linter.all false
set_option maxRecDepth 10000
namespace Go.PX
open Go.Proofs

/-- The truths with which gaugings agree, wear by wear. -/
def truthsL (set off : Int) (new : Int × Int) (gs : List Gauge) : Nat → Int → List (Int × (Int × Int))
  | 0, _ => []
  | n + 1, wear => match fitsF set off wear new gs with
    | none => truthsL set off new gs n (wear + 1)
    | some f => (wear, f) :: truthsL set off new gs n (wear + 1)

def truthsS (s : Shot) (off : Int) (gs : List Gauge) : List (Int × (Int × Int)) := truthsL s.set off (s.new.lo, s.new.hi) gs (s.wear.hi + 1 - s.wear.lo).toNat s.wear.lo

def truthD (t : Int × (Int × Int)) : D := .agg [i64 t.1, i64 t.2.1, i64 t.2.2]

def sCells (s : Shot) (off : Int) : List D := s.cells ++ [i64 off]

/-- What is needed of a shot that is looked at. -/
structure LookOk (s : Shot) (off : Int) (gs : List Gauge) : Prop where
  off : 0 ≤ off ∧ off ≤ 1000000
  shot : ShotOk s
  gok : ∀ g ∈ gs, gaugeOk g
  len : gs.length < 1000000

theorem lost_bd {wear day set : Int} (hw : 0 ≤ wear ∧ wear ≤ 1000000) (hd : 0 ≤ day ∧ day ≤ 1000000) (hs : 0 ≤ set ∧ set ≤ 1000000) : -1000000000000 ≤ wear * (day - set) ∧ wear * (day - set) ≤ 1000000000000 := by
  have := mul_bd (a := wear) (b := day - set) 1000000 1000000 (by omega) (by omega)
  omega

theorem yields115 (s : Shot) (off : Int) (gs : List Gauge) (h : LookOk s off gs) : Yields Try.prog 115 [.ref (sCells s off), .ref [gaugesD gs]] ((truthsS s off gs).map fun t => ([.d (truthD t)], [])) := by
  intro γ Y g0 Q hit
  obtain ⟨hoff, ⟨hset, hnew, hwear⟩, hg, hlen⟩ := h
  refine fnC_of mixed tysOk Try.func115 rfl (ft := ft115) (args := [.yld, .d (.ref (sCells s off)), .d (.ref [gaugesD gs])]) (show fnB ft115 Try.f115 3 = true from by decide +kernel) ?_
  conv => whnf
  refine LoopA_p (T := tys) tysOk (by exact drawsB_spec mixed tysOk (by decide +kernel)) (α := Int × γ)
    (fun x => ⟨[(0, .yld), (1, .d (.ref (sCells s off))), (2, .d (.ref [gaugesD gs])), (4, .d (i64 x.1))], [], x.2⟩)
    (fun x => s.wear.lo ≤ x.1 ∧ x.1 ≤ max s.wear.lo (s.wear.hi + 1) ∧ iterate Y ((truthsL s.set off (s.new.lo, s.new.hi) gs (s.wear.hi + 1 - x.1).toNat x.1).map fun t => ([.d (truthD t)], [])) x.2 Q) (fun x => (s.wear.hi + 1 - x.1).toNat) (s.wear.lo, g0)
    (Wk.sub ⟨(by first | rfl | (simp only [List.length_map]; rfl) | simp [PX.get]), (by first | rfl | (simp only [List.length_map]; rfl) | simp [PX.get]), (by first | rfl | (simp only [List.length_map]; rfl) | simp [PX.get]), (by first | rfl | (simp only [List.length_map]; rfl) | simp [PX.get]), trivial⟩ trivial) ⟨by simp only; omega, by simp only; omega, hit⟩ ?_
  clear hit g0
  rintro ⟨wear, g0⟩ ⟨h1, h2, hit⟩
  simp only at h1 h2 hit
  conv => whnf
  refine brk_i (fun hb => ?_) (fun hb => ?_)
  · have hb : wear ≤ s.wear.hi := by simpa using hb
    obtain ⟨n, hn⟩ : ∃ n, (s.wear.hi + 1 - wear).toNat = n + 1 := ⟨(s.wear.hi - wear).toNat, by omega⟩
    have hn' : (s.wear.hi + 1 - (wear + 1)).toNat = n := by omega
    rw [hn, truthsL] at hit
    conv => whnf
    refine LoopA_i (T := tys) tysOk (by exact drawsB_spec mixed tysOk (by decide +kernel)) gs (fun i (p : Int × Int) => ⟨[(0, .yld), (1, .d (.ref (sCells s off))), (2, .d (.ref [gaugesD gs])), (4, .d (i64 wear)), (5, .ptr 5 0), (26, .d (gaugesD gs)), (27, .d (i64 gs.length)), (28, .d (i64 i))], [(5, .box (.dd [i64 wear, i64 p.1, i64 p.2]))], g0⟩)
      (fun i r p => (0 ≤ p.1 ∧ p.1 ≤ p.2 ∧ p.2 ≤ 1000000) ∧ (∀ g ∈ r, gaugeOk g) ∧ fitsF s.set off wear (s.new.lo, s.new.hi) gs = fitsF s.set off wear p r) (s.new.lo, s.new.hi)
      (Wk.sub ⟨(by first | rfl | (simp only [List.length_map]; rfl) | simp [PX.get]), (by first | rfl | (simp only [List.length_map]; rfl) | simp [PX.get]), (by first | rfl | (simp only [List.length_map]; rfl) | simp [PX.get]), (by first | rfl | (simp only [List.length_map]; rfl) | simp [PX.get]), (by first | rfl | (simp only [List.length_map]; rfl) | simp [PX.get]), (by first | rfl | (simp only [List.length_map]; rfl) | simp [PX.get]), (by first | rfl | (simp only [List.length_map]; rfl) | simp [PX.get]), (by first | rfl | (simp only [List.length_map]; rfl) | simp [PX.get]), trivial⟩ ⟨(by first | rfl | (simp only [List.length_map]; rfl) | simp [PX.get]), trivial⟩) ⟨by simp only; omega, hg, rfl⟩ ?_ ?_
    · rintro i x r ⟨p1, p2⟩ hx hi hr ⟨hp, hgr, he⟩
      simp only at hp
      obtain ⟨g1, g2, g3, g4⟩ := hgr x (by simp)
      have hlb := lost_bd (wear := wear) (day := x.day) (set := s.set) (by omega) (by omega) (by omega)
      rw [fitsF] at he
      simp only [fitStep] at he
      conv => whnf
      refine brk_i (fun _ => ?_) (fun h => absurd hi (by simpa using h))
      conv => whnf
      refine elemK_nat hx ?_
      conv => whnf
      refine arith_in (wrap_i64 (by (try dsimp only); omega)) ?_
      conv => whnf
      refine arith_in (wrap_i64 (by (try dsimp only); omega)) ?_
      conv => whnf
      refine brk_i (fun h3 => ?_) (fun h3 => ?_)
      · have h3 : x.shown > off := by simpa using h3
        simp only [h3, if_true] at he
        conv => whnf
        refine arith_in (wrap_i64 (by (try dsimp only); omega)) ?_
        conv => whnf
        refine arith_in (wrap_i64 (by (try dsimp only); omega)) ?_
        conv => whnf
        refine arith_in (wrap_i64 (by (try dsimp only); omega)) ?_
        conv => whnf
        refine arith_in (wrap_i64 (by (try dsimp only); omega)) ?_
        conv => whnf
        refine brk_i (fun h4 => ?_) (fun h4 => ?_)
        · have h4 : max p1 (x.shown - off + wear * (x.day - s.set)) > min p2 (x.shown + off + wear * (x.day - s.set)) := by simpa using h4
          simp only [h4, if_true] at he
          rw [he] at hit
          conv => whnf
          refine arith_in (wrap_i64 (by (try dsimp only); omega)) ?_
          conv => whnf
          exact ⟨(wear + 1, g0), by simp only; omega, ⟨by simp only; omega, by simp only; omega, by simp only; rw [hn']; exact hit⟩, (Wk.sub ⟨(by first | rfl | (simp only [List.length_map]; rfl) | simp [PX.get]), (by first | rfl | (simp only [List.length_map]; rfl) | simp [PX.get]), (by first | rfl | (simp only [List.length_map]; rfl) | simp [PX.get]), (by first | rfl | (simp only [List.length_map]; rfl) | simp [PX.get]), trivial⟩ trivial)⟩
        · have h4 : ¬ max p1 (x.shown - off + wear * (x.day - s.set)) > min p2 (x.shown + off + wear * (x.day - s.set)) := by simpa using h4
          simp only [h4, if_false] at he
          conv => whnf
          refine arith_in (wrap_i64 (by (try dsimp only); omega)) ?_
          conv => whnf
          exact ⟨(max p1 (x.shown - off + wear * (x.day - s.set)), min p2 (x.shown + off + wear * (x.day - s.set))), ⟨by simp only; omega, fun g hg => hgr g (by simp [hg]), he⟩, (Wk.sub ⟨(by first | rfl | (simp only [List.length_map]; rfl) | simp [PX.get]), (by first | rfl | (simp only [List.length_map]; rfl) | simp [PX.get]), (by first | rfl | (simp only [List.length_map]; rfl) | simp [PX.get]), (by first | rfl | (simp only [List.length_map]; rfl) | simp [PX.get]), (by first | rfl | (simp only [List.length_map]; rfl) | simp [PX.get]), (by first | rfl | (simp only [List.length_map]; rfl) | simp [PX.get]), (by first | rfl | (simp only [List.length_map]; rfl) | simp [PX.get]), (by first | rfl | (simp only [List.length_map]; rfl) | simp [PX.get]), trivial⟩ ⟨(by first | rfl | (simp only [List.length_map]; rfl) | simp [PX.get]), trivial⟩)⟩
      · have h3 : ¬ x.shown > off := by simpa using h3
        simp only [h3, if_false] at he
        conv => whnf
        refine arith_in (wrap_i64 (by (try dsimp only); omega)) ?_
        conv => whnf
        refine arith_in (wrap_i64 (by (try dsimp only); omega)) ?_
        conv => whnf
        refine brk_i (fun h4 => ?_) (fun h4 => ?_)
        · have h4 : p1 > min p2 (x.shown + off + wear * (x.day - s.set)) := by simpa using h4
          simp only [h4, if_true] at he
          rw [he] at hit
          conv => whnf
          refine arith_in (wrap_i64 (by (try dsimp only); omega)) ?_
          conv => whnf
          exact ⟨(wear + 1, g0), by simp only; omega, ⟨by simp only; omega, by simp only; omega, by simp only; rw [hn']; exact hit⟩, (Wk.sub ⟨(by first | rfl | (simp only [List.length_map]; rfl) | simp [PX.get]), (by first | rfl | (simp only [List.length_map]; rfl) | simp [PX.get]), (by first | rfl | (simp only [List.length_map]; rfl) | simp [PX.get]), (by first | rfl | (simp only [List.length_map]; rfl) | simp [PX.get]), trivial⟩ trivial)⟩
        · have h4 : ¬ p1 > min p2 (x.shown + off + wear * (x.day - s.set)) := by simpa using h4
          simp only [h4, if_false] at he
          conv => whnf
          refine arith_in (wrap_i64 (by (try dsimp only); omega)) ?_
          conv => whnf
          exact ⟨(p1, min p2 (x.shown + off + wear * (x.day - s.set))), ⟨by simp only; omega, fun g hg => hgr g (by simp [hg]), he⟩, (Wk.sub ⟨(by first | rfl | (simp only [List.length_map]; rfl) | simp [PX.get]), (by first | rfl | (simp only [List.length_map]; rfl) | simp [PX.get]), (by first | rfl | (simp only [List.length_map]; rfl) | simp [PX.get]), (by first | rfl | (simp only [List.length_map]; rfl) | simp [PX.get]), (by first | rfl | (simp only [List.length_map]; rfl) | simp [PX.get]), (by first | rfl | (simp only [List.length_map]; rfl) | simp [PX.get]), (by first | rfl | (simp only [List.length_map]; rfl) | simp [PX.get]), (by first | rfl | (simp only [List.length_map]; rfl) | simp [PX.get]), trivial⟩ ⟨(by first | rfl | (simp only [List.length_map]; rfl) | simp [PX.get]), trivial⟩)⟩
    · rintro ⟨p1, p2⟩ ⟨hp, _, he⟩
      rw [fitsF] at he
      rw [he] at hit
      simp only [List.map_cons] at hit
      conv => whnf
      refine brk_i (fun h => absurd h (by simp)) (fun _ => ?_)
      conv => whnf
      refine YldA_v (ds := [truthD (wear, (p1, p2))]) hit rfl rfl (fun s' hs' => ?_) (fun s' hs' => ?_)
      · conv => whnf
        refine arith_in (wrap_i64 (by (try dsimp only); omega)) ?_
        conv => whnf
        exact ⟨(wear + 1, s'), by simp only; omega, ⟨by simp only; omega, by simp only; omega, by simp only; rw [hn']; exact hs'⟩, (Wk.sub ⟨(by first | rfl | (simp only [List.length_map]; rfl) | simp [PX.get]), (by first | rfl | (simp only [List.length_map]; rfl) | simp [PX.get]), (by first | rfl | (simp only [List.length_map]; rfl) | simp [PX.get]), (by first | rfl | (simp only [List.length_map]; rfl) | simp [PX.get]), trivial⟩ trivial)⟩
      · conv => whnf
        exact RetA_view 0 rfl ⟨rfl, hs'⟩
  · have hb : ¬ wear ≤ s.wear.hi := by simpa using hb
    rw [show (s.wear.hi + 1 - wear).toNat = 0 by omega, truthsL] at hit
    conv => whnf
    exact RetA_view 0 rfl ⟨rfl, hit⟩

theorem fn93 (s : Shot) (off : Int) (gs : List Gauge) : FnV Try.prog 93 [.agg (sCells s off), gaugesD gs] (.clo 115 [.ref (sCells s off), .ref [gaugesD gs]]) := by
  refine fnV_of mixed tysOk Try.func93 rfl (ft := ft93) 2 (by decide +kernel) (by rfl) fun {σ} Y st => ?_
  conv => whnf
  exact RetA_view 1 rfl ⟨⟨rfl, rfl⟩, rfl⟩

theorem fn94 (t : Int × (Int × Int)) (s : Shot) (off day : Int) (h1 : 0 ≤ t.1 ∧ t.1 ≤ 1000000) (h2 : 0 ≤ t.2.1 ∧ t.2.1 ≤ 1000000) (h3 : 0 ≤ t.2.2 ∧ t.2.2 ≤ 1000000) (h4 : 0 ≤ day ∧ day ≤ 1000000) (h5 : 0 ≤ s.set ∧ s.set ≤ 1000000) :
    FnV Try.prog 94 [truthD t, .agg (sCells s off), i64 day] (Span.d ⟨onF s.set t.2.1 t.1 day, onF s.set t.2.2 t.1 day⟩) := by
  refine fnV_of mixed tysOk Try.func94 rfl (ft := ft94) 3 (by decide +kernel) (by rfl) fun {σ} Y st => ?_
  conv => whnf
  have hlb := lost_bd (wear := t.1) (day := day) (set := s.set) h1 h4 h5
  refine arith_in (wrap_i64 (by (try dsimp only); omega)) ?_
  conv => whnf
  refine arith_in (wrap_i64 (by (try dsimp only); omega)) ?_
  conv => whnf
  refine arith_in (wrap_i64 (by (try dsimp only); omega)) ?_
  conv => whnf
  refine arith_in (wrap_i64 (by (try dsimp only); omega)) ?_
  conv => whnf
  exact RetA_view 0 rfl ⟨⟨rfl, rfl⟩, rfl⟩

def thickStep (set day : Int) (acc : Span × Bool) (t : Int × (Int × Int)) : Span × Bool :=
  let out := if acc.2 then acc.1 else ⟨onF set t.2.1 t.1 day, onF set t.2.2 t.1 day⟩
  (⟨min out.lo (onF set t.2.1 t.1 day), max out.hi (onF set t.2.2 t.1 day)⟩, true)

theorem thick_eq (set off day : Int) (new : Int × Int) (gs : List Gauge) : ∀ (n : Nat) (wear : Int) (acc : Span × Bool), rangeF set off day new gs n wear acc = (truthsL set off new gs n wear).foldl (thickStep set day) acc
  | 0, wear, acc => rfl
  | n + 1, wear, acc => by
    simp only [rangeF, truthsL]
    cases fitsF set off wear new gs with
    | none => exact thick_eq set off day new gs n (wear + 1) acc
    | some f => exact thick_eq set off day new gs n (wear + 1) _

theorem rangeS_fold (s : Shot) (off : Int) (gs : List Gauge) (day : Int) : rangeS s off gs day = (truthsS s off gs).foldl (thickStep s.set day) (⟨0, 0⟩, false) := thick_eq _ _ _ _ _ _ _ _

theorem truthsL_ok {set off : Int} {new : Int × Int} {gs : List Gauge} (hn : 0 ≤ new.1 ∧ new.1 ≤ new.2 ∧ new.2 ≤ 1000000) : ∀ (n : Nat) (wear : Int), 0 ≤ wear → wear + n ≤ 1000000 → ∀ t ∈ truthsL set off new gs n wear, (0 ≤ t.1 ∧ t.1 ≤ 1000000) ∧ (0 ≤ t.2.1 ∧ t.2.1 ≤ 1000000) ∧ (0 ≤ t.2.2 ∧ t.2.2 ≤ 1000000)
  | 0, wear, h0, h1, t, ht => by cases ht
  | n + 1, wear, h0, h1, t, ht => by
    simp only [truthsL] at ht
    split at ht
    · exact truthsL_ok hn n (wear + 1) (by omega) (by omega) t ht
    · rename_i f hf
      rcases List.mem_cons.1 ht with rfl | ht
      · have := fitsF_le hn.2.1 hf
        simp only; omega
      · exact truthsL_ok hn n (wear + 1) (by omega) (by omega) t ht

theorem truthsS_ok {s : Shot} {off : Int} {gs : List Gauge} (h : LookOk s off gs) : ∀ t ∈ truthsS s off gs, (0 ≤ t.1 ∧ t.1 ≤ 1000000) ∧ (0 ≤ t.2.1 ∧ t.2.1 ≤ 1000000) ∧ (0 ≤ t.2.2 ∧ t.2.2 ≤ 1000000) := by
  obtain ⟨hoff, ⟨hset, hnew, hwear⟩, hg, hlen⟩ := h
  exact truthsL_ok (by simp only; omega) _ _ (by omega) (by omega)
end Go.PX

namespace Go.PX
open Go.Proofs

theorem fn58 (s : Shot) (off day : Int) (h : LookOk s off s.gauges) (hday : 0 ≤ day ∧ day ≤ 1000000) :
    FnV Try.prog 58 [.agg (sCells s off), i64 day] (.tup [(rangeS s off s.gauges day).1.d, .bool (rangeS s off s.gauges day).2]) := by
  refine fnV_of mixed tysOk Try.func58 rfl (ft := ft58) 2 (by decide +kernel) (by rfl) fun {σ} Y st => ?_
  conv => whnf
  refine CallA_v (fn93 s off s.gauges) rfl rfl ?_
  conv => whnf
  refine RangeA_list tysOk (by exact drawsB_spec mixed tysOk (by decide +kernel)) (by exact drawsB_spec mixed tysOk (by decide +kernel)) rfl 1500000 1600000 [2, 3, 4, 5] (yields115 s off s.gauges h)
    (fun (x : Span × Bool) => ([(1500000, .box (.dd (sCells s off))), (1500001, .box (.dd [i64 day])), (1500002, .box (.dd x.1.cells)), (1500003, .box (.dd [.bool x.2]))], st))
    (fun rest x => (∀ t ∈ rest, (0 ≤ t.1 ∧ t.1 ≤ 1000000) ∧ (0 ≤ t.2.1 ∧ t.2.1 ≤ 1000000) ∧ (0 ≤ t.2.2 ∧ t.2.2 ≤ 1000000)) ∧ rangeS s off s.gauges day = rest.foldl (thickStep s.set day) x) (⟨0, 0⟩, false)
    rfl rfl rfl ⟨truthsS_ok h, rangeS_fold s off s.gauges day⟩ ?_ ?_
  · rintro t rest ⟨out, is⟩ ⟨hok, he⟩ Q hQ _
    refine ⟨⟨rfl, rfl⟩, ?_⟩
    rw [List.foldl_cons] at he
    obtain ⟨h1, h2, h3⟩ := hok t (by simp)
    conv => whnf
    refine CallA_v (ds := [truthD t, .agg (sCells s off), i64 day]) (fn94 t s off day h1 h2 h3 hday h.shot.set) rfl rfl ?_
    conv => whnf
    have next : ∀ (x' : Span × Bool) {st' : St σ}, x' = thickStep s.set day (out, is) t → Wk st' ⟨[], [(1500000, .box (.dd (sCells s off))), (1500001, .box (.dd [i64 day])), (1500002, .box (.dd x'.1.cells)), (1500003, .box (.dd [.bool x'.2]))], st⟩ →
        ∃ x', Wk st' ⟨[], [(1500000, .box (.dd (sCells s off))), (1500001, .box (.dd [i64 day])), (1500002, .box (.dd x'.1.cells)), (1500003, .box (.dd [.bool x'.2]))], st⟩ ∧ true = true ∧ Q (.d (.bool true)) [] (.go x') := by
      intro x' st' hx hw
      exact ⟨x', hw, rfl, hQ x' ⟨fun u hu => hok u (by simp [hu]), by rw [hx]; exact he⟩⟩
    cases is with
    | false =>
      conv => whnf
      exact next (⟨min (onF s.set t.2.1 t.1 day) (onF s.set t.2.1 t.1 day), max (onF s.set t.2.2 t.1 day) (onF s.set t.2.2 t.1 day)⟩, true) rfl (Wk.sub trivial ⟨(by first | rfl | (simp only [List.length_map]; rfl) | simp [PX.get]), (by first | rfl | (simp only [List.length_map]; rfl) | simp [PX.get]), (by first | rfl | (simp only [List.length_map]; rfl) | simp [PX.get]), (by first | rfl | (simp only [List.length_map]; rfl) | simp [PX.get]), trivial⟩)
    | true =>
      conv => whnf
      refine brk_i (fun h5 => ?_) (fun h5 => ?_)
      · conv => whnf
        have h5 : onF s.set t.2.1 t.1 day = out.lo ∧ onF s.set t.2.2 t.1 day = out.hi := by simpa using h5
        refine next (⟨min (onF s.set t.2.1 t.1 day) (onF s.set t.2.1 t.1 day), max (onF s.set t.2.2 t.1 day) (onF s.set t.2.2 t.1 day)⟩, true) ?_ (Wk.sub trivial ⟨(by first | rfl | (simp only [List.length_map]; rfl) | simp [PX.get]), (by first | rfl | (simp only [List.length_map]; rfl) | simp [PX.get]), (by first | rfl | (simp only [List.length_map]; rfl) | simp [PX.get]), (by first | rfl | (simp only [List.length_map]; rfl) | simp [PX.get]), trivial⟩)
        simp only [thickStep, h5.1, h5.2, if_true]
      · conv => whnf
        exact next (⟨min out.lo (onF s.set t.2.1 t.1 day), max out.hi (onF s.set t.2.2 t.1 day)⟩, true) rfl (Wk.sub trivial ⟨(by first | rfl | (simp only [List.length_map]; rfl) | simp [PX.get]), (by first | rfl | (simp only [List.length_map]; rfl) | simp [PX.get]), (by first | rfl | (simp only [List.length_map]; rfl) | simp [PX.get]), (by first | rfl | (simp only [List.length_map]; rfl) | simp [PX.get]), trivial⟩)
  · rintro ⟨out, is⟩ ⟨_, he⟩
    conv => whnf
    rw [he]
    exact RetA_view 0 rfl ⟨⟨rfl, rfl⟩, rfl⟩
end Go.PX

namespace Go.PX
open Go.Proofs

theorem fn64 (s : Shot) (off : Int) (gs : List Gauge) (h : LookOk s off gs) : FnV Try.prog 64 [.agg (sCells s off), gaugesD gs] (.bool (!(truthsS s off gs).isEmpty)) := by
  refine fnV_of mixed tysOk Try.func64 rfl (ft := ft64) 2 (by decide +kernel) (by rfl) fun {σ} Y st => ?_
  conv => whnf
  refine CallA_v (fn93 s off gs) rfl rfl ?_
  conv => whnf
  refine RangeA_list tysOk (by exact drawsB_spec mixed tysOk (by decide +kernel)) (by exact drawsB_spec mixed tysOk (by decide +kernel)) rfl 1500000 1600000 [2, 4] (yields115 s off gs h)
    (fun (_ : Unit) => ([(1500000, .box (.dd (sCells s off))), (1500001, .box (.dd [.bool false]))], st))
    (fun rest _ => (truthsS s off gs).isEmpty = rest.isEmpty) () rfl rfl rfl rfl ?_ ?_
  · rintro t rest _ he Q _ hQ
    refine ⟨⟨rfl, rfl⟩, ?_⟩
    have he : (truthsS s off gs).isEmpty = false := he
    conv => whnf
    refine ⟨[(1500000, .box (.dd (sCells s off))), (1500001, .box (.dd [.bool true]))], st, (Wk.sub trivial ⟨(by first | rfl | (simp only [List.length_map]; rfl) | simp [PX.get]), (by first | rfl | (simp only [List.length_map]; rfl) | simp [PX.get]), trivial⟩), rfl, hQ _ _ _ ?_⟩
    conv => whnf
    rw [he]
    exact RetA_view 0 rfl ⟨⟨rfl, rfl⟩, rfl⟩
  · intro _ he
    have he : (truthsS s off gs).isEmpty = true := he
    conv => whnf
    rw [he]
    exact RetA_view 0 rfl ⟨⟨rfl, rfl⟩, rfl⟩

theorem rangeS_some (s : Shot) (off : Int) (gs : List Gauge) (day : Int) : (rangeS s off gs day).2 = !(truthsS s off gs).isEmpty := by
  rw [rangeS_fold]
  cases truthsS s off gs with
  | nil => rfl
  | cons t r =>
    rw [List.foldl_cons]
    have : ∀ (l : List (Int × (Int × Int))) (acc : Span × Bool), acc.2 = true → (l.foldl (thickStep s.set day) acc).2 = true := by
      intro l
      induction l with
      | nil => exact fun _ h => h
      | cons a l ih => exact fun acc _ => ih _ rfl
    exact this r _ rfl
end Go.PX

namespace Go.PX
open Go.Proofs

/-- The error of a case and the index of a shot. -/
def openE (c : Case) (i : Int) : Int :=
  if (checkC c).2.2 = 0 then (if inB i 0 ((c.chain.shots.length : Int) - 1) then 0 else 4) else (checkC c).2.2

theorem inB_get {l : List Shot} {i : Int} (h : inB i 0 ((l.length : Int) - 1) = true) : ∃ s, 0 ≤ i ∧ l[i.toNat]? = some s := by
  simp only [inB, Bool.and_eq_true, decide_eq_true_eq] at h
  exact ⟨_, h.1, List.getElem?_eq_getElem (by omega)⟩

/-- The cells of a shot that is asked for; none are, if there is an error. -/
def openD (c : Case) (i : Int) : D :=
  if openE c i = 0 then (match c.chain.shots[i.toNat]? with
    | some s => .agg (sCells s c.chain.err)
    | none => .nilp) else .agg [.str ⟨#[]⟩, i64 0, i64 0, i64 0, i64 0, i64 0, i64 0, .nils, i64 0]

theorem chainE_ok {c : Case} (h : (checkC c).2.2 = 0) : (chainE c.chain).2.2 = 0 := by
  rw [checkC_alt] at h
  by_cases h0 : (chainE c.chain).2.2 = 0
  · exact h0
  · rw [if_neg h0] at h; exact absurd h h0

theorem case_lens {c : Case} (h : (checkC c).2.2 = 0) : c.chain.shots.length ≤ 7 ∧ c.chain.rows.length ≤ 6 := chainE_lens (chainE_ok h)

theorem fn57 (c : Case) (i : Int) : FnV Try.prog 57 [c.d, i64 i] (.tup [openD c i, i64 (openE c i)]) := by
  refine fnV_of mixed tysOk Try.func57 rfl (ft := ft57) 2 (by decide +kernel) (by rfl) fun {σ} Y st => ?_
  conv => whnf
  refine CallA_v (fn13 c) rfl rfl ?_
  conv => whnf
  have hl := case_lens (c := c)
  refine brk_i (fun h0 => ?_) (fun h0 => ?_)
  · have h0 : (checkC c).2.2 ≠ 0 := by simpa using h0
    conv => whnf
    refine RetA_view 0 rfl ⟨⟨?_, rfl⟩, rfl⟩
    simp [openD, openE, h0, packD]
  have h0 : (checkC c).2.2 = 0 := by simpa using h0
  obtain ⟨hl, _⟩ := hl h0
  conv => whnf
  refine arith_in (wrap_i64 (by simp; omega)) ?_
  conv => whnf
  refine CallA_view (fn51_1 _ _ _) rfl 1 rfl ?_
  conv => whnf
  have hlen : ((c.chain.shots.map Shot.cells).length : Int) = c.chain.shots.length := by simp
  refine brk_i (fun h1 => ?_) (fun h1 => ?_)
  · have h1 : inB i 0 ((c.chain.shots.length : Int) - 1) = false := by rw [← hlen]; simpa using h1
    conv => whnf
    refine RetA_view 0 rfl ⟨⟨?_, rfl⟩, rfl⟩
    simp [openD, openE, h0, h1, packD]
  · have h1 : inB i 0 ((c.chain.shots.length : Int) - 1) = true := by rw [← hlen]; simpa using h1
    obtain ⟨s, hi, hs⟩ := inB_get h1
    conv => whnf
    refine elemK_i s.cells ⟨hi, by simp [hs]⟩ ?_
    conv => whnf
    refine RetA_view 0 rfl ⟨⟨?_, rfl⟩, rfl⟩
    simp [openD, openE, h0, h1, hs, packD]
    rfl

theorem fn59 (c : Case) (i : Int) : FnV Try.prog 59 [c.d, i64 i] (i64 (openE c i)) := by
  refine fnV_of mixed tysOk Try.func59 rfl (ft := ft59) 2 (by decide +kernel) (by rfl) fun {σ} Y st => ?_
  conv => whnf
  refine CallA_v (fn14 c) rfl rfl ?_
  conv => whnf
  have hl := case_lens (c := c)
  have hlen : ((c.chain.shots.map Shot.cells).length : Int) = c.chain.shots.length := by simp
  refine brk_i (fun h0 => ?_) (fun h0 => ?_)
  · have h0 : (checkC c).2.2 = 0 := by simpa using h0
    obtain ⟨hl, _⟩ := hl h0
    conv => whnf
    refine arith_in (wrap_i64 (by simp; omega)) ?_
    conv => whnf
    refine CallA_v (fn55 _ _ _) rfl rfl ?_
    conv => whnf
    refine brk_i (fun h1 => ?_) (fun h1 => ?_)
    · have h1 : inB i 0 ((c.chain.shots.length : Int) - 1) = false := by rw [← hlen]; simpa using h1
      conv => whnf
      refine RetA_view 0 rfl ⟨⟨?_, rfl⟩, rfl⟩
      simp [openE, h0, h1, packD]
    · have h1 : inB i 0 ((c.chain.shots.length : Int) - 1) = true := by rw [← hlen]; simpa using h1
      conv => whnf
      refine RetA_view 0 rfl ⟨⟨?_, rfl⟩, rfl⟩
      simp [openE, h0, h1, packD, tri]
  · have h0 : (checkC c).2.2 ≠ 0 := by simpa using h0
    conv => whnf
    refine RetA_view 0 rfl ⟨⟨?_, rfl⟩, rfl⟩
    simp [openE, h0, packD, tri]

theorem firstE_all {α : Type} {f : List α → α → Int} : ∀ {l : List α} {b : List α} {i : Int}, (firstE f b l i).2 = 0 → ∀ x ∈ l, ∃ b', f b' x = 0
  | [], _, _, _, x, hx => by cases hx
  | y :: r, b, i, h, x, hx => by
    simp only [firstE] at h
    split at h
    · rename_i h0
      rcases List.mem_cons.1 hx with rfl | hx
      · exact ⟨b, h0⟩
      · exact firstE_all h x hx
    · rename_i h0; exact absurd h h0

theorem inB_iff {n lo hi : Int} : inB n lo hi = true ↔ lo ≤ n ∧ n ≤ hi := by
  simp [inB]

theorem gaugesL_ok {set : Int} : ∀ {l : List Gauge} {last : Int}, gaugesL set last l = 0 → ∀ g ∈ l, (set ≤ g.day ∧ g.day ≤ 40000) ∧ (0 ≤ g.shown ∧ g.shown ≤ 60000)
  | [], _, _, g, hg => by cases hg
  | x :: r, last, h, g, hg => by
    simp only [gaugesL] at h
    split at h
    · rename_i h1
      simp only [Bool.and_eq_true, inB_iff] at h1
      split at h
      · cases h
      · rcases List.mem_cons.1 hg with rfl | hg
        · exact h1
        · exact gaugesL_ok h g hg
    · cases h

/-- What holds of a shot without an error. -/
structure ShotR (s : Shot) : Prop where
  links : 1 ≤ s.links ∧ s.links ≤ 40
  set : 0 ≤ s.set ∧ s.set ≤ 40000
  new : 1 ≤ s.new.lo ∧ s.new.lo ≤ s.new.hi ∧ s.new.hi ≤ 60000
  wear : 0 ≤ s.wear.lo ∧ s.wear.lo ≤ s.wear.hi ∧ s.wear.hi ≤ 20
  len : s.gauges.length ≤ 6
  gauges : ∀ g ∈ s.gauges, (s.set ≤ g.day ∧ g.day ≤ 40000) ∧ (0 ≤ g.shown ∧ g.shown ≤ 60000)

theorem checkF_ok {s : Shot} (h : checkF s = 0) : ShotR s := by
  unfold checkF at h
  split at h
  · rename_i h1
    simp only [Bool.and_eq_true, inB_iff] at h1
    split at h
    · cases h
    · split at h
      · cases h
      · refine ⟨by omega, by omega, by omega, by omega, by omega, gaugesL_ok h⟩
  · cases h

/-- What holds of a case without an error. -/
structure CaseR (c : Case) : Prop where
  lens : 1 ≤ c.chain.shots.length ∧ c.chain.shots.length ≤ 7
  rlen : 1 ≤ c.chain.rows.length ∧ c.chain.rows.length ≤ 6
  long : 1 ≤ c.chain.long ∧ c.chain.long ≤ 50
  heavy : 0 ≤ c.chain.heavy ∧ c.chain.heavy ≤ 200
  err : 0 ≤ c.chain.err ∧ c.chain.err ≤ 2000
  hold : 0 ≤ c.chain.hold.lo ∧ c.chain.hold.lo ≤ c.chain.hold.hi ∧ c.chain.hold.hi ≤ 200000
  shots : ∀ s ∈ c.chain.shots, ShotR s ∧ s.set ≤ c.day
  rows : ∀ r ∈ c.chain.rows, (1 ≤ r.scope ∧ r.scope ≤ 200) ∧ (1 ≤ r.holds ∧ r.holds ≤ 1000)
  ship : (0 ≤ c.ship.wind ∧ c.ship.wind ≤ 10000) ∧ (0 ≤ c.ship.current ∧ c.ship.current ≤ 10000) ∧ (0 ≤ c.ship.swell ∧ c.ship.swell ≤ 10000) ∧ (0 ≤ c.ship.yaw ∧ c.ship.yaw ≤ 20)
  day : 0 ≤ c.day ∧ c.day ≤ 40000
  wlen : 1 ≤ c.weathers.length ∧ c.weathers.length ≤ 6
  weathers : ∀ w ∈ c.weathers, (1 ≤ w.depth.lo ∧ w.depth.lo ≤ w.depth.hi ∧ w.depth.hi ≤ 1000) ∧ (0 ≤ w.wind.lo ∧ w.wind.lo ≤ w.wind.hi ∧ w.wind.hi ≤ 80) ∧ (0 ≤ w.current.lo ∧ w.current.lo ≤ w.current.hi ∧ w.current.hi ≤ 80) ∧ (0 ≤ w.swell.lo ∧ w.swell.lo ≤ w.swell.hi ∧ w.swell.hi ≤ 150)

theorem case_ok {c : Case} (h : (checkC c).2.2 = 0) : CaseR c := by
  unfold checkC at h
  split at h
  case isFalse h0 => exact absurd h h0
  rename_i hp
  simp only at h
  split at h
  case isFalse h0 => exact absurd h h0
  rename_i hs
  unfold rowsE at h
  simp only at h
  split at h
  case isFalse h0 => exact absurd h h0
  rename_i hr
  unfold restE at h
  split at h
  case isFalse => cases h
  rename_i h1
  split at h
  case isFalse => cases h
  rename_i h2
  split at h
  case isTrue => cases h
  rename_i h3
  split at h
  case isFalse => cases h
  rename_i h4
  simp only at h
  split at h
  case isFalse h0 => exact absurd h h0
  rename_i hw
  unfold plainF at hp
  split at hp
  case isFalse => cases hp
  rename_i p1
  split at hp
  case isFalse => cases hp
  rename_i p2
  split at hp
  case isTrue => cases hp
  rename_i p3
  simp only [Bool.and_eq_true, inB_iff] at h1 h2 h4 p1 p2
  refine ⟨by omega, by omega, by omega, by omega, by omega, by omega, fun s hm => ⟨?_, ?_⟩, fun r hm => ?_, by omega, by omega, by omega, fun w hm => ?_⟩
  · obtain ⟨b, hb⟩ := firstE_all hs s hm
    unfold shotE at hb
    split at hb
    · split at hb
      · cases hb
      · exact checkF_ok hb
    · cases hb
  · rw [Bool.not_eq_true, List.any_eq_false] at h3
    have := h3 s hm
    simp at this; exact this
  · obtain ⟨b, hb⟩ := firstE_all hr r hm
    unfold rowE at hb
    split at hb
    · rename_i q; simp only [Bool.and_eq_true, inB_iff] at q; exact q
    · cases hb
  · obtain ⟨b, hb⟩ := firstE_all hw w hm
    unfold weatherE at hb
    split at hb
    · rename_i q
      simp only [Bool.and_eq_true, inB_iff] at q
      split at hb
      · cases hb
      · omega
    · cases hb

theorem CaseR.look {c : Case} (h : CaseR c) {s : Shot} (hs : s ∈ c.chain.shots) : LookOk s c.chain.err s.gauges := by
  obtain ⟨⟨h1, h2, h3, h4, h5, h6⟩, h7⟩ := h.shots s hs
  have he := h.err
  refine ⟨by omega, ⟨by omega, by omega, by omega⟩, fun g hg => ?_, by omega⟩
  have := h6 g hg
  unfold gaugeOk
  omega

/-- How thick a shot can be on a day, and the error. -/
def thickE (c : Case) (i day : Int) : Span × Int :=
  if openE c i = 0 then (match c.chain.shots[i.toNat]? with
    | some s => if inB day s.set 40000 then (if (rangeS s c.chain.err s.gauges day).2 then ((rangeS s c.chain.err s.gauges day).1, 0) else (⟨0, 0⟩, 9)) else (⟨0, 0⟩, 7)
    | none => (⟨0, 0⟩, 0)) else (⟨0, 0⟩, openE c i)

theorem openE_ok {c : Case} {i : Int} (h : openE c i = 0) : (checkC c).2.2 = 0 ∧ ∃ s, 0 ≤ i ∧ c.chain.shots[i.toNat]? = some s := by
  unfold openE at h
  split at h
  · rename_i h0
    split at h
    · rename_i h1
      obtain ⟨s, h2, h3⟩ := inB_get h1
      exact ⟨h0, s, h2, h3⟩
    · cases h
  · rename_i h0; exact absurd h h0

theorem fn15 (c : Case) (i day : Int) : FnV Try.prog 15 [c.d, i64 i, i64 day] (.tup [(thickE c i day).1.d, i64 (thickE c i day).2]) := by
  refine fnV_of mixed tysOk Try.func15 rfl (ft := ft15) 3 (by decide +kernel) (by rfl) fun {σ} Y st => ?_
  conv => whnf
  refine CallA_v (ds := [c.d, i64 i]) (fn57 c i) rfl rfl ?_
  by_cases h0 : openE c i = 0
  · obtain ⟨hc, s, hi, hs⟩ := openE_ok h0
    have hR := case_ok hc
    have hm := List.mem_of_getElem? hs
    have hL := hR.look hm
    have hr := (hR.shots s hm).1
    have hD : openD c i = .agg (sCells s c.chain.err) := by simp [openD, h0, hs]
    rw [hD, h0]
    conv => whnf
    refine CallA_view (fn51_1 s.set 40000 day) rfl 1 rfl ?_
    conv => whnf
    refine brk_i (fun h1 => ?_) (fun h1 => ?_)
    · have h1 : inB day s.set 40000 = false := by simpa using h1
      conv => whnf
      refine RetA_view 0 rfl ⟨⟨?_, rfl⟩, rfl⟩
      simp [thickE, h0, hs, h1, packD]
      rfl
    · have h1 : inB day s.set 40000 = true := by simpa using h1
      have h1' := inB_iff.1 h1
      have hset := hr.set
      conv => whnf
      refine CallA_v (ds := [.agg (sCells s c.chain.err), i64 day]) (fn58 s c.chain.err day hL (by omega)) rfl rfl ?_
      conv => whnf
      refine brk_i (fun h2 => ?_) (fun h2 => ?_)
      · have h2 : (rangeS s c.chain.err s.gauges day).2 = false := by simpa using h2
        conv => whnf
        refine RetA_view 0 rfl ⟨⟨?_, rfl⟩, rfl⟩
        simp [thickE, h0, hs, h1, h2, packD]
        rfl
      · have h2 : (rangeS s c.chain.err s.gauges day).2 = true := by simpa using h2
        conv => whnf
        refine RetA_view 0 rfl ⟨⟨?_, rfl⟩, rfl⟩
        simp [thickE, h0, hs, h1, h2, packD]
        rfl
  · have hD : openD c i = .agg [.str ⟨#[]⟩, i64 0, i64 0, i64 0, i64 0, i64 0, i64 0, .nils, i64 0] := by simp [openD, h0]
    rw [hD]
    conv => whnf
    refine brk_i (fun h1 => ?_) (fun h1 => absurd h0 (by simpa using h1))
    conv => whnf
    refine RetA_view 0 rfl ⟨⟨?_, rfl⟩, rfl⟩
    simp [thickE, h0, packD]
    rfl

theorem fn16 (c : Case) (i day : Int) : FnV Try.prog 16 [c.d, i64 i, i64 day] (.tup [(thickE c i day).1.d, i64 (thickE c i day).2]) := by
  refine fnV_of mixed tysOk Try.func16 rfl (ft := ft16) 3 (by decide +kernel) (by rfl) fun {σ} Y st => ?_
  conv => whnf
  refine CallA_v (ds := [c.d, i64 i]) (fn59 c i) rfl rfl ?_
  by_cases h0 : openE c i = 0
  · obtain ⟨hc, s, hi, hs⟩ := openE_ok h0
    have hR := case_ok hc
    have hm := List.mem_of_getElem? hs
    have hL := hR.look hm
    have hr := (hR.shots s hm).1
    have herr := hR.err
    rw [h0]
    conv => whnf
    refine elemK_i s.cells ⟨hi, by simp [hs]⟩ ?_
    conv => whnf
    refine CallA_v (fn55 day s.set 40000) rfl rfl ?_
    conv => whnf
    refine brk_i (fun h1 => ?_) (fun h1 => ?_)
    · have h1 : inB day s.set 40000 = false := by simpa using h1
      conv => whnf
      refine RetA_view 0 rfl ⟨⟨?_, rfl⟩, rfl⟩
      simp [thickE, h0, hs, h1, packD]
      rfl
    · have h1 : inB day s.set 40000 = true := by simpa using h1
      have h1' := inB_iff.1 h1
      have hset := hr.set
      conv => whnf
      refine CallA_v (ds := [s.d, i64 c.chain.err, gaugesD s.gauges, i64 day]) (fn60 s c.chain.err s.gauges day (by omega) hL.shot hL.gok hL.len (by omega)) rfl rfl ?_
      conv => whnf
      refine brk_i (fun h2 => ?_) (fun h2 => ?_)
      · have h2 : (rangeS s c.chain.err s.gauges day).2 = false := by simpa using h2
        conv => whnf
        refine RetA_view 0 rfl ⟨⟨?_, rfl⟩, rfl⟩
        simp [thickE, h0, hs, h1, h2, packD]
        rfl
      · have h2 : (rangeS s c.chain.err s.gauges day).2 = true := by simpa using h2
        conv => whnf
        refine RetA_view 0 rfl ⟨⟨?_, rfl⟩, rfl⟩
        simp [thickE, h0, hs, h1, h2, packD]
        rfl
  · conv => whnf
    refine brk_i (fun h1 => ?_) (fun h1 => absurd h0 (by simpa using h1))
    conv => whnf
    refine RetA_view 0 rfl ⟨⟨?_, rfl⟩, rfl⟩
    simp [thickE, h0, packD]
    rfl
end Go.PX
