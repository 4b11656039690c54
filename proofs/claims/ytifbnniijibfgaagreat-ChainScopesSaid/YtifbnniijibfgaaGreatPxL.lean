import Derived.Test.YtifbnniijibfgaaGreatPxK
import Derived.Test.YtifbnniijibfgaaGreatPxH
set_option linter.all false
set_option maxRecDepth 10000
namespace Go.PX
open Go.Proofs

theorem CaseR.turn {c : Case} (h : CaseR c) (rev : Bool) : CaseR (turnC c rev) := by
  cases rev with
  | false => exact h
  | true => exact ⟨by simpa [turnC] using h.lens, h.rlen, h.long, h.heavy, h.err, h.hold, fun s hs => h.shots s (by simpa [turnC] using hs), h.rows, h.ship, h.day, h.wlen, h.weathers⟩

theorem renewT_ok {c : Case} {th : List Span} (h : MoorOk c th) : ∀ (w : List Int) (t : List Span), t.length = th.length → (∀ s ∈ t, (0 ≤ s.lo ∧ s.lo ≤ 1000000) ∧ (0 ≤ s.hi ∧ s.hi ≤ 1000000)) →
    (w.foldl (fun t i => t.set i.toNat (newAt c i)) t).length = th.length ∧ ∀ s ∈ w.foldl (fun t i => t.set i.toNat (newAt c i)) t, (0 ≤ s.lo ∧ s.lo ≤ 1000000) ∧ (0 ≤ s.hi ∧ s.hi ≤ 1000000)
  | [], t, hl, ht => ⟨hl, ht⟩
  | i :: r, t, hl, ht => by
    rw [List.foldl_cons]
    refine renewT_ok h r _ (by simp [hl]) fun s hs => ?_
    rcases List.mem_or_eq_of_mem_set hs with hs | rfl
    · exact ht s hs
    · unfold newAt
      split
      · rename_i x hx
        have := (h.case.shots x (List.mem_of_getElem? hx)).1.new
        omega
      · exact ⟨by simp, by simp⟩

theorem MoorOk.turn {c : Case} {th : List Span} (h : MoorOk c th) (w : List Int) (rev : Bool) : MoorOk (turnC c rev) (turnT (renewT c th w) rev) := by
  obtain ⟨h1, h2⟩ := renewT_ok h w th rfl h.th
  refine ⟨h.case.turn rev, ?_, fun s hs => h2 s ?_⟩
  · cases rev <;> simp [turnC, turnT, renewT, h1, h.len]
  · cases rev with
    | false => exact hs
    | true => exact List.mem_reverse.1 hs

/-- With these shots renewed: does the chain hold, and must it be turned? -/
def renewW (c : Case) (th : List Span) (q : List Int) : Bool × Bool :=
  if (scopesF (turnC c false) (turnT (renewT c th q) false) 1).length > 0 then (false, true)
  else if (scopesF (turnC c true) (turnT (renewT c th q) true) 1).length > 0 then (true, true) else (false, false)

theorem fn76 (c : Case) (th : List Span) (q : List Int) (h : MoorOk c th) (hw : ∀ i ∈ q, 0 ≤ i ∧ i < c.chain.shots.length) (hwl : q.length < 1000000) :
    FnV Tryz.prog 51 [intsD q, .ref [mD c th (freshM c.chain.shots 0)]] (.tup [.bool (renewW c th q).1, .bool (renewW c th q).2]) := by
  refine fnV_of mixed tysOk Tryz.func51 rfl (ft := ft51) 2 (by decide +kernel) (by rfl) fun {σ} Y st => ?_
  conv => whnf
  refine LoopA_p (T := tys) tysOk (by exact drawsB_spec mixed tysOk (by decide +kernel)) (α := Nat)
    (fun x => ⟨[(0, .d (intsD q)), (1, .d (.ref [mD c th (freshM c.chain.shots 0)])), (7, .sl 7 1 0 2), (8, .d (i64 2)), (9, .d (i64 x))], [(7, .arr 1 (.dd [[.bool false], [.bool true]]))], st⟩)
    (fun x => x = 0 ∨ (x = 1 ∧ ¬ (scopesF (turnC c false) (turnT (renewT c th q) false) 1).length > 0) ∨ (x = 2 ∧ renewW c th q = (false, false))) (fun x => 2 - x) 0
    (Wk.sub ⟨(by first | rfl | (simp only [List.length_map]; rfl) | simp [PX.get]), (by first | rfl | (simp only [List.length_map]; rfl) | simp [PX.get]), (by first | rfl | (simp only [List.length_map]; rfl) | simp [PX.get]), (by first | rfl | (simp only [List.length_map]; rfl) | simp [PX.get]), (by first | rfl | (simp only [List.length_map]; rfl) | simp [PX.get]), trivial⟩ ⟨(by first | rfl | (simp only [List.length_map]; rfl) | simp [PX.get]), trivial⟩) (.inl rfl) ?_
  intro n hn
  rcases hn with rfl | ⟨rfl, h1⟩ | ⟨rfl, h1⟩
  · conv => whnf
    refine CallA_v (ds := [mD c th (freshM c.chain.shots 0), intsD q, .bool false]) (fn77 c th q false h hw hwl) rfl rfl ?_
    conv => whnf
    refine CallA_v (ds := [mD (turnC c false) (turnT (renewT c th q) false) (freshM c.chain.shots 0), i64 1]) (fn78 (turnC c false) (turnT (renewT c th q) false) (freshM c.chain.shots 0) 1 (h.turn q false)) rfl rfl ?_
    obtain ⟨l, hl⟩ : ∃ x, x = scopesF (turnC c false) (turnT (renewT c th q) false) 1 := ⟨_, rfl⟩
    rw [← hl]
    conv => whnf
    refine brk_i (fun h2 => ?_) (fun h2 => ?_)
    · have h2 : l.length > 0 := by have := of_decide_eq_true h2; simpa using this
      have hE : renewW c th q = (false, true) := by rw [renewW, ← hl, if_pos h2]
      rw [hE]
      conv => whnf
      exact RetA_view 0 rfl ⟨⟨rfl, rfl⟩, rfl⟩
    · have h2 : ¬ l.length > 0 := by have := of_decide_eq_false h2; simpa using this
      conv => whnf
      refine arith_in (wrap_i64 (by (try dsimp only); omega)) ?_
      conv => whnf
      exact ⟨1, by simp, .inr (.inl ⟨rfl, hl ▸ h2⟩), (Wk.sub ⟨(by first | rfl | (simp only [List.length_map]; rfl) | simp [PX.get]), (by first | rfl | (simp only [List.length_map]; rfl) | simp [PX.get]), (by first | rfl | (simp only [List.length_map]; rfl) | simp [PX.get]), (by first | rfl | (simp only [List.length_map]; rfl) | simp [PX.get]), (by first | rfl | (simp only [List.length_map]; rfl) | simp [PX.get]), trivial⟩ ⟨(by first | rfl | (simp only [List.length_map]; rfl) | simp [PX.get]), trivial⟩)⟩
  · conv => whnf
    refine CallA_v (ds := [mD c th (freshM c.chain.shots 0), intsD q, .bool true]) (fn77 c th q true h hw hwl) rfl rfl ?_
    conv => whnf
    refine CallA_v (ds := [mD (turnC c true) (turnT (renewT c th q) true) (freshM c.chain.shots 0), i64 1]) (fn78 (turnC c true) (turnT (renewT c th q) true) (freshM c.chain.shots 0) 1 (h.turn q true)) rfl rfl ?_
    obtain ⟨l, hl⟩ : ∃ x, x = scopesF (turnC c true) (turnT (renewT c th q) true) 1 := ⟨_, rfl⟩
    rw [← hl]
    conv => whnf
    refine brk_i (fun h2 => ?_) (fun h2 => ?_)
    · have h2 : l.length > 0 := by have := of_decide_eq_true h2; simpa using this
      have hE : renewW c th q = (true, true) := by rw [renewW, ← hl, if_neg h1, if_pos h2]
      rw [hE]
      conv => whnf
      exact RetA_view 0 rfl ⟨⟨rfl, rfl⟩, rfl⟩
    · have h2 : ¬ l.length > 0 := by have := of_decide_eq_false h2; simpa using this
      conv => whnf
      refine arith_in (wrap_i64 (by (try dsimp only); omega)) ?_
      conv => whnf
      exact ⟨2, by simp, .inr (.inr ⟨rfl, by rw [renewW, ← hl, if_neg h1, if_neg h2]⟩), (Wk.sub ⟨(by first | rfl | (simp only [List.length_map]; rfl) | simp [PX.get]), (by first | rfl | (simp only [List.length_map]; rfl) | simp [PX.get]), (by first | rfl | (simp only [List.length_map]; rfl) | simp [PX.get]), (by first | rfl | (simp only [List.length_map]; rfl) | simp [PX.get]), (by first | rfl | (simp only [List.length_map]; rfl) | simp [PX.get]), trivial⟩ ⟨(by first | rfl | (simp only [List.length_map]; rfl) | simp [PX.get]), trivial⟩)⟩
  · conv => whnf
    rw [h1]
    exact RetA_view 0 rfl ⟨⟨rfl, rfl⟩, rfl⟩

def renewE (c : Case) : (List Int × Bool) × Int :=
  if lookE c (checkC c).2.2 = 0 then (match chooseF (renewW c (thickL c)) c.chain.shots.length with
    | some (q, y) => ((q, y), 0)
    | none => (([], false), 9)) else (([], false), lookE c (checkC c).2.2)

theorem fn27 (c : Case) : FnV Tryz.prog 20 [c.d] (.tup [intsD (renewE c).1.1, .bool (renewE c).1.2, i64 (renewE c).2]) := by
  refine fnV_of mixed tysOk Tryz.func20 rfl (ft := ft20) 1 (by decide +kernel) (by rfl) fun {σ} Y st => ?_
  conv => whnf
  refine CallA_v (fn13 c) rfl rfl ?_
  conv => whnf
  refine CallA_v (fn66' c (checkC c).2.2 (fun h => case_ok h)) rfl rfl ?_
  conv => whnf
  unfold lookD
  by_cases h1 : lookE c (checkC c).2.2 = 0
  · obtain ⟨h0, hs⟩ := lookE_zero h1
    have hR := case_ok h0
    have hM := moor_ok hR
    have hlen := hR.lens
    rw [if_pos h1, h1]
    conv => whnf
    have hwant : Want103 51 [.ref [mD c (thickL c) (freshM c.chain.shots 0)]] (renewW c (thickL c)) c.chain.shots.length := fun q hq hql => fn76 c (thickL c) q hM hq (by omega)
    refine CallA_frz 1 [5] ?_
    refine CallA_sub (e' := [(2, .d .nils), (3, .d (.bool false)), (4, .d (i64 0))]) (h' := []) (args' := [.d (i64 c.chain.shots.length), .d (.clo 51 [.ref [mD c (thickL c) (freshM c.chain.shots 0)]])]) ⟨rfl, rfl, rfl, trivial⟩ trivial (by simp only [List.length_map]; rfl) ?_
    refine CallA_y (fn75 51 [.ref [mD c (thickL c) (freshM c.chain.shots 0)]] (renewW c (thickL c)) c.chain.shots.length (by omega) hwant Y st) [] rfl rfl rfl rfl ?_
    rintro v h1' s' ⟨rfl, rfl, hv⟩
    cases hF : chooseF (renewW c (thickL c)) c.chain.shots.length with
    | some r =>
      obtain ⟨q, y⟩ := r
      rw [hF] at hv
      simp only at hv
      subst hv
      have hE : renewE c = ((q, y), 0) := by simp [renewE, h1, hF]
      rw [hE]
      refine ⟨rfl, ?_⟩
      conv => whnf
      exact RetA_view 0 rfl ⟨⟨rfl, rfl⟩, rfl⟩
    | none =>
      rw [hF] at hv
      obtain ⟨y, rfl⟩ := hv
      have hE : renewE c = (([], false), 9) := by simp [renewE, h1, hF]
      rw [hE]
      refine ⟨rfl, ?_⟩
      conv => whnf
      refine RetA_nil0 ?_
      exact RetA_view 0 rfl ⟨⟨rfl, rfl⟩, rfl⟩
  · have hE : renewE c = (([], false), lookE c (checkC c).2.2) := by simp [renewE, h1]
    rw [hE, if_neg h1]
    conv => whnf
    refine brk_i (fun _ => ?_) (fun h => absurd h (by simpa using h1))
    conv => whnf
    refine RetA_nil0 ?_
    exact RetA_view 0 rfl ⟨⟨rfl, rfl⟩, rfl⟩
end Go.PX

namespace Go.PX
open Go.Proofs

mutual
/-- Data with empty lists for nil slices. -/
def relax : D → D
  | .agg cs => .agg (relaxL cs)
  | .tup cs => .tup (relaxL cs)
  | .vs es => .vs (relaxE es)
  | .nils => .vs []
  | .ref cs => .ref (relaxL cs)
  | .bool b => .bool b
  | .int k n => .int k n
  | .str s => .str s
  | .nilp => .nilp
  | .mv kvs => .mv kvs
  | .nilm => .nilm
  | .clo f caps => .clo f caps
  | .mth f first => .mth f first
  | .nilf => .nilf
  | .ifc t v => .ifc t v
  | .nili => .nili
def relaxL : List D → List D
  | [] => []
  | c :: r => relax c :: relaxL r
def relaxE : List (List D) → List (List D)
  | [] => []
  | c :: r => relaxL c :: relaxE r
end

theorem relaxL_length : ∀ l : List D, (relaxL l).length = l.length
  | [] => rfl
  | c :: r => by simp only [relaxL, List.length_cons, relaxL_length r]
theorem relaxE_length : ∀ l : List (List D), (relaxE l).length = l.length
  | [] => rfl
  | c :: r => by simp only [relaxE, List.length_cons, relaxE_length r]

mutual
theorem RepD.relax {F : Nat → Nat} {w : World} : ∀ (a : D) (v : Value), RepD F w a v → RepD F w (relax a) v
  | .agg cs, _, hr => by
    obtain ⟨l, rfl, hl⟩ := hr
    exact ⟨l, rfl, RepDL.relax cs _ hl⟩
  | .tup cs, _, hr => by
    obtain ⟨l, rfl, hl⟩ := hr
    exact ⟨l, rfl, RepDL.relax cs _ hl⟩
  | .vs es, _, hr => by
    obtain ⟨a, len, cap, rfl, hl, hc, he⟩ := hr
    refine ⟨a, len, cap, rfl, by rw [relaxE_length]; exact hl, hc, fun hne => ?_⟩
    obtain ⟨b, off, sz, ha, hs, hes⟩ := he (by rintro rfl; exact hne rfl)
    exact ⟨b, off, sz, ha, hs, RepEs.relax es b off sz hes⟩
  | .nils, _, hr => by
    have hx : _ = Value.slice none 0 0 := hr
    subst hx
    exact ⟨none, 0, 0, rfl, rfl, Nat.le_refl _, fun h => absurd rfl h⟩
  | .ref cs, _, hr => by
    obtain ⟨b, off, rfl, hc⟩ := hr
    exact ⟨b, off, rfl, RepAt.relax cs b off hc⟩
  | .bool _, _, hr => hr
  | .int _ _, _, hr => hr
  | .str _, _, hr => hr
  | .nilp, _, hr => hr
  | .mv _, _, hr => hr
  | .nilm, _, hr => hr
  | .clo _ _, _, hr => hr
  | .mth _ _, _, hr => hr
  | .nilf, _, hr => hr
  | .ifc _ _, _, hr => hr
  | .nili, _, hr => hr
theorem RepDL.relax {F : Nat → Nat} {w : World} : ∀ (cs : List D) (l : List Value), RepDL F w cs l → RepDL F w (relaxL cs) l
  | [], _, hr => hr
  | c :: r, _, hr => by
    obtain ⟨x, l', rfl, hc, hl⟩ := hr
    exact ⟨x, l', rfl, RepD.relax c x hc, RepDL.relax r l' hl⟩
theorem RepAt.relax {F : Nat → Nat} {w : World} : ∀ (cs : List D) (b off : Nat), RepAt F w b off cs → RepAt F w b off (relaxL cs)
  | [], _, _, _ => trivial
  | c :: r, b, off, hr => by
    obtain ⟨hf, ⟨x, hx, hc⟩, hl⟩ := hr
    exact ⟨hf, ⟨x, hx, RepD.relax c x hc⟩, RepAt.relax r b (off + 1) hl⟩
theorem RepEs.relax {F : Nat → Nat} {w : World} : ∀ (es : List (List D)) (b off sz : Nat), RepEs F w b off sz es → RepEs F w b off sz (relaxE es)
  | [], _, _, _, _ => trivial
  | e :: r, b, off, sz, hr => by
    obtain ⟨hn, he, hl⟩ := hr
    exact ⟨by rw [relaxL_length]; exact hn, RepAt.relax e b off he, RepEs.relax r b (off + sz) sz hl⟩
end

theorem FnV.relax {P : Program} {f : FuncId} {ds : List D} {r : D} (h : FnV P f ds r) {r' : D} (hr : PX.relax r = r') : FnV P f ds r' := by
  subst hr
  intro σ Y s
  obtain ⟨h1, h2⟩ := h Y s
  refine ⟨h1, fun cx hY L F vals w hh hv => (h2 cx hY L F vals w hh hv).mono ?_⟩
  rintro e w' ⟨x, rfl, v, h', s', L', F', ⟨⟨rfl, rfl⟩, rfl⟩, hh', hx, tr, hp⟩
  exact ⟨x, rfl, _, _, _, L', F', ⟨⟨rfl, rfl⟩, rfl⟩, hh', RepD.relax r x hx, tr, hp⟩

def lowS (b : Bool) : Shot := ⟨⟨#[108, 111, 119]⟩, 10, 0, ⟨20000, 21000⟩, ⟨2, 4⟩, ⟨100, 20200⟩ :: (if b then [⟨200, 18000⟩] else [])⟩
def highS : Shot := ⟨⟨#[104, 105, 103, 104]⟩, 10, 0, ⟨18000, 18000⟩, ⟨5, 5⟩, []⟩
def awakeC (b : Bool) : Case := ⟨⟨[lowS b, highS], 10, 20, 100, ⟨9000, 12000⟩, [⟨30, 500⟩, ⟨60, 1000⟩]⟩, ⟨200, 300, 10, 5⟩, 1000, [⟨⟨20, 30⟩, ⟨20, 40⟩, ⟨0, 20⟩, ⟨0, 5⟩⟩, ⟨⟨20, 30⟩, ⟨0, 10⟩, ⟨0, 10⟩, ⟨10, 15⟩⟩]⟩

set_option maxHeartbeats 2000000 in
theorem fn23 (b : Bool) : FnV Tryz.prog 40 [.bool b] (awakeC b).d := by
  refine FnV.relax (r := .agg ((.vs [(lowS b).cells, highS.cells.take 7 ++ [.nils]]) :: (awakeC b).cells.tail)) ?_ (by cases b <;> rfl)
  cases b with
  | false =>
    refine fnV_of mixed tysOk Tryz.func40 rfl (ft := ft40) 1 (by decide +kernel) (by rfl) fun {σ} Y st => ?_
    conv => whnf
    refine CallA_v (fn28 20000 21000) rfl rfl ?_
    conv => whnf
    refine CallA_v (fn28 2 4) rfl rfl ?_
    conv => whnf
    refine CallA_v (fn28 18000 18000) rfl rfl ?_
    conv => whnf
    refine CallA_v (fn28 5 5) rfl rfl ?_
    conv => whnf
    refine DrawCall_v (fn28 9000 12000) rfl rfl ?_
    conv => whnf
    refine DrawCall_v (fn28 20 30) rfl rfl ?_
    conv => whnf
    refine DrawCall_v (fn28 20 40) rfl rfl ?_
    conv => whnf
    refine DrawCall_v (fn28 0 20) rfl rfl ?_
    conv => whnf
    refine DrawCall_v (fn28 0 5) rfl rfl ?_
    conv => whnf
    refine DrawCall_v (fn28 20 30) rfl rfl ?_
    conv => whnf
    refine DrawCall_v (fn28 0 10) rfl rfl ?_
    conv => whnf
    refine DrawCall_v (fn28 0 10) rfl rfl ?_
    conv => whnf
    refine DrawCall_v (fn28 10 15) rfl rfl ?_
    conv => whnf
    exact RetA_view 4 (ds := [.agg ((.vs [(lowS false).cells, highS.cells.take 7 ++ [.nils]]) :: (awakeC false).cells.tail)]) rfl ⟨⟨rfl, rfl⟩, rfl⟩
  | true =>
    refine fnV_of mixed tysOk Tryz.func40 rfl (ft := ft40) 1 (by decide +kernel) (by rfl) fun {σ} Y st => ?_
    conv => whnf
    refine CallA_v (fn28 20000 21000) rfl rfl ?_
    conv => whnf
    refine CallA_v (fn28 2 4) rfl rfl ?_
    conv => whnf
    refine ownK_whole rfl ?_
    conv => whnf
    refine ownK_whole rfl ?_
    conv => whnf
    refine CallA_v (fn28 18000 18000) rfl rfl ?_
    conv => whnf
    refine CallA_v (fn28 5 5) rfl rfl ?_
    conv => whnf
    refine DrawCall_v (fn28 9000 12000) rfl rfl ?_
    conv => whnf
    refine DrawCall_v (fn28 20 30) rfl rfl ?_
    conv => whnf
    refine DrawCall_v (fn28 20 40) rfl rfl ?_
    conv => whnf
    refine DrawCall_v (fn28 0 20) rfl rfl ?_
    conv => whnf
    refine DrawCall_v (fn28 0 5) rfl rfl ?_
    conv => whnf
    refine DrawCall_v (fn28 20 30) rfl rfl ?_
    conv => whnf
    refine DrawCall_v (fn28 0 10) rfl rfl ?_
    conv => whnf
    refine DrawCall_v (fn28 0 10) rfl rfl ?_
    conv => whnf
    refine DrawCall_v (fn28 10 15) rfl rfl ?_
    conv => whnf
    exact RetA_view 4 (ds := [.agg ((.vs [(lowS true).cells, highS.cells.take 7 ++ [.nils]]) :: (awakeC true).cells.tail)]) rfl ⟨⟨rfl, rfl⟩, rfl⟩
end Go.PX

namespace Go.PX
open Go.Proofs

def worstA : Truth := ⟨30, 40, 20, 5, 9000, [16500, 13000]⟩

theorem fn70 : FnV Tryz.prog 43 [] worstA.d := by
  refine fnV_of mixed tysOk Tryz.func43 rfl (ft := ft43) 0 (by decide +kernel) (by rfl) fun {σ} Y st => ?_
  conv => whnf
  exact RetA_view 2 (ds := [worstA.d]) rfl ⟨⟨rfl, rfl⟩, rfl⟩

theorem aw1 : thickE (awakeC false) 0 1000 = (⟨16500, 18500⟩, 0) := by decide +kernel
theorem aw2 : doubtsE (awakeC true) 0 = [1] := by decide +kernel
theorem aw2' : openE (awakeC true) 0 = 0 := by decide +kernel
theorem aw3 : bearsE (awakeC false) 0 = (⟨13612, 17112⟩, 0) := by decide +kernel
theorem aw4 : pullE (awakeC false) 0 18 = (4851, 0) := by decide +kernel
theorem aw5 : whyE (awakeC false) 10 = ((1, 0, 0), 0) := by decide +kernel
theorem aw6 : whyE (awakeC false) 20 = ((0, 0, 0), 0) := by decide +kernel
theorem aw7 : showE (awakeC false) 0 20 = (worstA.d, (0, 0), 0) := by rfl
theorem aw8 : inE (awakeC false) 0 20 worstA = ((0, 0), 0) := by decide +kernel
theorem aw9 : scopesE (awakeC false) = ([⟨20, 20⟩], 0) := by decide +kernel
theorem aw10 : shortE (awakeC false) = (20, 0) := by decide +kernel
theorem aw11 : renewE (awakeC false) = (([], false), 0) := by decide +kernel
theorem aw12 : shortE (awakeC true) = (0, 8) := by decide +kernel
theorem aw13 : thickE (awakeC true) 0 5 = (⟨0, 0⟩, 9) := by decide +kernel

def sameT (a b : Truth) : Bool := decide (a.depth = b.depth) && (decide (a.wind = b.wind) && (decide (a.current = b.current) && (decide (a.swell = b.swell) && (decide (a.hold = b.hold) && decide (a.thick = b.thick)))))

theorem fn71 (a b : Truth) (h : a.thick.length < 1000000) : FnV Tryz.prog 11 [a.d, b.d] (.bool (sameT a b)) := by
  refine fnV_of mixed tysOk Tryz.func11 rfl (ft := ft11) 2 (by decide +kernel) (by rfl) fun {σ} Y st => ?_
  conv => whnf
  by_cases h1 : a.depth = b.depth
  · rw [decide_eq_true h1]
    conv => whnf
    by_cases h2 : a.wind = b.wind
    · rw [decide_eq_true h2]
      conv => whnf
      by_cases h3 : a.current = b.current
      · rw [decide_eq_true h3]
        conv => whnf
        by_cases h4 : a.swell = b.swell
        · rw [decide_eq_true h4]
          conv => whnf
          by_cases h5 : a.hold = b.hold
          · rw [decide_eq_true h5]
            conv => whnf
            refine CallA_v (ds := [intsD a.thick, intsD b.thick]) (fn19 a.thick b.thick h) rfl rfl ?_
            conv => whnf
            refine RetA_view 0 rfl ⟨⟨?_, rfl⟩, rfl⟩
            simp [sameT, packD, h1, h2, h3, h4, h5]
          · rw [decide_eq_false h5]
            conv => whnf
            refine RetA_view 0 rfl ⟨⟨?_, rfl⟩, rfl⟩
            simp [sameT, packD, h1, h2, h3, h4, h5]
        · rw [decide_eq_false h4]
          conv => whnf
          refine RetA_view 0 rfl ⟨⟨?_, rfl⟩, rfl⟩
          simp [sameT, packD, h1, h2, h3, h4]
      · rw [decide_eq_false h3]
        conv => whnf
        refine RetA_view 0 rfl ⟨⟨?_, rfl⟩, rfl⟩
        simp [sameT, packD, h1, h2, h3]
    · rw [decide_eq_false h2]
      conv => whnf
      refine RetA_view 0 rfl ⟨⟨?_, rfl⟩, rfl⟩
      simp [sameT, packD, h1, h2]
  · rw [decide_eq_false h1]
    conv => whnf
    refine RetA_view 0 rfl ⟨⟨?_, rfl⟩, rfl⟩
    simp [sameT, packD, h1]

theorem fn22 : FnV Tryz.prog 14 [] (.bool true) := by
  refine fnV_of mixed tysOk Tryz.func14 rfl (ft := ft14) 0 (by decide +kernel) (by rfl) fun {σ} Y st => ?_
  conv => whnf
  refine CallA_v (fn23 false) rfl rfl ?_
  conv => whnf
  refine CallA_v (ds := [(awakeC false).d, i64 0, i64 1000]) (fn15 (awakeC false) 0 1000) rfl rfl ?_
  rw [aw1]
  conv => whnf
  refine CallA_v (fn23 true) rfl rfl ?_
  conv => whnf
  refine CallA_v (ds := [(awakeC true).d, i64 0]) (fn17 (awakeC true) 0) rfl rfl ?_
  rw [aw2, aw2']
  conv => whnf
  refine CallA_v (fn23 false) rfl rfl ?_
  conv => whnf
  refine CallA_v (ds := [(awakeC false).d, i64 0]) (fn20 (awakeC false) 0) rfl rfl ?_
  rw [aw3]
  conv => whnf
  refine CallA_v (fn23 false) rfl rfl ?_
  conv => whnf
  refine CallA_v (ds := [(awakeC false).d, i64 0, i64 18]) (fn24 (awakeC false) 0 18) rfl rfl ?_
  rw [aw4]
  conv => whnf
  refine CallA_v (fn23 false) rfl rfl ?_
  conv => whnf
  refine CallA_v (ds := [(awakeC false).d, i64 10]) (fn25 (awakeC false) 10) rfl rfl ?_
  rw [aw5]
  conv => whnf
  refine CallA_v (fn23 false) rfl rfl ?_
  conv => whnf
  refine CallA_v (ds := [(awakeC false).d, i64 20]) (fn25 (awakeC false) 20) rfl rfl ?_
  rw [aw6]
  conv => whnf
  refine CallA_v (fn23 false) rfl rfl ?_
  conv => whnf
  refine CallA_v (ds := [(awakeC false).d, i64 0, i64 20]) (fn35 (awakeC false) 0 20) rfl rfl ?_
  rw [aw7]
  conv => whnf
  refine CallA_v (fn23 false) rfl rfl ?_
  conv => whnf
  refine CallA_v (fn70) rfl rfl ?_
  conv => whnf
  refine CallA_v (ds := [(awakeC false).d, i64 0, i64 20, worstA.d]) (fn39 (awakeC false) 0 20 worstA) rfl rfl ?_
  rw [aw8]
  conv => whnf
  refine CallA_v (fn23 false) rfl rfl ?_
  conv => whnf
  refine CallA_v (ds := [(awakeC false).d]) (fn41 (awakeC false)) rfl rfl ?_
  rw [aw9]
  conv => whnf
  refine CallA_v (fn23 false) rfl rfl ?_
  conv => whnf
  refine CallA_v (ds := [(awakeC false).d]) (fn40 (awakeC false)) rfl rfl ?_
  rw [aw10]
  conv => whnf
  refine CallA_v (fn23 false) rfl rfl ?_
  conv => whnf
  refine CallA_v (ds := [(awakeC false).d]) (fn27 (awakeC false)) rfl rfl ?_
  rw [aw11]
  conv => whnf
  refine CallA_v (fn23 true) rfl rfl ?_
  conv => whnf
  refine CallA_v (ds := [(awakeC true).d]) (fn40 (awakeC true)) rfl rfl ?_
  rw [aw12]
  conv => whnf
  refine CallA_v (fn23 true) rfl rfl ?_
  conv => whnf
  refine CallA_v (ds := [(awakeC true).d, i64 0, i64 5]) (fn15 (awakeC true) 0 5) rfl rfl ?_
  rw [aw13]
  conv => whnf
  refine DrawCall_v (fn28 16500 18500) rfl rfl ?_
  conv => whnf
  refine DrawCall_view (fn19 [1] [1] (by simp)) rfl 1 rfl ?_
  conv => whnf
  refine DrawCall_v (fn28 13612 17112) rfl rfl ?_
  conv => whnf
  refine DrawCall_v (fn70) rfl rfl ?_
  conv => whnf
  refine DrawCall_v (ds := [worstA.d, worstA.d]) (fn71 worstA worstA (by decide)) rfl rfl ?_
  conv => whnf
  refine DrawCall_v (fn28 20 20) rfl rfl ?_
  conv => whnf
  refine DrawCall_view (fn45 [⟨20, 20⟩] [⟨20, 20⟩] (by simp)) rfl 1 rfl ?_
  conv => whnf
  exact RetA_view 0 rfl ⟨⟨rfl, rfl⟩, rfl⟩
end Go.PX

namespace Go.PX
open Go.Proofs

theorem self_t (x : Int) : decide (x = x) = true := decide_eq_true rfl

theorem doubtsE_len (c : Case) (i : Int) : (doubtsE c i).length < 1000000 := by
  unfold doubtsE
  split
  · rename_i h0
    obtain ⟨hc, s, hi, hs⟩ := openE_ok h0
    have hm := List.mem_of_getElem? hs
    have hl := ((case_ok hc).shots s hm).1.len
    rw [hs]
    simp only [doubtsQ]
    split
    · rename_i q y hq
      unfold chooseF at hq
      obtain ⟨n, hn, h1⟩ := List.exists_of_findSome?_eq_some hq
      have h2 := fillF_len h1
      simp at hn h2
      omega
    · simp
  · simp

end Go.PX

namespace Go.PX
open Go.Proofs Go.RowKit Go.ChangeShapes

theorem c3 : Tryz.prog.cellsOf 3 = 1 := by kernel_rfl
theorem c9 : Tryz.prog.cellsOf 9 = 1 := by kernel_rfl
theorem c24 : Tryz.prog.cellsOf 24 = 2 := by kernel_rfl
theorem c68 : Tryz.prog.cellsOf 125 = 2 := by kernel_rfl
theorem c59 : Tryz.prog.cellsOf 109 = 1 := by kernel_rfl
theorem c61 : Tryz.prog.cellsOf 111 = 8 := by kernel_rfl
theorem c22 : Tryz.prog.cellsOf 22 = 1 := by kernel_rfl
theorem c104 : Tryz.prog.cellsOf 118 = 2 := by kernel_rfl
theorem c25 : Tryz.prog.cellsOf 25 = 1 := by kernel_rfl
theorem c27 : Tryz.prog.cellsOf 27 = 7 := by kernel_rfl
theorem c29 : Tryz.prog.cellsOf 29 = 4 := by kernel_rfl
theorem c79 : Tryz.prog.cellsOf 61 = 8 := by kernel_rfl
theorem c30 : Tryz.prog.cellsOf 30 = 1 := by kernel_rfl
theorem c32 : Tryz.prog.cellsOf 32 = 13 := by kernel_rfl

section
variable (W : World)
theorem rdInt : Rd Tryz.prog W 3 fun ds => ∃ n, ds = [i64 n] := Rd.int Tryz.underlying3
theorem rdStr : Rd Tryz.prog W 9 fun ds => ∃ s, ds = [.str s] := Rd.str Tryz.underlying9

theorem rdSpan : Rd Tryz.prog W 24 fun ds => ∃ s : Span, ds = s.cells :=
  (Rd.struct Tryz.underlying24 c24 (.cons rfl c3 (rdInt W) (.cons rfl c3 (rdInt W) (.nil _)))).mono fun ds h => by
    obtain ⟨_, _, rfl, ⟨a, rfl⟩, _, _, rfl, ⟨b, rfl⟩, rfl⟩ := h
    exact ⟨⟨a, b⟩, rfl⟩

theorem rdGauge : Rd Tryz.prog W 125 fun ds => ∃ s : Gauge, ds = s.cells :=
  (Rd.struct Tryz.underlying125 c68 (.cons rfl c3 (rdInt W) (.cons rfl c3 (rdInt W) (.nil _)))).mono fun ds h => by
    obtain ⟨_, _, rfl, ⟨a, rfl⟩, _, _, rfl, ⟨b, rfl⟩, rfl⟩ := h
    exact ⟨⟨a, b⟩, rfl⟩

theorem rdGauges : Rd Tryz.prog W 109 fun ds => ∃ l : List Gauge, ds = [gaugesD l] :=
  (Rd.slice Tryz.underlying109 c68 (by omega) (rdGauge W)).mono fun ds h => by
    obtain ⟨es, rfl, he⟩ := h
    obtain ⟨l, rfl⟩ := list_of (fun _ h => h) he
    exact ⟨l, rfl⟩

theorem rdShot : Rd Tryz.prog W 111 fun ds => ∃ s : Shot, ds = s.cells :=
  (Rd.struct Tryz.underlying111 c61 (.cons rfl c9 (rdStr W) (.cons rfl c3 (rdInt W) (.cons rfl c3 (rdInt W) (.cons rfl c24 (rdSpan W) (.cons rfl c24 (rdSpan W) (.cons rfl c59 (rdGauges W) (.nil _)))))))).mono fun ds h => by
    obtain ⟨_, _, rfl, ⟨a, rfl⟩, _, _, rfl, ⟨b, rfl⟩, _, _, rfl, ⟨c, rfl⟩, _, _, rfl, ⟨d, rfl⟩, _, _, rfl, ⟨e, rfl⟩, _, _, rfl, ⟨f, rfl⟩, rfl⟩ := h
    exact ⟨⟨a, b, c, d, e, f⟩, rfl⟩

theorem rdShots : Rd Tryz.prog W 22 fun ds => ∃ l : List Shot, ds = [shotsD l] :=
  (Rd.slice Tryz.underlying22 c61 (by omega) (rdShot W)).mono fun ds h => by
    obtain ⟨es, rfl, he⟩ := h
    obtain ⟨l, rfl⟩ := list_of (fun _ h => h) he
    exact ⟨l, rfl⟩

theorem rdRow : Rd Tryz.prog W 118 fun ds => ∃ s : Row, ds = s.cells :=
  (Rd.struct Tryz.underlying118 c104 (.cons rfl c3 (rdInt W) (.cons rfl c3 (rdInt W) (.nil _)))).mono fun ds h => by
    obtain ⟨_, _, rfl, ⟨a, rfl⟩, _, _, rfl, ⟨b, rfl⟩, rfl⟩ := h
    exact ⟨⟨a, b⟩, rfl⟩

theorem rdRows : Rd Tryz.prog W 25 fun ds => ∃ l : List Row, ds = [rowsD l] :=
  (Rd.slice Tryz.underlying25 c104 (by omega) (rdRow W)).mono fun ds h => by
    obtain ⟨es, rfl, he⟩ := h
    obtain ⟨l, rfl⟩ := list_of (fun _ h => h) he
    exact ⟨l, rfl⟩

theorem rdChain : Rd Tryz.prog W 27 fun ds => ∃ c : Chain, ds = c.cells :=
  (Rd.struct Tryz.underlying27 c27 (.cons rfl c22 (rdShots W) (.cons rfl c3 (rdInt W) (.cons rfl c3 (rdInt W) (.cons rfl c3 (rdInt W) (.cons rfl c24 (rdSpan W) (.cons rfl c25 (rdRows W) (.nil _)))))))).mono fun ds h => by
    obtain ⟨_, _, rfl, ⟨a, rfl⟩, _, _, rfl, ⟨b, rfl⟩, _, _, rfl, ⟨c, rfl⟩, _, _, rfl, ⟨d, rfl⟩, _, _, rfl, ⟨e, rfl⟩, _, _, rfl, ⟨f, rfl⟩, rfl⟩ := h
    exact ⟨⟨a, b, c, d, e, f⟩, rfl⟩

theorem rdShip : Rd Tryz.prog W 29 fun ds => ∃ s : Ship, ds = s.cells :=
  (Rd.struct Tryz.underlying29 c29 (.cons rfl c3 (rdInt W) (.cons rfl c3 (rdInt W) (.cons rfl c3 (rdInt W) (.cons rfl c3 (rdInt W) (.nil _)))))).mono fun ds h => by
    obtain ⟨_, _, rfl, ⟨a, rfl⟩, _, _, rfl, ⟨b, rfl⟩, _, _, rfl, ⟨c, rfl⟩, _, _, rfl, ⟨d, rfl⟩, rfl⟩ := h
    exact ⟨⟨a, b, c, d⟩, rfl⟩

theorem rdWeather : Rd Tryz.prog W 61 fun ds => ∃ s : Weather, ds = s.cells :=
  (Rd.struct Tryz.underlying61 c79 (.cons rfl c24 (rdSpan W) (.cons rfl c24 (rdSpan W) (.cons rfl c24 (rdSpan W) (.cons rfl c24 (rdSpan W) (.nil _)))))).mono fun ds h => by
    obtain ⟨_, _, rfl, ⟨a, rfl⟩, _, _, rfl, ⟨b, rfl⟩, _, _, rfl, ⟨c, rfl⟩, _, _, rfl, ⟨d, rfl⟩, rfl⟩ := h
    exact ⟨⟨a, b, c, d⟩, rfl⟩

theorem rdWeathers : Rd Tryz.prog W 30 fun ds => ∃ l : List Weather, ds = [weathersD l] :=
  (Rd.slice Tryz.underlying30 c79 (by omega) (rdWeather W)).mono fun ds h => by
    obtain ⟨es, rfl, he⟩ := h
    obtain ⟨l, rfl⟩ := list_of (fun _ h => h) he
    exact ⟨l, rfl⟩

theorem rdCase : Rd Tryz.prog W 32 fun ds => ∃ c : Case, ds = c.cells :=
  (Rd.struct Tryz.underlying32 c32 (.cons rfl c27 (rdChain W) (.cons rfl c29 (rdShip W) (.cons rfl c3 (rdInt W) (.cons rfl c30 (rdWeathers W) (.nil _)))))).mono fun ds h => by
    obtain ⟨_, _, rfl, ⟨a, rfl⟩, _, _, rfl, ⟨b, rfl⟩, _, _, rfl, ⟨c, rfl⟩, _, _, rfl, ⟨d, rfl⟩, rfl⟩ := h
    exact ⟨⟨a, b, c, d⟩, rfl⟩
end
end Go.PX

namespace Go.PX
open Go.Proofs

def vI (n : Int) : V := .d (i64 n)

/-- The case of the law's own, handed back with its lists. -/
def caseV : V := .agg [.sl 2000001 8 0 2, vI 10, vI 20, vI 100, vI 9000, vI 12000, .sl 2000002 2 0 2, vI 200, vI 300, vI 10, vI 5, vI 1000, .sl 2000003 8 0 2]
def caseH : Heap := [(2000000, .arr 2 (.dd [[i64 100, i64 20200]])), (2000001, .arr 8 (.vv [[.d (.str ⟨#[108, 111, 119]⟩), vI 10, vI 0, vI 20000, vI 21000, vI 2, vI 4, .sl 2000000 2 0 1], [.d (.str ⟨#[104, 105, 103, 104]⟩), vI 10, vI 0, vI 18000, vI 18000, vI 5, vI 5, .d .nils]])),
  (2000002, .arr 2 (.dd [[i64 30, i64 500], [i64 60, i64 1000]])),
  (2000003, .arr 8 (.dd [[i64 20, i64 30, i64 20, i64 40, i64 0, i64 20, i64 0, i64 5], [i64 20, i64 30, i64 0, i64 10, i64 0, i64 10, i64 10, i64 15]]))]

set_option maxHeartbeats 2000000 in
theorem fn23o : FnU Tryz.prog 40 [.d (.bool false)] [] fun v h' => v = caseV ∧ h' = caseH := by
  intro σ Y s
  refine fnC_of mixed tysOk Tryz.func40 rfl (ft := ft40) (args := [.d (.bool false)]) (show fnB ft40 Tryz.f40 1 = true from by decide +kernel) ?_
  conv => whnf
  refine CallA_v (fn28 20000 21000) rfl rfl ?_
  conv => whnf
  refine CallA_v (fn28 2 4) rfl rfl ?_
  conv => whnf
  refine CallA_v (fn28 18000 18000) rfl rfl ?_
  conv => whnf
  refine CallA_v (fn28 5 5) rfl rfl ?_
  conv => whnf
  refine DrawCall_v (fn28 9000 12000) rfl rfl ?_
  conv => whnf
  refine DrawCall_v (fn28 20 30) rfl rfl ?_
  conv => whnf
  refine DrawCall_v (fn28 20 40) rfl rfl ?_
  conv => whnf
  refine DrawCall_v (fn28 0 20) rfl rfl ?_
  conv => whnf
  refine DrawCall_v (fn28 0 5) rfl rfl ?_
  conv => whnf
  refine DrawCall_v (fn28 20 30) rfl rfl ?_
  conv => whnf
  refine DrawCall_v (fn28 0 10) rfl rfl ?_
  conv => whnf
  refine DrawCall_v (fn28 0 10) rfl rfl ?_
  conv => whnf
  refine DrawCall_v (fn28 10 15) rfl rfl ?_
  conv => whnf
  exact RetA_hand [8, 22, 26, 39] [caseV] caseH rfl ⟨rfl, rfl, rfl, rfl, trivial⟩ rfl ⟨⟨rfl, rfl⟩, rfl⟩

def wornC : Case := ⟨⟨[⟨⟨#[108, 111, 119]⟩, 10, 0, ⟨20000, 21000⟩, ⟨2, 4⟩, []⟩, highS], 10, 100, 100, ⟨20000, 20000⟩, [⟨30, 500⟩, ⟨60, 1000⟩]⟩, ⟨200, 300, 10, 5⟩, 1000, [⟨⟨20, 30⟩, ⟨20, 53⟩, ⟨0, 20⟩, ⟨0, 5⟩⟩, ⟨⟨20, 30⟩, ⟨0, 10⟩, ⟨0, 10⟩, ⟨10, 15⟩⟩]⟩

theorem kn1 : thickE (awakeC false) 0 0 = (⟨20300, 20700⟩, 0) := by decide +kernel
theorem kn2 : thickE (awakeC false) 0 100 = (⟨20100, 20300⟩, 0) := by decide +kernel
theorem kn3 : bearsE (awakeC false) 1 = (⟨8450, 8450⟩, 0) := by decide +kernel
theorem kn4 : pullE (awakeC false) 0 10 = (4673, 0) := by decide +kernel
theorem kn5 : pullE (awakeC false) 1 18 = (709, 0) := by decide +kernel
theorem kn6 : whyE (awakeC false) 9 = ((1, 0, 0), 0) := by decide +kernel
theorem kn7 : whyE (awakeC false) 18 = ((1, 0, 0), 0) := by decide +kernel
theorem kn8 : whyE wornC 20 = ((2, 0, 1), 0) := by decide +kernel
theorem kn9 : renewE wornC = (([], true), 0) := by decide +kernel

end Go.PX

namespace Go.PX
open Go.Proofs

def soundAll (c : Case) : Int := lookE c (checkC c).2.2

end Go.PX

namespace Go.PX
open Go.Proofs

/-- All runs. -/
def runsL (ok : Int → Bool) : Nat → Int → Int → List Span
  | 0, _, _ => []
  | r + 1, k, a =>
    if ok k && decide (a = 0) then runsL ok r (k + 1) (k + 1)
    else if !ok k && decide (a > 0) then ⟨a, k⟩ :: runsL ok r (k + 1) 0
    else runsL ok r (k + 1) a

theorem runL_take {ok : Int → Bool} {n : Nat} : ∀ (r : Nat) (k a : Int) (acc : List Span), acc.length < n → runL ok n r k a acc = acc ++ (runsL ok r k a).take (n - acc.length)
  | 0, k, a, acc, h => by simp [runL, runsL]
  | r + 1, k, a, acc, h => by
    rw [runL, runsL]
    split
    · exact runL_take r _ _ _ h
    · split
      · split
        · rename_i h1
          rw [show n - acc.length = 1 by omega]
          simp
        · rename_i h1
          have hl : (acc ++ [Span.mk a k]).length = acc.length + 1 := by simp
          rw [runL_take r _ _ _ (by rw [hl]; omega), hl, List.append_assoc, show n - acc.length = (n - (acc.length + 1)) + 1 by omega]
          simp
      · exact runL_take r _ _ _ h

/-- Ascending, with gaps. -/
def Asc : Int → List Span → Prop
  | _, [] => True
  | b, s :: r => b ≤ s.lo ∧ s.lo ≤ s.hi ∧ Asc (s.hi + 2) r

theorem Asc.weak {b b' : Int} (h : b' ≤ b) : ∀ {l : List Span}, Asc b l → Asc b' l
  | [], _ => trivial
  | s :: r, ⟨h1, h2, h3⟩ => ⟨by omega, h2, h3⟩

theorem runsL_start {ok : Int → Bool} {k : Int} (h : ok k = true) (r : Nat) : runsL ok (r + 1) k 0 = runsL ok r (k + 1) (k + 1) := by simp [runsL, h]
theorem runsL_end {ok : Int → Bool} {k a : Int} (h : ok k = false) (ha : 0 < a) (r : Nat) : runsL ok (r + 1) k a = ⟨a, k⟩ :: runsL ok r (k + 1) 0 := by simp [runsL, h, ha]
theorem runsL_in {ok : Int → Bool} {k a : Int} (h : ok k = true) (ha : 0 < a) (r : Nat) : runsL ok (r + 1) k a = runsL ok r (k + 1) a := by
  have : a ≠ 0 := by omega
  simp [runsL, h, this]
theorem runsL_out {ok : Int → Bool} {k : Int} (h : ok k = false) (r : Nat) : runsL ok (r + 1) k 0 = runsL ok r (k + 1) 0 := by simp [runsL, h]

theorem runsL_asc (ok : Int → Bool) : ∀ (r : Nat) (k a : Int), 0 ≤ k → (a = 0 → Asc (k + 1) (runsL ok r k a)) ∧ (0 < a ∧ a ≤ k → Asc a (runsL ok r k a))
  | 0, k, a, _ => ⟨fun _ => trivial, fun _ => trivial⟩
  | r + 1, k, a, hk => by
    refine ⟨fun h => ?_, fun h => ?_⟩
    · subst h
      cases hok : ok k with
      | true => rw [runsL_start hok]; exact (runsL_asc ok r (k + 1) (k + 1) (by omega)).2 (by omega)
      | false => rw [runsL_out hok]; exact ((runsL_asc ok r (k + 1) 0 (by omega)).1 rfl).weak (by omega)
    · cases hok : ok k with
      | true => rw [runsL_in hok h.1]; exact (runsL_asc ok r (k + 1) a (by omega)).2 (by omega)
      | false => rw [runsL_end hok h.1]; exact ⟨Int.le_refl _, h.2, ((runsL_asc ok r (k + 1) 0 (by omega)).1 rfl).weak (by simp only; omega)⟩

def Cov (x : Int) (l : List Span) : Prop := ∃ s ∈ l, s.lo ≤ x ∧ x ≤ s.hi

theorem runsL_cov (ok : Int → Bool) (x : Int) : ∀ (r : Nat) (k a : Int), 0 ≤ k → 0 ≤ a ∧ a ≤ k → (r = 0 → a = 0) → (0 < r → ok (k + r - 1) = false) →
    (Cov x (runsL ok r k a) ↔ ((0 < a ∧ a ≤ x ∧ x ≤ k) ∨ (k + 1 ≤ x ∧ x ≤ k + r ∧ ok (x - 1) = true)))
  | 0, k, a, hk, ha, h0, _ => by
    have := h0 rfl
    simp only [runsL, Cov, List.not_mem_nil, false_and, exists_false, false_iff]
    omega
  | r + 1, k, a, hk, ha, _, hend => by
    have hend := hend (by omega)
    rw [show k + ((r + 1 : Nat) : Int) - 1 = k + r by omega] at hend
    have hx : ∀ b, ok k = b → (x = k + 1 → ok (x - 1) = b) := fun b hb h => by rw [h, show k + 1 - 1 = k by omega, hb]
    cases hok : ok k with
    | true =>
      have hr : 0 < r := by
        rcases Nat.eq_zero_or_pos r with h | h
        · subst h; rw [show k + ((0 : Nat) : Int) = k by omega, hok] at hend; cases hend
        · exact h
      have hx := hx true hok
      by_cases ha0 : 0 < a
      · rw [runsL_in hok ha0, runsL_cov ok x r (k + 1) a (by omega) (by omega) (by omega) (fun _ => by rw [show k + 1 + (r : Int) - 1 = k + r by omega]; exact hend)]
        constructor
        · rintro (h | ⟨h1, h2, h3⟩)
          · by_cases he : x = k + 1
            · exact .inr ⟨by omega, by omega, hx he⟩
            · exact .inl (by omega)
          · exact .inr ⟨by omega, by omega, h3⟩
        · rintro (h | ⟨h1, h2, h3⟩)
          · exact .inl (by omega)
          · by_cases he : x = k + 1
            · exact .inl (by omega)
            · exact .inr ⟨by omega, by omega, h3⟩
      · have ha1 : a = 0 := by omega
        subst ha1
        rw [runsL_start hok, runsL_cov ok x r (k + 1) (k + 1) (by omega) (by omega) (by omega) (fun _ => by rw [show k + 1 + (r : Int) - 1 = k + r by omega]; exact hend)]
        constructor
        · rintro (h | ⟨h1, h2, h3⟩)
          · exact .inr ⟨by omega, by omega, hx (by omega)⟩
          · exact .inr ⟨by omega, by omega, h3⟩
        · rintro (h | ⟨h1, h2, h3⟩)
          · omega
          · by_cases he : x = k + 1
            · exact .inl (by omega)
            · exact .inr ⟨by omega, by omega, h3⟩
    | false =>
      have hx := hx false hok
      have hne : ok (x - 1) = true → x ≠ k + 1 := fun h he => by rw [hx he] at h; cases h
      have ih := runsL_cov ok x r (k + 1) 0 (by omega) (by omega) (by omega) (fun _ => by rw [show k + 1 + (r : Int) - 1 = k + r by omega]; exact hend)
      by_cases ha0 : 0 < a
      · rw [runsL_end hok ha0]
        have e : Cov x (⟨a, k⟩ :: runsL ok r (k + 1) 0) ↔ ((a ≤ x ∧ x ≤ k) ∨ Cov x (runsL ok r (k + 1) 0)) := by
          simp [Cov]
        rw [e, ih]
        constructor
        · rintro (h | h | ⟨h1, h2, h3⟩)
          · exact .inl (by omega)
          · omega
          · exact .inr ⟨by omega, by omega, h3⟩
        · rintro (h | ⟨h1, h2, h3⟩)
          · exact .inl (by omega)
          · have := hne h3
            exact .inr (.inr ⟨by omega, by omega, h3⟩)
      · have ha1 : a = 0 := by omega
        subst ha1
        rw [runsL_out hok, ih]
        constructor
        · rintro (h | ⟨h1, h2, h3⟩)
          · omega
          · exact .inr ⟨by omega, by omega, h3⟩
        · rintro (h | ⟨h1, h2, h3⟩)
          · omega
          · have := hne h3
            exact .inr ⟨by omega, by omega, h3⟩

def allRuns (c : Case) (th : List Span) : List Span := runsL (holdsAt c th) (linksF c.chain.shots + 1).toNat 0 0

theorem scopesF_take (c : Case) (th : List Span) {n : Int} (hn : 1 ≤ n) : scopesF c th n = (allRuns c th).take n.toNat := by
  unfold scopesF allRuns
  have := runL_take (ok := holdsAt c th) (n := n.toNat) (linksF c.chain.shots + 1).toNat 0 0 [] (by simp; omega)
  rw [show ((n.toNat : Nat) : Int) = n by omega] at this
  simpa using this

theorem allRuns_asc (c : Case) (th : List Span) : Asc 1 (allRuns c th) := (runsL_asc _ _ 0 0 (by omega)).1 rfl

/-- A length is in a run if and only if it holds in every weather. -/
theorem allRuns_cov {c : Case} (h : CaseR c) (th : List Span) (x : Int) : Cov x (allRuns c th) ↔ (1 ≤ x ∧ x ≤ linksF c.chain.shots ∧ (breakF c th x).1 = 0) := by
  have hl := links_ok h
  unfold allRuns
  rw [runsL_cov (holdsAt c th) x _ 0 0 (by omega) (by omega) (by omega) (fun _ => by
    have : (0 : Int) + ((linksF c.chain.shots + 1).toNat : Int) - 1 = linksF c.chain.shots := by omega
    rw [this]; simp [holdsAt])]
  constructor
  · rintro (h | ⟨h1, h2, h3⟩)
    · omega
    · simp only [holdsAt, Bool.and_eq_true, decide_eq_true_eq] at h3
      rw [show x - 1 + 1 = x by omega] at h3
      exact ⟨by omega, by omega, h3.2⟩
  · rintro ⟨h1, h2, h3⟩
    refine .inr ⟨by omega, by omega, ?_⟩
    simp only [holdsAt, Bool.and_eq_true, decide_eq_true_eq]
    rw [show x - 1 + 1 = x by omega]
    exact ⟨by omega, h3⟩
end Go.PX

namespace Go.PX
open Go.Proofs

theorem Asc.get {l : List Span} : ∀ {b : Int} {i : Nat} {x : Span}, Asc b l → l[i]? = some x → b ≤ x.lo ∧ x.lo ≤ x.hi := by
  induction l with
  | nil => intro b i x h hx; simp at hx
  | cons s r ih =>
    intro b i x ⟨h1, h2, h3⟩ hx
    cases i with
    | zero => simp at hx; subst hx; exact ⟨h1, h2⟩
    | succ i =>
      have := ih h3 (by simpa using hx)
      exact ⟨by omega, this.2⟩

theorem Asc.gap {l : List Span} : ∀ {b : Int} {i : Nat} {x y : Span}, Asc b l → l[i]? = some y → l[i + 1]? = some x → y.hi + 2 ≤ x.lo := by
  induction l with
  | nil => intro b i x y h hy; simp at hy
  | cons s r ih =>
    intro b i x y ⟨h1, h2, h3⟩ hy hx
    cases i with
    | zero =>
      simp at hy hx; subst hy
      cases r with
      | nil => simp at hx
      | cons z r => simp at hx; subst hx; exact h3.1
    | succ i => exact ih h3 (by simpa using hy) (by simpa using hx)

theorem cov_app {a : Int} {l : List Span} {x : Span} : Cov a (l ++ [x]) ↔ (Cov a l ∨ (x.lo ≤ a ∧ a ≤ x.hi)) := by
  simp [Cov, or_and_right, exists_or]

theorem Asc.len {N : Int} : ∀ {l : List Span} {b : Int}, Asc b l → (∀ s ∈ l, s.hi ≤ N) → l = [] ∨ b + 2 * (l.length : Int) - 2 ≤ N
  | [], b, _, _ => .inl rfl
  | s :: r, b, ⟨h1, h2, h3⟩, hN => by
    right
    have hs := hN s (by simp)
    rcases Asc.len h3 (fun x hx => hN x (by simp [hx])) with rfl | h
    · simp only [List.length_cons, List.length_nil]; omega
    · simp only [List.length_cons]; omega

theorem scopesE_all {c : Case} (h : soundAll c = 0) : CaseR c ∧ scopesE c = (match allRuns c (thickL c) with | [] => ([], 9) | s :: r => (s :: r, 0)) := by
  have h' : lookE c (checkC c).2.2 = 0 := h
  have hR := case_ok (lookE_zero h').1
  refine ⟨hR, ?_⟩
  have hl := links_ok hR
  have hle : (allRuns c (thickL c)).length ≤ (linksF c.chain.shots).toNat := by
    have := (allRuns_asc c (thickL c)).len (N := linksF c.chain.shots) fun s hs => by
      obtain ⟨i, hi⟩ := List.mem_iff_getElem?.1 hs
      have h2 := (allRuns_asc c (thickL c)).get hi
      exact ((allRuns_cov hR (thickL c) s.hi).1 ⟨s, hs, h2.2, Int.le_refl _⟩).2.1
    rcases this with h | h
    · rw [h]; simp
    · omega
  unfold scopesE
  rw [if_pos h', scopesF_take c _ hl.1, List.take_of_length_le hle]
  cases allRuns c (thickL c) <;> rfl

theorem shortE_all {c : Case} (h : soundAll c = 0) : shortE c = (match allRuns c (thickL c) with | [] => (0, 9) | s :: r => (s.lo, 0)) := by
  have h' : lookE c (checkC c).2.2 = 0 := h
  unfold shortE
  rw [if_pos h', scopesF_take c _ (by omega)]
  cases allRuns c (thickL c) <;> rfl

theorem whyE_in {c : Case} (hR : CaseR c) (he : soundAll c = 0) {out : Int} (ho : 1 ≤ out ∧ out ≤ linksF c.chain.shots) : whyE c out = (breakF c (thickL c) out, 0) := by
  have h' : lookE c (checkC c).2.2 = 0 := he
  obtain ⟨h0, hs⟩ := lookE_zero h'
  have hg : goE c out false = 0 := by
    unfold goE
    rw [if_neg (by simp [h0]), if_neg (by simp), if_pos (inB_iff.2 ho)]
  have : lookE c (goE c out false) = 0 := by rw [hg]; simp [lookE, hs]
  unfold whyE
  rw [if_pos this]

def q2 (p0 p1 : Int) : D := .agg [.int .u16 p0, .int .u16 p1]

end Go.PX

namespace Go.PX
open Go.Proofs

theorem upF_mono {a b k : Int} (hk : 1 ≤ k) (ha : 0 ≤ a) (h : a ≤ b) : upF a k ≤ upF b k := by
  unfold upF
  rw [Int.tdiv_eq_ediv_of_nonneg (by omega), Int.tdiv_eq_ediv_of_nonneg (by omega)]
  exact Int.ediv_le_ediv (by omega) (by omega)

theorem upF_nonneg {a k : Int} (hk : 1 ≤ k) (ha : 0 ≤ a) : 0 ≤ upF a k := by
  unfold upF
  rw [Int.tdiv_eq_ediv_of_nonneg (by omega)]
  exact Int.ediv_nonneg (by omega) (by omega)

theorem sq_mono {a b k : Int} (h0 : 0 ≤ a) (h : a ≤ b) (hk : 0 ≤ k) : 0 ≤ a * a * k ∧ a * a * k ≤ b * b * k :=
  ⟨Int.mul_nonneg (Int.mul_nonneg h0 h0) hk, Int.mul_le_mul_of_nonneg_right (Int.mul_le_mul h h h0 (by omega)) hk⟩

theorem strongF_mono {a b : Int} (h0 : 0 ≤ a) (h : a ≤ b) : strongF a ≤ strongF b := by
  unfold strongF
  have h1 : 0 ≤ a * a := Int.mul_nonneg h0 h0
  have h2 : a * a ≤ b * b := Int.mul_le_mul h h h0 (by omega)
  rw [Int.tdiv_eq_ediv_of_nonneg h1, Int.tdiv_eq_ediv_of_nonneg (by omega)]
  exact Int.ediv_le_ediv (by omega) h2

/-- The first truth is no worse than the second. -/
structure Calmer (t t' : Truth) : Prop where
  d : 0 ≤ t.depth ∧ t.depth ≤ t'.depth
  w : 0 ≤ t.wind ∧ t.wind ≤ t'.wind
  c : 0 ≤ t.current ∧ t.current ≤ t'.current
  s : 0 ≤ t.swell ∧ t.swell ≤ t'.swell
  h : 0 ≤ t'.hold ∧ t'.hold ≤ t.hold
  len : t.thick.length = t'.thick.length
  th : ∀ (i : Nat) (a b : Int), t.thick[i]? = some a → t'.thick[i]? = some b → 0 ≤ b ∧ b ≤ a

theorem pull_mono {s : Ship} {t t' : Truth} {out : Int} (hs : 0 ≤ s.wind ∧ 0 ≤ s.current ∧ 0 ≤ s.swell ∧ 0 ≤ s.yaw) (hw : 0 ≤ t.wind ∧ t.wind ≤ t'.wind) (hc : 0 ≤ t.current ∧ t.current ≤ t'.current) (hsw : 0 ≤ t.swell ∧ t.swell ≤ t'.swell) (ho : 0 ≤ out) :
    pullF s t out ≤ pullF s t' out := by
  unfold pullF
  have h1 := sq_mono hw.1 hw.2 hs.1
  have h2 := sq_mono hc.1 hc.2 hs.2.1
  have h3 : 0 ≤ t.swell * s.swell ∧ t.swell * s.swell ≤ t'.swell * s.swell := ⟨Int.mul_nonneg hsw.1 hs.2.2.1, Int.mul_le_mul_of_nonneg_right hsw.2 hs.2.2.1⟩
  have h4 : 0 ≤ s.yaw * out := Int.mul_nonneg hs.2.2.2 ho
  have h5 := upF_nonneg (a := t.wind * t.wind * s.wind + t.current * t.current * s.current) (k := 100) (by omega) (by omega)
  have h6 := upF_mono (a := t.wind * t.wind * s.wind + t.current * t.current * s.current) (b := t'.wind * t'.wind * s.wind + t'.current * t'.current * s.current) (k := 100) (by omega) (by omega) (by omega)
  refine upF_mono (by omega) (Int.mul_nonneg (by omega) (by omega)) (Int.mul_le_mul_of_nonneg_right (by omega) (by omega))

theorem rows_asc : ∀ {l b : List Row} {i : Int}, (firstE rowE b l i).2 = 0 → (∀ x ∈ l, (lastR b).holds < x.holds ∧ 1 ≤ x.holds) ∧ l.Pairwise (fun a b => a.holds < b.holds)
  | [], b, i, _ => ⟨by simp, List.Pairwise.nil⟩
  | x :: r, b, i, h => by
    simp only [firstE] at h
    by_cases h0 : rowE b x = 0
    · rw [if_pos h0] at h
      obtain ⟨h1, h2⟩ := rows_asc h
      unfold rowE at h0
      split at h0
      · rename_i hin
        simp only [Bool.and_eq_true, inB_iff] at hin
        split at h0
        · exact absurd h0 (by decide)
        · rename_i hlt
          have hl : lastR (b ++ [x]) = x := by simp [lastR]
          rw [hl] at h1
          refine ⟨fun y hy => ?_, List.pairwise_cons.2 ⟨fun y hy => (h1 y hy).1, h2⟩⟩
          rcases List.mem_cons.1 hy with rfl | hy
          · omega
          · have := h1 y hy; omega
      · exact absurd h0 (by decide)
    · rw [if_neg h0] at h
      exact absurd h h0

theorem case_rows {c : Case} (h : (checkC c).2.2 = 0) : c.chain.rows.Pairwise (fun a b => a.holds < b.holds) := by
  have h' := chainE_ok h
  unfold chainE at h'
  split at h'
  · simp only at h'
    split at h'
    · split at h'
      · rename_i h1; exact (rows_asc h1).2
      · rename_i h1; exact absurd h' h1
    · rename_i h1; exact absurd h' h1
  · rename_i h1; exact absurd h' h1

theorem back_mono {l : List Row} (hp : l.Pairwise (fun a b => a.holds < b.holds)) (h0 : ∀ r ∈ l, 0 ≤ r.holds) {p q : Row → Bool} (hpq : ∀ r ∈ l, p r = true → q r = true) : ∀ {n : Nat}, n ≤ l.length →
    (((backL l n).find? fun x => p x.2).getD (0, ⟨0, 0⟩)).2.holds ≤ (((backL l n).find? fun x => q x.2).getD (0, ⟨0, 0⟩)).2.holds
  | 0, _ => by simp [backL]
  | n + 1, hn => by
    have hx : l[n]? = some l[n] := List.getElem?_eq_getElem (by omega)
    have hm : l[n] ∈ l := List.getElem_mem ..
    have ih := back_mono hp h0 hpq (n := n) (by omega)
    simp only [backL, List.find?_cons, hx, Option.getD_some]
    cases hq : q l[n] with
    | true =>
      cases hpp : p l[n] with
      | true => simp
      | false =>
        simp only [Option.getD_some]
        cases hf : (backL l n).find? fun x => p x.2 with
        | none => simp only [Option.getD_none]; exact h0 _ hm
        | some y =>
          simp only [Option.getD_some]
          have hy := List.mem_of_find?_eq_some hf
          have : ∀ {k : Nat}, k ≤ n → ∀ z ∈ backL l k, z.2.holds ≤ l[n].holds := by
            intro k
            induction k with
            | zero => intro _ z hz; cases hz
            | succ k ih =>
              intro hk z hz
              simp only [backL, List.mem_cons] at hz
              rcases hz with rfl | hz
              · have hk' : l[k]? = some l[k] := List.getElem?_eq_getElem (by omega)
                simp only [hk', Option.getD_some]
                have := (List.pairwise_iff_getElem.1 hp) k n (by omega) (by omega) (by omega)
                omega
              · exact ih (by omega) z hz
          exact this (Nat.le_refl _) y hy
    | false =>
      have hpp : p l[n] = false := by
        cases h : p l[n] with
        | false => rfl
        | true => rw [hpq _ hm h] at hq; cases hq
      simp only [hpp]
      exact ih

theorem row_mono {c : Case} (hR : CaseR c) (hr : c.chain.rows.Pairwise (fun a b => a.holds < b.holds)) {t t' : Truth} (hd : 0 ≤ t.depth ∧ t.depth ≤ t'.depth) (hs : 0 ≤ t.swell ∧ t.swell ≤ t'.swell) (out : Int) :
    (rowF c t' out).holds ≤ (rowF c t out).holds := by
  unfold rowF
  refine back_mono hr (fun r h => by have := hR.rows r h; omega) (fun r h hp => ?_) (Nat.le_refl _)
  unfold rowOk at hp ⊢
  have hp := of_decide_eq_true hp
  refine decide_eq_true (Int.le_trans ?_ hp)
  have h1 := upF_mono (a := t.swell) (b := t'.swell) (k := 2) (by omega) hs.1 hs.2
  exact Int.mul_le_mul_of_nonneg_left (by omega) (by have := hR.rows r h; omega)

theorem judgeL_mono {heavy pull pull' out : Int} (hp : pull ≤ pull') : ∀ {l : List Shot} {ts ts' : List Int} {n i : Int}, ts.length = ts'.length → (∀ (k : Nat) (a b : Int), ts[k]? = some a → ts'[k]? = some b → 0 ≤ b ∧ b ≤ a) →
    (judgeL heavy pull' out l ts' n i).1 = 0 → judgeL heavy pull out l ts n i = (0, 0)
  | [], _, _, _, _, _, _, _ => rfl
  | s :: r, [], _, _, _, _, _, _ => rfl
  | s :: r, t :: ts, [], _, _, hl, _, _ => by simp at hl
  | s :: r, t :: ts, t' :: ts', n, i, hl, hb, h => by
    simp only [judgeL] at h ⊢
    by_cases h1 : n ≥ out
    · rw [if_pos h1]
    · rw [if_neg h1] at h ⊢
      have h0 := hb 0 t t' rfl rfl
      have hst := strongF_mono h0.1 h0.2
      by_cases h2 : strongF t' < pull' + heavy * min (n + s.links) out
      · rw [if_pos h2] at h; exact absurd h (by simp)
      · rw [if_neg h2] at h
        rw [if_neg (by omega)]
        exact judgeL_mono hp (by simpa using hl) (fun k a b ha hb' => hb (k + 1) a b (by simpa using ha) (by simpa using hb')) h

theorem judge_mono {c : Case} (hR : CaseR c) (hr : c.chain.rows.Pairwise (fun a b => a.holds < b.holds)) {t t' : Truth} (h : Calmer t t') {out : Int} (ho : 0 ≤ out) (hb : (judgeF c t' out).1 = 0) : judgeF c t out = (0, 0) := by
  unfold judgeF at hb ⊢
  obtain ⟨s1, s2, s3, s4⟩ := hR.ship
  have hp := pull_mono (s := c.ship) (t := t) (t' := t') (out := out) ⟨s1.1, s2.1, s3.1, s4.1⟩ h.w h.c h.s ho
  have hh := row_mono hR hr h.d h.s out
  have hn := rowF_ok hR t' out
  have hm : t'.hold * (rowF c t' out).holds ≤ t.hold * (rowF c t out).holds := Int.mul_le_mul h.h.2 hh hn.2.1 (by have := h.h; omega)
  split at hb
  · exact absurd hb (by decide)
  · rename_i h1
    rw [if_neg (by omega)]
    exact judgeL_mono hp h.len h.th hb

theorem break_zero {c : Case} {th : List Span} {out : Int} : ∀ {l : List Weather} {i : Int}, (breakL c th out l i).1 = 0 ↔ ∀ w ∈ l, (judgeW c th out w).1 = 0
  | [], i => by simp [breakL]
  | w :: r, i => by
    simp only [breakL, List.forall_mem_cons]
    by_cases h : (judgeW c th out w).1 = 0
    · rw [if_neg (by simp [h]), break_zero (l := r)]; simp [h]
    · rw [if_pos h]; simp [h]

theorem break_some {c : Case} {th : List Span} {out : Int} : ∀ {l : List Weather} {i : Int}, (breakL c th out l i).1 ≠ 0 →
    ∃ k w, l[k]? = some w ∧ breakL c th out l i = ((judgeW c th out w).1, i + (k : Nat), (judgeW c th out w).2) ∧ (judgeW c th out w).1 ≠ 0 ∧ ∀ (j : Nat) (w' : Weather), j < k → l[j]? = some w' → (judgeW c th out w').1 = 0
  | [], i, h => absurd rfl h
  | w :: r, i, h => by
    simp only [breakL] at h ⊢
    by_cases h1 : (judgeW c th out w).1 = 0
    · rw [if_neg (by simp [h1])] at h ⊢
      obtain ⟨k, w', hk, he, hn, hj⟩ := break_some h
      refine ⟨k + 1, w', by simpa using hk, by rw [he]; simp; omega, hn, fun j w'' hj' hw => ?_⟩
      cases j with
      | zero => simp at hw; subst hw; exact h1
      | succ j => exact hj j w'' (by omega) (by simpa using hw)
    · rw [if_pos h1]
      exact ⟨0, w, rfl, by simp, h1, fun j w' hj => absurd hj (by omega)⟩
end Go.PX

namespace Go.PX
open Go.Proofs

theorem shots_iff : ∀ {l b : List Shot} {i : Int}, (firstE shotE b l i).2 = 0 ↔ (∀ x ∈ l, (nameF x.name = true ∧ checkF x = 0) ∧ ∀ y ∈ b, y.name ≠ x.name) ∧ l.Pairwise (fun a b => a.name ≠ b.name)
  | [], b, i => by simp [firstE]
  | x :: r, b, i => by
    have hx : shotE b x = 0 ↔ ((nameF x.name = true ∧ checkF x = 0) ∧ ∀ y ∈ b, y.name ≠ x.name) := by
      unfold shotE
      by_cases h1 : nameF x.name = true
      · rw [if_pos h1]
        by_cases h2 : (b.any fun y => decide (y.name = x.name)) = true
        · rw [if_pos h2]
          simp only [List.any_eq_true, decide_eq_true_eq] at h2
          obtain ⟨y, hy, he⟩ := h2
          exact ⟨fun h => absurd h (by decide), fun h => absurd he (h.2 y hy)⟩
        · rw [if_neg h2]
          simp only [List.any_eq_true, decide_eq_true_eq, not_exists, not_and] at h2
          exact ⟨fun h => ⟨⟨h1, h⟩, h2⟩, fun h => h.1.2⟩
      · rw [if_neg h1]
        exact ⟨fun h => absurd h (by decide), fun h => absurd h.1.1 h1⟩
    simp only [firstE, List.forall_mem_cons, List.pairwise_cons]
    by_cases h0 : shotE b x = 0
    · rw [if_pos h0, shots_iff (l := r)]
      have hx' := hx.1 h0
      constructor
      · rintro ⟨h1, h2⟩
        exact ⟨⟨hx', fun y hy => ⟨(h1 y hy).1, fun z hz => (h1 y hy).2 z (by simp [hz])⟩⟩, fun y hy => (h1 y hy).2 x (by simp), h2⟩
      · rintro ⟨⟨_, h1⟩, h2, h3⟩
        refine ⟨fun y hy => ⟨(h1 y hy).1, fun z hz => ?_⟩, h3⟩
        rcases List.mem_append.1 hz with hz | hz
        · exact (h1 y hy).2 z hz
        · rw [List.mem_singleton] at hz; subst hz; exact h2 y hy
    · rw [if_neg h0]
      exact ⟨fun h => absurd h h0, fun h => absurd (hx.2 h.1.1) h0⟩

theorem weathers_iff : ∀ {l b : List Weather} {i : Int}, (firstE weatherE b l i).2 = 0 ↔ ∀ x ∈ l, weatherE [] x = 0
  | [], b, i => by simp [firstE]
  | x :: r, b, i => by
    simp only [firstE, List.forall_mem_cons]
    by_cases h0 : weatherE b x = 0
    · rw [if_pos h0, weathers_iff (l := r)]
      exact ⟨fun h => ⟨h0, h⟩, fun h => h.2⟩
    · rw [if_neg h0]
      exact ⟨fun h => absurd h h0, fun h => absurd h.1 h0⟩

theorem weatherE_zero (w : Weather) : weatherE [] w = 0 ↔ (1 ≤ w.depth.lo ∧ w.depth.lo ≤ w.depth.hi ∧ w.depth.hi ≤ 1000) ∧ (0 ≤ w.wind.lo ∧ w.wind.lo ≤ w.wind.hi ∧ w.wind.hi ≤ 80) ∧ (0 ≤ w.current.lo ∧ w.current.lo ≤ w.current.hi ∧ w.current.hi ≤ 80) ∧ (0 ≤ w.swell.lo ∧ w.swell.lo ≤ w.swell.hi ∧ w.swell.hi ≤ 150) := by
  unfold weatherE
  split
  · rename_i h
    simp only [Bool.and_eq_true, inB_iff] at h
    split
    · exact ⟨fun h => absurd h (by decide), fun h => by omega⟩
    · exact ⟨fun _ => by omega, fun _ => rfl⟩
  · rename_i h
    refine ⟨fun h => absurd h (by decide), fun hw => absurd ?_ h⟩
    simp only [Bool.and_eq_true, inB_iff]
    omega

/-- What the error of a case is made of. -/
structure CaseG (c : Case) : Prop where
  plain : plainF c.chain = 0
  shots : ∀ x ∈ c.chain.shots, (nameF x.name = true ∧ checkF x = 0) ∧ x.set ≤ c.day
  names : c.chain.shots.Pairwise (fun a b => a.name ≠ b.name)
  rows : (firstE rowE [] c.chain.rows 0).2 = 0
  ship : (inB c.ship.wind 0 10000 && (inB c.ship.current 0 10000 && inB c.ship.swell 0 10000) && inB c.ship.yaw 0 20) = true
  day : inB c.day 0 40000 = true
  wlen : inB c.weathers.length 1 6 = true
  weathers : ∀ x ∈ c.weathers, weatherE [] x = 0

theorem check_iff (c : Case) : (checkC c).2.2 = 0 ↔ CaseG c := by
  have hs := @shots_iff c.chain.shots [] 0
  have hw := @weathers_iff c.weathers [] 0
  constructor
  · intro h
    unfold checkC at h
    split at h
    · rename_i h1
      simp only at h
      split at h
      · rename_i h2
        unfold rowsE at h
        simp only at h
        split at h
        · rename_i h3
          unfold restE at h
          split at h
          · rename_i h4
            split at h
            · rename_i h5
              split at h
              · exact absurd h (by decide)
              · rename_i h6
                split at h
                · rename_i h7
                  simp only at h
                  split at h
                  · rename_i h8
                    obtain ⟨k1, k2⟩ := hs.1 h2
                    refine ⟨h1, fun x hx => ⟨(k1 x hx).1, ?_⟩, k2, h3, h4, h5, h7, hw.1 h8⟩
                    simp only [List.any_eq_true, decide_eq_true_eq, not_exists, not_and] at h6
                    have := h6 x hx
                    omega
                  · rename_i h8; exact absurd h h8
                · exact absurd h (by decide)
            · exact absurd h (by decide)
          · exact absurd h (by decide)
        · rename_i h3; exact absurd h h3
      · rename_i h2; exact absurd h h2
    · rename_i h1; exact absurd h h1
  · intro h
    have h6 : (c.chain.shots.any fun s => decide (s.set > c.day)) = false := by
      rw [List.any_eq_false]
      intro x hx
      have := (h.shots x hx).2
      simp; omega
    have h2 := hs.2 ⟨fun x hx => ⟨(h.shots x hx).1, by simp⟩, h.names⟩
    have h8 := hw.2 h.weathers
    simp only [checkC, if_pos h.plain, rowsE, restE, if_pos h2, if_pos h.rows, h.ship, h.day, h6, h.wlen, if_pos h8, if_true, Bool.false_eq_true, if_false]

theorem plain_iff {c : Chain} : plainF c = 0 ↔ (1 ≤ c.shots.length ∧ c.shots.length ≤ 7) ∧ (1 ≤ c.rows.length ∧ c.rows.length ≤ 6) ∧ (1 ≤ c.long ∧ c.long ≤ 50) ∧ (0 ≤ c.heavy ∧ c.heavy ≤ 200) ∧ (0 ≤ c.err ∧ c.err ≤ 2000) ∧ (0 ≤ c.hold.lo ∧ c.hold.lo ≤ c.hold.hi ∧ c.hold.hi ≤ 200000) := by
  unfold plainF
  split
  · rename_i h1
    simp only [Bool.and_eq_true, inB_iff] at h1
    split
    · rename_i h2
      simp only [Bool.and_eq_true, inB_iff] at h2
      split
      · exact ⟨fun h => absurd h (by decide), fun h => by omega⟩
      · exact ⟨fun _ => by omega, fun _ => rfl⟩
    · rename_i h2
      refine ⟨fun h => absurd h (by decide), fun h => absurd ?_ h2⟩
      simp only [Bool.and_eq_true, inB_iff]
      omega
  · rename_i h1
    refine ⟨fun h => absurd h (by decide), fun h => absurd ?_ h1⟩
    simp only [Bool.and_eq_true, inB_iff]
    omega

/-! Numbers of a span, by turns. -/

def amongF (s : Span) (n : Int) : Int := s.lo + n.tmod (s.hi - s.lo + 1)
def turnF (l : List Int) (n : Int) : Int := if l.length = 0 then 0 else l[(n.tmod l.length).toNat]?.getD 0

theorem amongF_in {s : Span} {n : Int} (hs : s.lo ≤ s.hi) (hn : 0 ≤ n) : s.lo ≤ amongF s n ∧ amongF s n ≤ s.hi := by
  unfold amongF
  rw [Int.tmod_eq_emod_of_nonneg hn]
  have h1 := Int.emod_nonneg n (show s.hi - s.lo + 1 ≠ 0 by omega)
  have h2 := Int.emod_lt_of_pos n (show 0 < s.hi - s.lo + 1 by omega)
  omega

def wordOk (l : List Int) : Prop := ∀ n ∈ l, 0 ≤ n ∧ n ≤ 65535

theorem turnF_in {l : List Int} (h : wordOk l) (n : Int) : 0 ≤ turnF l n ∧ turnF l n ≤ 65535 := by
  unfold turnF
  split
  · omega
  · cases hx : l[(n.tmod l.length).toNat]? with
    | none => simp
    | some x => simp only [Option.getD_some]; exact h x (List.mem_of_getElem? hx)

/-! A calmer case. -/

def calmW (x : List Int) (i : Nat) (w : Weather) : Weather :=
  ⟨⟨w.depth.lo, amongF w.depth (turnF x (4 * (i : Int) + 1))⟩, ⟨w.wind.lo, amongF w.wind (turnF x (4 * (i : Int) + 2))⟩, ⟨w.current.lo, amongF w.current (turnF x (4 * (i : Int) + 3))⟩, ⟨w.swell.lo, amongF w.swell (turnF x (4 * (i : Int) + 4))⟩⟩
def calmC (c : Case) (x : List Int) : Case := { c with chain := { c.chain with hold := ⟨amongF c.chain.hold (turnF x 0), c.chain.hold.hi⟩ }, weathers := c.weathers.mapIdx (calmW x) }

theorem calm_ok {c : Case} {x : List Int} (hx : wordOk x) (h : (checkC c).2.2 = 0) : (checkC (calmC c x)).2.2 = 0 := by
  have hR := case_ok h
  have hG := (check_iff c).1 h
  refine (check_iff _).2 ⟨?_, hG.shots, hG.names, hG.rows, hG.ship, hG.day, ?_, ?_⟩
  · have hp := plain_iff.1 hG.plain
    have ha := amongF_in (s := c.chain.hold) (by omega) (turnF_in hx 0).1
    refine plain_iff.2 ?_
    show (1 ≤ c.chain.shots.length ∧ c.chain.shots.length ≤ 7) ∧ (1 ≤ c.chain.rows.length ∧ c.chain.rows.length ≤ 6) ∧ (1 ≤ c.chain.long ∧ c.chain.long ≤ 50) ∧ (0 ≤ c.chain.heavy ∧ c.chain.heavy ≤ 200) ∧ (0 ≤ c.chain.err ∧ c.chain.err ≤ 2000) ∧ (0 ≤ amongF c.chain.hold (turnF x 0) ∧ amongF c.chain.hold (turnF x 0) ≤ c.chain.hold.hi ∧ c.chain.hold.hi ≤ 200000)
    omega
  · simp only [calmC, List.length_mapIdx]; exact hG.wlen
  · intro w hw
    simp only [calmC, List.mem_mapIdx] at hw
    obtain ⟨i, hi, rfl⟩ := hw
    have hwo := (weatherE_zero _).1 (hG.weathers c.weathers[i] (List.getElem_mem ..))
    have h1 := amongF_in (s := c.weathers[i].depth) (by omega) (turnF_in hx (4 * (i : Int) + 1)).1
    have h2 := amongF_in (s := c.weathers[i].wind) (by omega) (turnF_in hx (4 * (i : Int) + 2)).1
    have h3 := amongF_in (s := c.weathers[i].current) (by omega) (turnF_in hx (4 * (i : Int) + 3)).1
    have h4 := amongF_in (s := c.weathers[i].swell) (by omega) (turnF_in hx (4 * (i : Int) + 4)).1
    rw [weatherE_zero]
    simp only [calmW]
    omega

theorem worst_calm {c : Case} (hR : CaseR c) {x : List Int} (hx : wordOk x) {i : Nat} {w : Weather} (hw : w ∈ c.weathers) :
    Calmer (worstT (calmC c x) (thickL c) (calmW x i w)) (worstT c (thickL c) w) := by
  have hwo := hR.weathers w hw
  have hh := hR.hold
  have h0 := amongF_in (s := c.chain.hold) (by omega) (turnF_in hx 0).1
  have h1 := amongF_in (s := w.depth) (by omega) (turnF_in hx (4 * (i : Int) + 1)).1
  have h2 := amongF_in (s := w.wind) (by omega) (turnF_in hx (4 * (i : Int) + 2)).1
  have h3 := amongF_in (s := w.current) (by omega) (turnF_in hx (4 * (i : Int) + 3)).1
  have h4 := amongF_in (s := w.swell) (by omega) (turnF_in hx (4 * (i : Int) + 4)).1
  refine ⟨?_, ?_, ?_, ?_, ?_, rfl, fun k a b ha hb => ?_⟩
  · simp only [worstT, calmW]; omega
  · simp only [worstT, calmW]; omega
  · simp only [worstT, calmW]; omega
  · simp only [worstT, calmW]; omega
  · simp only [worstT, calmC]; omega
  · rw [show (worstT (calmC c x) (thickL c) (calmW x i w)).thick = (worstT c (thickL c) w).thick from rfl, hb] at ha
    obtain rfl : b = a := by simpa using ha
    have hm : b ∈ (thickL c).map Span.lo := List.mem_of_getElem? hb
    obtain ⟨s, hs, rfl⟩ := List.mem_map.1 hm
    have := (moor_ok hR).th s hs
    omega

theorem break_calm {c : Case} (h : (checkC c).2.2 = 0) {x : List Int} (hx : wordOk x) {out : Int} (ho : 0 ≤ out) (hb : (breakF c (thickL c) out).1 = 0) : (breakF (calmC c x) (thickL c) out).1 = 0 := by
  have hR := case_ok h
  unfold breakF at hb ⊢
  rw [break_zero] at hb ⊢
  intro w hw
  simp only [calmC, List.mem_mapIdx] at hw
  obtain ⟨i, hi, rfl⟩ := hw
  have hm : c.weathers[i] ∈ c.weathers := List.getElem_mem ..
  have h1 : judgeF c (worstT (calmC c x) (thickL c) (calmW x i c.weathers[i])) out = (0, 0) := judge_mono hR (case_rows h) (worst_calm hR hx hm) ho (hb _ hm)
  have h2 : judgeW (calmC c x) (thickL c) out (calmW x i c.weathers[i]) = judgeF c (worstT (calmC c x) (thickL c) (calmW x i c.weathers[i])) out := rfl
  rw [h2, h1]
end Go.PX

namespace Go.PX
open Go.Proofs

def wordsD (l : List Int) : D := .vs (l.map fun n => [.int .u16 n])

end Go.PX

namespace Go.PX
open Go.Proofs Go.RowKit Go.ChangeShapes
section
variable {P : Program} {W : World} {t : TypeId}
theorem Rd.intw {k : IntKind} (ht : P.underlying t = some (.int k)) : Rd P W t fun ds => ∃ n, ds = [.int k n] ∧ (Lit.int k n).wf = true := by
  refine ⟨?_⟩
  intro H enc sp held fuel cs x h
  obtain ⟨n, rfl, _, hw⟩ := DataW.trod_int ht h
  exact ⟨[.int k n], ⟨n, rfl, hw⟩, _, [], rfl, rfl, rfl⟩

theorem Rd.arr2 {e : TypeId} {S : List D → Prop} (ht : P.underlying t = some (.array 2 e)) (hn : P.cellsOf t = 2) (hk : P.cellsOf e = 1) (he : Rd P W e S) : Rd P W t (AllS [S, S]) := by
  refine ⟨?_⟩
  intro H enc sp held fuel cs x h
  cases fuel with
  | zero => simp [DataW.trod] at h
  | succ fuel =>
    unfold DataW.trod at h
    rw [ht] at h
    simp only at h
    split at h
    · rename_i hl
      rw [hn] at hl
      rw [hk] at h
      obtain ⟨xs, hxs, _⟩ := Option.map_eq_some_iff.1 h
      rw [show List.range 2 = [0, 1] from rfl] at hxs
      simp only [List.mapM_cons, List.mapM_nil, Option.bind_eq_bind, Option.bind_eq_some_iff, Option.pure_def, Option.some.injEq] at hxs
      obtain ⟨y0, hy0, ys, ⟨y1, hy1, _⟩, _⟩ := hxs
      obtain ⟨d0, s0, r0⟩ := he.read hy0
      obtain ⟨d1, s1, r1⟩ := he.read hy1
      match cs, hl with
      | [a, b], _ =>
        exact ⟨d0 ++ d1, ⟨d0, d1, rfl, s0, d1, [], by simp, s1, rfl⟩, by simpa using RepDL.app r0 r1⟩
    · cases h
end

theorem RepDL.one {F : Nat → Nat} {w : World} {d : D} {v : Value} (h : RepDL F w [d] [v]) : RepD F w d v := by
  obtain ⟨x, l', h1, hd, hl⟩ := h
  cases h1
  exact hd

theorem wordIn {n : Int} (h : (Lit.int .u16 n).wf = true) : 0 ≤ n ∧ n ≤ 65535 := by
  simp only [Lit.wf, Bool.and_eq_true, decide_eq_true_eq] at h
  exact h
theorem byteIn {n : Int} (h : (Lit.int .u8 n).wf = true) : 0 ≤ n ∧ n ≤ 255 := by
  simp only [Lit.wf, Bool.and_eq_true, decide_eq_true_eq] at h
  exact h
end Go.PX

/- PX: what an argument reads is data of a make, and of a size that its weights allow. -/
namespace Go.PX
open Go.RowKit Go.ChangeShapes

def wOk (l : List Nat) : Prop := ∀ n ∈ l, n ≤ reachBytes

theorem wOk_app {a b : List Nat} : wOk (a ++ b) ↔ wOk a ∧ wOk b :=
  ⟨fun h => ⟨fun n hn => h n (List.mem_append_left _ hn), fun n hn => h n (List.mem_append_right _ hn)⟩, fun h n hn => by
    rcases List.mem_append.1 hn with hn | hn
    · exact h.1 n hn
    · exact h.2 n hn⟩

theorem wOk_all {l : List Nat} (h : l.all (· ≤ reachBytes) = true) : wOk l := fun n hn => by
  have := List.all_eq_true.1 h n hn
  simpa using this

structure RdZ (P : Program) (W : World) (t : TypeId) (S : List D → Prop) : Prop where
  read : ∀ {H : Type} {enc : TypeId × Value → H} {sp : Nat → Bool} {held : Bool} {fuel : Nat} {cs : List Value} {x : DataW H × List MemPlace}, DataW.trod enc P W 0 sp held fuel t cs = some x → wOk (x.1.weights P t) → ∃ ds, S ds ∧ RepDL (topF W) W ds cs

section
variable {P : Program} {W : World} {t : TypeId}

theorem Rd.z {S : List D → Prop} (h : Rd P W t S) : RdZ P W t S := ⟨fun hx _ => h.read hx⟩

theorem RdZ.mono {S S' : List D → Prop} (h : RdZ P W t S) (hS : ∀ ds, S ds → S' ds) : RdZ P W t S' := by
  refine ⟨?_⟩
  intro H enc sp held fuel cs x hx hw
  obtain ⟨ds, h1, h2⟩ := h.read hx hw
  exact ⟨ds, hS ds h1, h2⟩

theorem RdZ.intw {k : IntKind} (ht : P.underlying t = some (.int k)) : RdZ P W t fun ds => ∃ n, ds = [.int k n] ∧ (Lit.int k n).wf = true := by
  refine ⟨?_⟩
  intro H enc sp held fuel cs x h _
  obtain ⟨n, rfl, _, hw⟩ := DataW.trod_int ht h
  exact ⟨[.int k n], ⟨n, rfl, hw⟩, _, [], rfl, rfl, rfl⟩

theorem RdZ.str (ht : P.underlying t = some .string) : RdZ P W t fun ds => ∃ s : ByteArray, ds = [.str s] ∧ s.size ≤ reachBytes := by
  refine ⟨?_⟩
  intro H enc sp held fuel cs x h hw
  obtain ⟨n, rfl, hx, _⟩ := DataW.trod_string ht h
  refine ⟨[.str n], ⟨n, rfl, ?_⟩, _, [], rfl, rfl, rfl⟩
  subst hx
  have := hw n.data.toList.length (List.mem_cons_self ..)
  rw [Array.length_toList] at this
  exact this

theorem weightsAll_mem {H : Type} {e : TypeId} : ∀ {l : List (DataW H)} {d : DataW H}, d ∈ l → wOk (DataW.weightsAll P e l) → wOk (d.weights P e)
  | a :: r, d, hd, h => by
    rw [DataW.weightsAll] at h
    rcases List.mem_cons.1 hd with rfl | hd
    · exact (wOk_app.1 h).1
    · exact weightsAll_mem hd (wOk_app.1 h).2

theorem RdZ.slice {e : TypeId} {S : List D → Prop} (ht : P.underlying t = some (.slice e)) {k : Nat} (hk : P.cellsOf e = k) (hpos : 0 < k) (he : RdZ P W e S) :
    RdZ P W t fun ds => ∃ es, ds = [.vs es] ∧ (∀ e ∈ es, S e) ∧ es.length * P.bytesOf e ≤ reachBytes := by
  subst hk
  refine ⟨?_⟩
  intro H enc sp held fuel cs x h hw
  rcases DataW.trod_slice ht h with ⟨rfl, _⟩ | ⟨a, len, cap, elems, rest, n, rfl, rfl, hxe, _, hl, _, hlen, hel, _, _⟩
  · exact ⟨[.vs []], ⟨[], rfl, fun e h => by (cases h), by simp⟩, _, [], rfl, ⟨none, 0, 0, rfl, rfl, Nat.le_refl _, fun h => absurd rfl h⟩, rfl⟩
  · by_cases h0 : len = 0
    · subst h0
      exact ⟨[.vs []], ⟨[], rfl, fun e h => by (cases h), by simp⟩, _, [], rfl, ⟨some a, 0, cap, rfl, rfl, hl, fun h => absurd rfl h⟩, rfl⟩
    subst hxe
    rw [DataW.weights, ht] at hw
    have hsz : len * P.bytesOf e ≤ reachBytes := by
      have := hw ((elems.length + rest.length) * P.bytesOf e) (by simp)
      have h2 : len * P.bytesOf e ≤ (elems.length + rest.length) * P.bytesOf e := Nat.mul_le_mul_right _ (by omega)
      omega
    have hwe : wOk (DataW.weightsAll P e (elems.map (·.1))) := by
      intro n hn
      exact hw n (by simp; right; left; simpa using hn)
    have one : ∀ i, i < len → ∃ cs ds, W.cells? 0 (a.add (i * P.cellsOf e)) (P.cellsOf e) = some cs ∧ S ds ∧ RepDL (topF W) W ds cs := by
      intro i hi
      have h1 := hel i hi
      have hge : elems[i]? = some elems[i] := List.getElem?_eq_getElem (by omega)
      rw [hge] at h1
      obtain ⟨cs, h2, h3⟩ := Option.bind_eq_some_iff.1 h1
      obtain ⟨ds, h4, h5⟩ := he.read h3 (weightsAll_mem (List.mem_map.2 ⟨_, List.mem_of_getElem? hge, rfl⟩) hwe)
      exact ⟨cs, ds, h2, h4, h5⟩
    have hs : a.spot = none := by
      obtain ⟨cs, ds, h1, _, h3⟩ := one 0 (by omega)
      obtain ⟨g1, g2⟩ := cells_get h1
      have hlt : 0 < cs.length := by omega
      have := g2 0 cs[0] (List.getElem?_eq_getElem hlt)
      have := World.cell?_spot this
      simpa [Addr.add] using this
    obtain ⟨b, off, spot⟩ := a
    simp only at hs
    subst hs
    obtain ⟨es, g1, g2, g3⟩ := repEs_of (e := e) (S := S) (W := W) (b := b) (k := P.cellsOf e) (n := len) (off := off) fun i hi => by
      obtain ⟨cs, ds, h1, h2, h3⟩ := one i hi
      obtain ⟨k1, k2⟩ := cells_get h1
      refine ⟨cs, ds, k1, fun j v hv => ?_, h2, h3⟩
      have := k2 j v hv
      have e1 : ∀ n m : Nat, (Addr.add ⟨b, n, none⟩ m) = ⟨b, n + m, none⟩ := by
        intro n m
        unfold Addr.add
        split
        · rename_i h; subst h; rfl
        · rfl
      rw [e1, e1] at this
      exact this
    exact ⟨[.vs es], ⟨es, rfl, g2, by rw [g1]; exact hsz⟩, _, [], rfl, ⟨some ⟨b, off, none⟩, len, cap, rfl, g1.symm, hl, fun _ => ⟨b, off, _, rfl, hpos, g3⟩⟩, rfl⟩

/-- The fields of a struct, read one by one. -/
inductive RdFZ (P : Program) (W : World) : List Field → Nat → Nat → List (List D → Prop) → Prop where
  | nil (n : Nat) : RdFZ P W [] n n []
  | cons {f : Field} {fs : List Field} {off n k : Nat} {S : List D → Prop} {Ss : List (List D → Prop)} (ho : f.offset = off) (hk : P.cellsOf f.type = k) (hf : RdZ P W f.type S) (hr : RdFZ P W fs (off + k) n Ss) : RdFZ P W (f :: fs) off n (S :: Ss)

theorem rdFZ_read {fs : List Field} {off n : Nat} {Ss : List (List D → Prop)} (h : RdFZ P W fs off n Ss) : ∀ {H : Type} {enc : TypeId × Value → H} {sp : Nat → Bool} {held : Bool} {fuel : Nat} {cs : List Value} {xs : List (DataW H × List MemPlace)}, cs.length = n →
    fs.mapM (fun f => DataW.trod enc P W 0 sp held fuel f.type ((cs.drop f.offset).take (P.cellsOf f.type))) = some xs → wOk (DataW.weightsEach P (fs.map (·.type)) (xs.map (·.1))) → ∃ ds, AllS Ss ds ∧ RepDL (topF W) W ds (cs.drop off) := by
  induction h with
  | nil m =>
    intro H enc sp held fuel cs xs hn _ _
    rw [List.drop_eq_nil_of_le (by omega)]
    exact ⟨[], rfl, rfl⟩
  | @cons f fs off m k S Ss ho hk hf hr ih =>
    intro H enc sp held fuel cs xs hn hm hw
    rw [List.mapM_cons] at hm
    simp only [Option.bind_eq_bind, Option.bind_eq_some_iff, Option.pure_def, Option.some.injEq] at hm
    obtain ⟨y, hy, ys, hys, rfl⟩ := hm
    rw [List.map_cons, List.map_cons, DataW.weightsEach] at hw
    obtain ⟨hw1, hw2⟩ := wOk_app.1 hw
    obtain ⟨ds1, h1, h2⟩ := hf.read hy hw1
    obtain ⟨ds2, h3, h4⟩ := ih hn hys hw2
    rw [ho, hk] at h2
    refine ⟨ds1 ++ ds2, ⟨ds1, ds2, rfl, h1, h3⟩, ?_⟩
    have h5 := RepDL.app h2 h4
    rwa [show (cs.drop off).take k ++ cs.drop (off + k) = cs.drop off by rw [← List.drop_drop]; exact List.take_append_drop _ _] at h5

theorem RdZ.struct {fs : Array Field} {n : Nat} {Ss : List (List D → Prop)} (ht : P.underlying t = some (.struct fs)) (hn : P.cellsOf t = n) (hf : RdFZ P W fs.toList 0 n Ss) : RdZ P W t (AllS Ss) := by
  refine ⟨?_⟩
  intro H enc sp held fuel cs x h hw
  cases fuel with
  | zero => simp [DataW.trod] at h
  | succ fuel =>
    unfold DataW.trod at h
    rw [ht] at h
    simp only at h
    split at h
    · rename_i hl
      obtain ⟨xs, hxs, rfl⟩ := Option.map_eq_some_iff.1 h
      simp only at hw
      rw [DataW.weights, ht] at hw
      obtain ⟨ds, h1, h2⟩ := rdFZ_read hf (hl.trans hn) hxs hw
      exact ⟨ds, h1, by simpa using h2⟩
    · cases h

theorem RdZ.array {e : TypeId} {n k : Nat} {S : List D → Prop} (ht : P.underlying t = some (.array n e)) (hn : P.cellsOf t = n * k) (hk : P.cellsOf e = k) (he : RdZ P W e S) :
    RdZ P W t fun ds => ∃ dss : List (List D), ds = dss.flatten ∧ dss.length = n ∧ ∀ d ∈ dss, S d := by
  refine ⟨?_⟩
  intro H enc sp held fuel cs x h hw
  cases fuel with
  | zero => simp [DataW.trod] at h
  | succ fuel =>
    unfold DataW.trod at h
    rw [ht] at h
    simp only at h
    split at h
    · rename_i hl
      obtain ⟨xs, hxs, rfl⟩ := Option.map_eq_some_iff.1 h
      simp only at hw
      rw [DataW.weights, ht] at hw
      rw [hk] at hxs
      have hlen : xs.length = n := by simpa using mapM_some_length hxs
      have step : ∀ m, m ≤ n → ∃ dss : List (List D), dss.length = m ∧ (∀ d ∈ dss, S d) ∧ RepDL (topF W) W dss.flatten (cs.take (m * k)) := by
        intro m
        induction m with
        | zero => intro _; exact ⟨[], rfl, fun d h => by (cases h), by rw [Nat.zero_mul]; exact (List.take_zero : cs.take 0 = [])⟩
        | succ m ih =>
          intro hm
          obtain ⟨dss, h1, h2, h3⟩ := ih (by omega)
          have hg := mapM_some_get hxs m m (by rw [List.getElem?_range (by omega)])
          have hge : xs[m]? = some xs[m] := List.getElem?_eq_getElem (by omega)
          rw [hge] at hg
          obtain ⟨d, h4, h5⟩ := he.read hg (weightsAll_mem (List.mem_map.2 ⟨_, List.mem_of_getElem? hge, rfl⟩) hw)
          refine ⟨dss ++ [d], by simp [h1], fun u hu => ?_, ?_⟩
          · rcases List.mem_append.1 hu with hu | hu
            · exact h2 u hu
            · rw [List.mem_singleton] at hu; subst hu; exact h4
          · rw [Nat.add_mul, Nat.one_mul, List.take_add]
            simpa using RepDL.app h3 h5
      obtain ⟨dss, h1, h2, h3⟩ := step n (Nat.le_refl _)
      refine ⟨dss.flatten, ⟨dss, rfl, h1, h2⟩, ?_⟩
      rwa [List.take_of_length_le (by omega)] at h3
    · cases h
end
end Go.PX

namespace Go.PX
open Go.Proofs Go.RowKit Go.ChangeShapes

/-- As many things as a size of memory allows. -/
def szOk (n k : Nat) : Prop := n * k ≤ 140737488351232

theorem sz_of {n k : Nat} (h : n * k ≤ reachBytes) : szOk n k := h

section
variable (W : World)
theorem list_ofZ {α : Type} {f : α → List D} {Q : α → Prop} : ∀ {es : List (List D)}, (∀ e ∈ es, ∃ a, e = f a ∧ Q a) → ∃ l : List α, es = l.map f ∧ ∀ a ∈ l, Q a
  | [], _ => ⟨[], rfl, fun a h => by (cases h)⟩
  | e :: r, he => by
    obtain ⟨a, ha, hq⟩ := he e (by simp)
    obtain ⟨l, hl, hr⟩ := list_ofZ (es := r) fun x hx => he x (by simp [hx])
    refine ⟨a :: l, by rw [ha, hl]; rfl, fun x hx => ?_⟩
    rcases List.mem_cons.1 hx with rfl | hx
    · exact hq
    · exact hr x hx

theorem rdGaugesZ : RdZ Tryz.prog W 109 fun ds => ∃ l : List Gauge, ds = [gaugesD l] ∧ szOk l.length 16 :=
  (RdZ.slice Tryz.underlying109 c68 (by omega) (rdGauge W).z).mono fun ds h => by
    obtain ⟨es, rfl, he, hz⟩ := h
    rw [show Tryz.prog.bytesOf 125 = 16 by kernel_rfl] at hz
    obtain ⟨l, rfl⟩ := list_of (fun _ h => h) he
    exact ⟨l, rfl, by rw [List.length_map] at hz; exact sz_of hz⟩

theorem rdShotZ : RdZ Tryz.prog W 111 fun ds => ∃ s : Shot, ds = s.cells ∧ szOk s.gauges.length 16 :=
  (RdZ.struct Tryz.underlying111 c61 (.cons rfl c9 (rdStr W).z (.cons rfl c3 (rdInt W).z (.cons rfl c3 (rdInt W).z (.cons rfl c24 (rdSpan W).z (.cons rfl c24 (rdSpan W).z (.cons rfl c59 (rdGaugesZ W) (.nil _)))))))).mono fun ds h => by
    obtain ⟨_, _, rfl, ⟨a, rfl⟩, _, _, rfl, ⟨b, rfl⟩, _, _, rfl, ⟨c, rfl⟩, _, _, rfl, ⟨d, rfl⟩, _, _, rfl, ⟨e, rfl⟩, _, _, rfl, ⟨f, rfl, hf⟩, rfl⟩ := h
    exact ⟨⟨a, b, c, d, e, f⟩, rfl, hf⟩

theorem rdShotsZ : RdZ Tryz.prog W 22 fun ds => ∃ l : List Shot, ds = [shotsD l] ∧ szOk l.length 88 ∧ ∀ s ∈ l, szOk s.gauges.length 16 :=
  (RdZ.slice Tryz.underlying22 c61 (by omega) (rdShotZ W)).mono fun ds h => by
    obtain ⟨es, rfl, he, hz⟩ := h
    rw [show Tryz.prog.bytesOf 111 = 88 by kernel_rfl] at hz
    obtain ⟨l, rfl, hl⟩ := list_ofZ he
    exact ⟨l, rfl, by rw [List.length_map] at hz; exact sz_of hz, hl⟩

theorem rdWeathersZ : RdZ Tryz.prog W 30 fun ds => ∃ l : List Weather, ds = [weathersD l] ∧ szOk l.length 64 :=
  (RdZ.slice Tryz.underlying30 c79 (by omega) (rdWeather W).z).mono fun ds h => by
    obtain ⟨es, rfl, he, hz⟩ := h
    rw [show Tryz.prog.bytesOf 61 = 64 by kernel_rfl] at hz
    obtain ⟨l, rfl⟩ := list_of (fun _ h => h) he
    exact ⟨l, rfl, by rw [List.length_map] at hz; exact sz_of hz⟩

/-- The size of a case. -/
structure CaseZ (c : Case) : Prop where
  shots : szOk c.chain.shots.length 88
  gauges : ∀ s ∈ c.chain.shots, szOk s.gauges.length 16
  weathers : szOk c.weathers.length 64

theorem rdChainZ : RdZ Tryz.prog W 27 fun ds => ∃ c : Chain, ds = c.cells ∧ szOk c.shots.length 88 ∧ ∀ s ∈ c.shots, szOk s.gauges.length 16 :=
  (RdZ.struct Tryz.underlying27 c27 (.cons rfl c22 (rdShotsZ W) (.cons rfl c3 (rdInt W).z (.cons rfl c3 (rdInt W).z (.cons rfl c3 (rdInt W).z (.cons rfl c24 (rdSpan W).z (.cons rfl c25 (rdRows W).z (.nil _)))))))).mono fun ds h => by
    obtain ⟨_, _, rfl, ⟨a, rfl, h1, h2⟩, _, _, rfl, ⟨b, rfl⟩, _, _, rfl, ⟨c, rfl⟩, _, _, rfl, ⟨d, rfl⟩, _, _, rfl, ⟨e, rfl⟩, _, _, rfl, ⟨f, rfl⟩, rfl⟩ := h
    exact ⟨⟨a, b, c, d, e, f⟩, rfl, h1, h2⟩

theorem rdCaseZ : RdZ Tryz.prog W 32 fun ds => ∃ c : Case, ds = c.cells ∧ CaseZ c :=
  (RdZ.struct Tryz.underlying32 c32 (.cons rfl c27 (rdChainZ W) (.cons rfl c29 (rdShip W).z (.cons rfl c3 (rdInt W).z (.cons rfl c30 (rdWeathersZ W) (.nil _)))))).mono fun ds h => by
    obtain ⟨_, _, rfl, ⟨a, rfl, h1, h2⟩, _, _, rfl, ⟨b, rfl⟩, _, _, rfl, ⟨c, rfl⟩, _, _, rfl, ⟨d, rfl, h3⟩, rfl⟩ := h
    exact ⟨⟨a, b, c, d⟩, rfl, h1, h2, h3⟩
end
end Go.PX

namespace Go.PX
open Go.Proofs

theorem goE_in {c : Case} (h : (checkC c).2.2 = 0) {out : Int} (ho : 1 ≤ out ∧ out ≤ linksF c.chain.shots) : goE c out false = 0 := by
  unfold goE
  rw [if_neg (by simp [h]), if_neg (by simp), if_pos (inB_iff.2 ho)]

theorem bad_in {c : Case} {i : Nat} {w : Weather} (hw : c.weathers[i]? = some w) : badAt c i = false := by
  have := (List.getElem?_eq_some_iff.1 hw).1
  unfold badAt
  rw [inB_iff.2 (by omega)]; rfl

theorem pull_in {c : Case} (h : (checkC c).2.2 = 0) {i : Nat} {w : Weather} (hw : c.weathers[i]? = some w) {out : Int} (ho : 1 ≤ out ∧ out ≤ linksF c.chain.shots) : pullE c i out = (pullF c.ship (pullT w) out, 0) := by
  unfold pullE
  rw [bad_in hw, if_pos (goE_in h ho)]
  simp [hw]

def calmA (c : Case) (x : List Int) : List D := [shotsD c.chain.shots, i64 c.chain.long, i64 c.chain.heavy, i64 c.chain.err, i64 (amongF c.chain.hold (turnF x 0)), i64 c.chain.hold.hi, rowsD c.chain.rows,
  i64 c.ship.wind, i64 c.ship.current, i64 c.ship.swell, i64 c.ship.yaw, i64 c.day]

end Go.PX

namespace Go.PX
open Go.Proofs

theorem back_step {l : List Row} {i : Nat} {x : Row} (hx : l[i]? = some x) (ok : Row → Bool) :
    (((backL l (i + 1)).find? fun p => ok p.2).getD (0, ⟨0, 0⟩)).2.holds = if ok x then x.holds else (((backL l i).find? fun p => ok p.2).getD (0, ⟨0, 0⟩)).2.holds := by
  simp only [backL, hx, Option.getD_some, List.find?_cons]
  cases ok x <;> simp

theorem back_bd {c : Case} (h : CaseR c) (ok : Row → Bool) : ∀ {n : Nat}, n ≤ c.chain.rows.length → 0 ≤ (((backL c.chain.rows n).find? fun p => ok p.2).getD (0, ⟨0, 0⟩)).2.holds ∧ (((backL c.chain.rows n).find? fun p => ok p.2).getD (0, ⟨0, 0⟩)).2.holds ≤ 1000
  | 0, _ => by simp [backL]
  | n + 1, hn => by
    have hx : c.chain.rows[n]? = some c.chain.rows[n] := List.getElem?_eq_getElem (by omega)
    rw [back_step hx]
    have := h.rows c.chain.rows[n] (List.getElem_mem ..)
    have := back_bd h ok (n := n) (by omega)
    split <;> omega

theorem fn37 (c : Case) (t : Truth) (out : Int) (hc : CaseR c) (ht : ForceOk c.ship t) (ho : 0 ≤ out ∧ out ≤ 1000) (hl : t.thick.length = c.chain.shots.length) (hb : ∀ n ∈ t.thick, bd n) :
    FnV Tryz.prog 36 [c.d, i64 out, t.d] (.tup [i64 (judgeF c t out).1, i64 (judgeF c t out).2]) := by
  refine fnV_of mixed tysOk Tryz.func36 rfl (ft := ft36) 3 (by decide +kernel) (by rfl) fun {σ} Y st => ?_
  conv => whnf
  obtain ⟨_, _, _, _, _, _, hp⟩ := pull_bds ht ho
  have hrow := (rowF_ok hc t out).2
  have hhold := prod_bd 200000 1000 ht.thold hrow
  have hlen := hc.lens
  have hrl := hc.rlen
  have hlong := hc.long
  have hheavy := hc.heavy
  have hu := upF_bd (n := t.swell) (b := 2) 150 ht.tswell (by omega)
  have htd := ht.tdepth
  have hts := ht.tswell
  refine CallA_v (ds := [c.ship.d, t.d, i64 out]) (fn82 c.ship t out ht ho) rfl rfl ?_
  conv => whnf
  unfold judgeF
  generalize pullF c.ship t out = pull at *
  refine LoopA_i (T := tys) tysOk (by exact drawsB_spec mixed tysOk (by decide +kernel)) c.chain.rows (fun i (h : Int) => ⟨[(1, .d (i64 out)), (3, .ptr 3 0), (5, .ptr 5 0), (6, .d (i64 0)), (7, .d (i64 0)), (8, .d (i64 pull)), (9, .d (i64 h)), (10, .d (i64 i))],
      [(3, .box (.dd c.cells)), (5, .box (.dd t.cells))], st⟩)
    (fun i r h => h = (((backL c.chain.rows i).find? fun p => rowOk c t out p.2).getD (0, ⟨0, 0⟩)).2.holds) 0
    (Wk.sub ⟨rfl, rfl, rfl, rfl, rfl, rfl, rfl, rfl, trivial⟩ ⟨rfl, rfl, trivial⟩) rfl ?_ ?_
  · intro i x r h hx hi hr he
    have hr := hc.rows x (List.mem_of_getElem? hx)
    have b1 := prod_bd (a := x.scope) (b := t.depth + upF t.swell 2) 200 10000 (by omega) (by omega)
    have b2 := prod_bd (a := 10 * c.chain.long) (b := out) 500 1000 (by omega) (by omega)
    have e1 : (t.swell + 2 - 1).tdiv 2 = upF t.swell 2 := rfl
    conv => whnf
    refine brk_i (fun _ => ?_) (fun h => absurd hi (by simpa using h))
    conv => whnf
    repeat' (first
      | (refine CallA_v (fn83 t.swell 2 (by omega) (by omega)) rfl rfl ?_; conv => whnf)
      | (refine CallA_view (fn83 t.swell 2 (by omega) (by omega)) rfl 1 rfl ?_; conv => whnf)
      | (refine DrawCall_v (fn83 t.swell 2 (by omega) (by omega)) rfl rfl ?_; conv => whnf)
      | (refine DrawCall_view (fn83 t.swell 2 (by omega) (by omega)) rfl 1 rfl ?_; conv => whnf)
      | ((rw [e1]; refine arith_in (wrap_i64 (by (try dsimp only); omega)) ?_); conv => whnf)
      | (refine arith_in (wrap_i64 (by (try dsimp only); omega)) ?_; conv => whnf)
      | (refine elemK_nat (by assumption) ?_; conv => whnf)
      | (refine ownK_whole (by first | rfl | assumption | (simp [Els.len]; done) | (simp [Els.len]; omega)) ?_; conv => whnf)
      | (refine chk_i (by first | (simp [Els.len, Els.cons, V.cells]; done) | (simp [Els.len, Els.cons, V.cells]; omega)) ?_; conv => whnf)
      | fail)
    refine brk_i (fun h1 => ?_) (fun h1 => ?_)
    · have hk : rowOk c t out x = true := h1
      conv => whnf
      repeat' (first
        | (refine arith_in (wrap_i64 (by (try dsimp only); omega)) ?_; conv => whnf)
        | (refine elemK_nat (by assumption) ?_; conv => whnf)
        | (refine ownK_whole (by first | rfl | assumption | (simp [Els.len]; done) | (simp [Els.len]; omega)) ?_; conv => whnf)
        | (refine chk_i (by first | (simp [Els.len, Els.cons, V.cells]; done) | (simp [Els.len, Els.cons, V.cells]; omega)) ?_; conv => whnf)
        | fail)
      refine ⟨_, ?_, (Wk.sub ⟨rfl, rfl, rfl, rfl, rfl, rfl, rfl, rfl, trivial⟩ ⟨rfl, rfl, trivial⟩)⟩
      rw [back_step hx, if_pos hk]
    · have hk : rowOk c t out x = false := h1
      conv => whnf
      repeat' (first
        | (refine arith_in (wrap_i64 (by (try dsimp only); omega)) ?_; conv => whnf)
        | (refine elemK_nat (by assumption) ?_; conv => whnf)
        | (refine ownK_whole (by first | rfl | assumption | (simp [Els.len]; done) | (simp [Els.len]; omega)) ?_; conv => whnf)
        | (refine chk_i (by first | (simp [Els.len, Els.cons, V.cells]; done) | (simp [Els.len, Els.cons, V.cells]; omega)) ?_; conv => whnf)
        | fail)
      refine ⟨_, ?_, (Wk.sub ⟨rfl, rfl, rfl, rfl, rfl, rfl, rfl, rfl, trivial⟩ ⟨rfl, rfl, trivial⟩)⟩
      rw [back_step hx, hk]
      exact he
  · intro h he
    have hE : (rowF c t out).holds = h := by rw [he]; rfl
    clear he
    rw [hE] at hrow hhold ⊢
    conv => whnf
    refine brk_i (fun h => absurd h (by simp)) (fun _ => ?_)
    conv => whnf
    repeat' (first
      | (refine arith_in (wrap_i64 (by (try dsimp only); omega)) ?_; conv => whnf)
      | (refine elemK_nat (by assumption) ?_; conv => whnf)
      | (refine ownK_whole (by first | rfl | assumption | (simp [Els.len]; done) | (simp [Els.len]; omega)) ?_; conv => whnf)
      | (refine chk_i (by first | (simp [Els.len, Els.cons, V.cells]; done) | (simp [Els.len, Els.cons, V.cells]; omega)) ?_; conv => whnf)
      | fail)
    rw [show pull * 1000 = 1000 * pull by omega]
    refine brk_i (fun h1 => ?_) (fun h1 => ?_)
    · have h1 : 1000 * pull > t.hold * h := by simpa using h1
      rw [if_pos h1]
      conv => whnf
      exact RetA_view 0 rfl ⟨⟨rfl, rfl⟩, rfl⟩
    have h1 : ¬ 1000 * pull > t.hold * h := by simpa using h1
    rw [if_neg h1]
    conv => whnf
    refine LoopA_i (T := tys) tysOk (by exact drawsB_spec mixed tysOk (by decide +kernel)) c.chain.shots (fun i (n : Int) => ⟨[(1, .d (i64 out)), (3, .ptr 3 0), (5, .ptr 5 0), (6, .d (i64 0)), (7, .d (i64 0)), (8, .d (i64 pull)), (11, .d (i64 n)), (12, .d (i64 i))],
        [(3, .box (.dd c.cells)), (5, .box (.dd t.cells))], st⟩)
      (fun i r n => (0 ≤ n ∧ n ≤ i * 40) ∧ (∀ s ∈ r, ShotR s) ∧ judgeL c.chain.heavy pull out c.chain.shots t.thick 0 0 = judgeL c.chain.heavy pull out r (t.thick.drop i) n i) 0
      (Wk.sub ⟨rfl, rfl, rfl, rfl, rfl, rfl, rfl, rfl, trivial⟩ ⟨rfl, rfl, trivial⟩) ⟨by omega, fun s hs => (hc.shots s hs).1, rfl⟩ ?_ ?_
    · intro i x r n hx hi hr ⟨hn, hm, he⟩
      have hxl := (hm x (by simp)).links
      have hti : i < t.thick.length := by omega
      have htx : t.thick[i]? = some t.thick[i] := List.getElem?_eq_getElem hti
      have hbx := hb _ (List.getElem_mem hti)
      rw [List.drop_eq_getElem_cons hti, judgeL] at he
      generalize t.thick[i] = v at *
      have hi7 : i < 7 := by omega
      have hmn := prod_bd (a := c.chain.heavy) (b := min out (n + x.links)) 200 1000 hheavy (by omega)
      rw [show min (n + x.links) out = min out (n + x.links) from Int.min_comm _ _] at he
      conv => whnf
      refine brk_i (fun _ => ?_) (fun h => absurd hi (by simpa using h))
      conv => whnf
      refine brk_i (fun h2 => ?_) (fun h2 => ?_)
      · have h2 : n < out := by simpa using h2
        rw [if_neg (by omega)] at he
        conv => whnf
        repeat' (first
          | (refine CallA_v (fn69 v hbx) rfl rfl ?_; conv => whnf)
          | (refine CallA_view (fn69 v hbx) rfl 1 rfl ?_; conv => whnf)
          | (refine DrawCall_v (fn69 v hbx) rfl rfl ?_; conv => whnf)
          | (refine DrawCall_view (fn69 v hbx) rfl 1 rfl ?_; conv => whnf)
          | (refine arith_in (wrap_i64 (by (try dsimp only); omega)) ?_; conv => whnf)
          | (refine elemK_nat (by assumption) ?_; conv => whnf)
          | (refine ownK_whole (by first | rfl | assumption | (simp [Els.len]; done) | (simp [Els.len]; omega)) ?_; conv => whnf)
          | (refine chk_i (by first | (simp [Els.len, Els.cons, V.cells]; done) | (simp [Els.len, Els.cons, V.cells]; omega)) ?_; conv => whnf)
          | fail)
        refine brk_i (fun h3 => ?_) (fun h3 => ?_)
        · have h3 : strongF v < pull + c.chain.heavy * min out (n + x.links) := by simpa using h3
          rw [if_pos h3] at he
          conv => whnf
          rw [he]
          exact RetA_view 0 rfl ⟨⟨rfl, rfl⟩, rfl⟩
        · have h3 : ¬ strongF v < pull + c.chain.heavy * min out (n + x.links) := by simpa using h3
          rw [if_neg h3] at he
          conv => whnf
          repeat' (first
            | (refine arith_in (wrap_i64 (by (try dsimp only); omega)) ?_; conv => whnf)
            | (refine elemK_nat (by assumption) ?_; conv => whnf)
            | (refine ownK_whole (by first | rfl | assumption | (simp [Els.len]; done) | (simp [Els.len]; omega)) ?_; conv => whnf)
            | (refine chk_i (by first | (simp [Els.len, Els.cons, V.cells]; done) | (simp [Els.len, Els.cons, V.cells]; omega)) ?_; conv => whnf)
            | fail)
          exact ⟨n + x.links, ⟨by omega, fun s hs => hm s (by simp [hs]), he⟩, (Wk.sub ⟨rfl, rfl, rfl, rfl, rfl, rfl, rfl, rfl, trivial⟩ ⟨rfl, rfl, trivial⟩)⟩
      · have h2 : ¬ n < out := by simpa using h2
        rw [if_pos (by omega)] at he
        conv => whnf
        rw [he]
        exact RetA_view 0 rfl ⟨⟨rfl, rfl⟩, rfl⟩
    · rintro n ⟨_, _, he⟩
      rw [show ∀ ts n i, judgeL c.chain.heavy pull out [] ts n i = (0, 0) from fun ts n i => by cases ts <;> rfl] at he
      conv => whnf
      refine brk_i (fun h => absurd h (by simp)) (fun _ => ?_)
      conv => whnf
      rw [he]
      exact RetA_view 0 rfl ⟨⟨rfl, rfl⟩, rfl⟩
end Go.PX
