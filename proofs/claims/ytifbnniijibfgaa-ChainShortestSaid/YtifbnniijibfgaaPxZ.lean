import Derived.Test.YtifbnniijibfgaaPxY
set_option linter.all false
set_option maxRecDepth 10000
namespace Go.PX
open Go.Proofs

mutual
/-- Data with empty lists for nil slices. -/
def relax : D → D
  | .agg cs => .agg (relaxL cs)
  | .tup cs => .tup (relaxL cs)
  | .vs es => .vs (relaxE es)
  | .nils => .vs []
  | .ref cs => .ref (relaxL cs)
  | .bool b => .bool b
  | .int k n => .int k n
  | .str s => .str s
  | .nilp => .nilp
  | .mv kvs => .mv kvs
  | .nilm => .nilm
  | .clo f caps => .clo f caps
  | .mth f first => .mth f first
  | .nilf => .nilf
  | .ifc t v => .ifc t v
  | .nili => .nili
def relaxL : List D → List D
  | [] => []
  | c :: r => relax c :: relaxL r
def relaxE : List (List D) → List (List D)
  | [] => []
  | c :: r => relaxL c :: relaxE r
end

theorem relaxL_length : ∀ l : List D, (relaxL l).length = l.length
  | [] => rfl
  | c :: r => by simp only [relaxL, List.length_cons, relaxL_length r]
theorem relaxE_length : ∀ l : List (List D), (relaxE l).length = l.length
  | [] => rfl
  | c :: r => by simp only [relaxE, List.length_cons, relaxE_length r]

mutual
theorem RepD.relax {F : Nat → Nat} {w : World} : ∀ (a : D) (v : Value), RepD F w a v → RepD F w (relax a) v
  | .agg cs, _, hr => by
    obtain ⟨l, rfl, hl⟩ := hr
    exact ⟨l, rfl, RepDL.relax cs _ hl⟩
  | .tup cs, _, hr => by
    obtain ⟨l, rfl, hl⟩ := hr
    exact ⟨l, rfl, RepDL.relax cs _ hl⟩
  | .vs es, _, hr => by
    obtain ⟨a, len, cap, rfl, hl, hc, he⟩ := hr
    refine ⟨a, len, cap, rfl, by rw [relaxE_length]; exact hl, hc, fun hne => ?_⟩
    obtain ⟨b, off, sz, ha, hs, hes⟩ := he (by rintro rfl; exact hne rfl)
    exact ⟨b, off, sz, ha, hs, RepEs.relax es b off sz hes⟩
  | .nils, _, hr => by
    have hx : _ = Value.slice none 0 0 := hr
    subst hx
    exact ⟨none, 0, 0, rfl, rfl, Nat.le_refl _, fun h => absurd rfl h⟩
  | .ref cs, _, hr => by
    obtain ⟨b, off, rfl, hc⟩ := hr
    exact ⟨b, off, rfl, RepAt.relax cs b off hc⟩
  | .bool _, _, hr => hr
  | .int _ _, _, hr => hr
  | .str _, _, hr => hr
  | .nilp, _, hr => hr
  | .mv _, _, hr => hr
  | .nilm, _, hr => hr
  | .clo _ _, _, hr => hr
  | .mth _ _, _, hr => hr
  | .nilf, _, hr => hr
  | .ifc _ _, _, hr => hr
  | .nili, _, hr => hr
theorem RepDL.relax {F : Nat → Nat} {w : World} : ∀ (cs : List D) (l : List Value), RepDL F w cs l → RepDL F w (relaxL cs) l
  | [], _, hr => hr
  | c :: r, _, hr => by
    obtain ⟨x, l', rfl, hc, hl⟩ := hr
    exact ⟨x, l', rfl, RepD.relax c x hc, RepDL.relax r l' hl⟩
theorem RepAt.relax {F : Nat → Nat} {w : World} : ∀ (cs : List D) (b off : Nat), RepAt F w b off cs → RepAt F w b off (relaxL cs)
  | [], _, _, _ => trivial
  | c :: r, b, off, hr => by
    obtain ⟨hf, ⟨x, hx, hc⟩, hl⟩ := hr
    exact ⟨hf, ⟨x, hx, RepD.relax c x hc⟩, RepAt.relax r b (off + 1) hl⟩
theorem RepEs.relax {F : Nat → Nat} {w : World} : ∀ (es : List (List D)) (b off sz : Nat), RepEs F w b off sz es → RepEs F w b off sz (relaxE es)
  | [], _, _, _, _ => trivial
  | e :: r, b, off, sz, hr => by
    obtain ⟨hn, he, hl⟩ := hr
    exact ⟨by rw [relaxL_length]; exact hn, RepAt.relax e b off he, RepEs.relax r b (off + sz) sz hl⟩
end

theorem FnV.relax {P : Program} {f : FuncId} {ds : List D} {r : D} (h : FnV P f ds r) {r' : D} (hr : PX.relax r = r') : FnV P f ds r' := by
  subst hr
  intro σ Y s
  obtain ⟨h1, h2⟩ := h Y s
  refine ⟨h1, fun cx hY L F vals w hh hv => (h2 cx hY L F vals w hh hv).mono ?_⟩
  rintro e w' ⟨x, rfl, v, h', s', L', F', ⟨⟨rfl, rfl⟩, rfl⟩, hh', hx, tr, hp⟩
  exact ⟨x, rfl, _, _, _, L', F', ⟨⟨rfl, rfl⟩, rfl⟩, hh', RepD.relax r x hx, tr, hp⟩

def lowS (b : Bool) : Shot := ⟨⟨#[108, 111, 119]⟩, 10, 0, ⟨20000, 21000⟩, ⟨2, 4⟩, ⟨100, 20200⟩ :: (if b then [⟨200, 18000⟩] else [])⟩
def highS : Shot := ⟨⟨#[104, 105, 103, 104]⟩, 10, 0, ⟨18000, 18000⟩, ⟨5, 5⟩, []⟩
def awakeC (b : Bool) : Case := ⟨⟨[lowS b, highS], 10, 20, 100, ⟨9000, 12000⟩, [⟨30, 500⟩, ⟨60, 1000⟩]⟩, ⟨200, 300, 10, 5⟩, 1000, [⟨⟨20, 30⟩, ⟨20, 40⟩, ⟨0, 20⟩, ⟨0, 5⟩⟩, ⟨⟨20, 30⟩, ⟨0, 10⟩, ⟨0, 10⟩, ⟨10, 15⟩⟩]⟩

set_option maxHeartbeats 2000000 in
theorem fn23 (b : Bool) : FnV Try.prog 23 [.bool b] (awakeC b).d := by
  refine FnV.relax (r := .agg ((.vs [(lowS b).cells, highS.cells.take 7 ++ [.nils]]) :: (awakeC b).cells.tail)) ?_ (by cases b <;> rfl)
  cases b with
  | false =>
    refine fnV_of mixed tysOk Try.func23 rfl (ft := ft23) 1 (by decide +kernel) (by rfl) fun {σ} Y st => ?_
    conv => whnf
    refine CallA_v (fn28 20000 21000) rfl rfl ?_
    conv => whnf
    refine CallA_v (fn28 2 4) rfl rfl ?_
    conv => whnf
    refine CallA_v (fn28 18000 18000) rfl rfl ?_
    conv => whnf
    refine CallA_v (fn28 5 5) rfl rfl ?_
    conv => whnf
    refine DrawCall_v (fn28 9000 12000) rfl rfl ?_
    conv => whnf
    refine DrawCall_v (fn28 20 30) rfl rfl ?_
    conv => whnf
    refine DrawCall_v (fn28 20 40) rfl rfl ?_
    conv => whnf
    refine DrawCall_v (fn28 0 20) rfl rfl ?_
    conv => whnf
    refine DrawCall_v (fn28 0 5) rfl rfl ?_
    conv => whnf
    refine DrawCall_v (fn28 20 30) rfl rfl ?_
    conv => whnf
    refine DrawCall_v (fn28 0 10) rfl rfl ?_
    conv => whnf
    refine DrawCall_v (fn28 0 10) rfl rfl ?_
    conv => whnf
    refine DrawCall_v (fn28 10 15) rfl rfl ?_
    conv => whnf
    exact RetA_view 4 (ds := [.agg ((.vs [(lowS false).cells, highS.cells.take 7 ++ [.nils]]) :: (awakeC false).cells.tail)]) rfl ⟨⟨rfl, rfl⟩, rfl⟩
  | true =>
    refine fnV_of mixed tysOk Try.func23 rfl (ft := ft23) 1 (by decide +kernel) (by rfl) fun {σ} Y st => ?_
    conv => whnf
    refine CallA_v (fn28 20000 21000) rfl rfl ?_
    conv => whnf
    refine CallA_v (fn28 2 4) rfl rfl ?_
    conv => whnf
    refine CallA_v (fn28 18000 18000) rfl rfl ?_
    conv => whnf
    refine CallA_v (fn28 5 5) rfl rfl ?_
    conv => whnf
    refine DrawCall_v (fn28 9000 12000) rfl rfl ?_
    conv => whnf
    refine DrawCall_v (fn28 20 30) rfl rfl ?_
    conv => whnf
    refine DrawCall_v (fn28 20 40) rfl rfl ?_
    conv => whnf
    refine DrawCall_v (fn28 0 20) rfl rfl ?_
    conv => whnf
    refine DrawCall_v (fn28 0 5) rfl rfl ?_
    conv => whnf
    refine DrawCall_v (fn28 20 30) rfl rfl ?_
    conv => whnf
    refine DrawCall_v (fn28 0 10) rfl rfl ?_
    conv => whnf
    refine DrawCall_v (fn28 0 10) rfl rfl ?_
    conv => whnf
    refine DrawCall_v (fn28 10 15) rfl rfl ?_
    conv => whnf
    exact RetA_view 4 (ds := [.agg ((.vs [(lowS true).cells, highS.cells.take 7 ++ [.nils]]) :: (awakeC true).cells.tail)]) rfl ⟨⟨rfl, rfl⟩, rfl⟩
end Go.PX
