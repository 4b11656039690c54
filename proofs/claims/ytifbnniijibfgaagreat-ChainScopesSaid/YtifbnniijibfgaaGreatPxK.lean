import Derived.Test.YtifbnniijibfgaaGreatPxJ
import Derived.Test.YtifbnniijibfgaaGreatPxG
set_option linter.all false
set_option maxRecDepth 10000
namespace Go.PX
open Go.Proofs

/-- A mooring as the program holds it. -/
def mD (c : Case) (th : List Span) (fr : List (D × D)) : D := .ref (c.cells ++ [spansD th, .mv fr])

structure MoorOk (c : Case) (th : List Span) : Prop where
  case : CaseR c
  len : th.length = c.chain.shots.length
  th : ∀ s ∈ th, (0 ≤ s.lo ∧ s.lo ≤ 1000000) ∧ (0 ≤ s.hi ∧ s.hi ≤ 1000000)

def backL (l : List Row) : Nat → List (Int × Row)
  | 0 => []
  | n + 1 => ((n : Int), l[n]?.getD ⟨0, 0⟩) :: backL l n

def rowItem (p : Int × Row) : List V × Heap := ([.d (i64 p.1), .d (.agg p.2.cells)], [])

theorem yields119 (rows : List Row) (h : rows.length < 1000000) : Yields Tryz.prog 107 [.ref [rowsD rows]] ((backL rows rows.length).map rowItem) := by
  intro γ Y g0 Q hit
  refine fnC_of mixed tysOk Tryz.func107 rfl (ft := ft107) (args := [.yld, .d (.ref [rowsD rows])]) (show fnB ft107 Tryz.f107 2 = true from by decide +kernel) ?_
  conv => whnf
  refine arith_to ((rows.length : Int) - 1) (by simp) (wrap_i64 (by omega)) ?_
  conv => whnf
  refine LoopA_p (T := tys) tysOk (by exact drawsB_spec mixed tysOk (by decide +kernel)) (α := Int × γ)
    (fun x => ⟨[(0, .yld), (1, .d (.ref [rowsD rows])), (3, .d (i64 x.1))], [], x.2⟩)
    (fun x => -1 ≤ x.1 ∧ x.1 < rows.length ∧ iterate Y ((backL rows (x.1 + 1).toNat).map rowItem) x.2 Q) (fun x => (x.1 + 1).toNat) ((rows.length : Int) - 1, g0)
    (Wk.sub ⟨(by first | rfl | (simp only [List.length_map]; rfl) | simp [PX.get]), (by first | rfl | (simp only [List.length_map]; rfl) | simp [PX.get]), (by first | rfl | (simp only [List.length_map]; rfl) | simp [PX.get]), trivial⟩ trivial) ⟨by simp only; omega, by simp only; omega, by simpa using hit⟩ ?_
  clear hit g0
  rintro ⟨i, g0⟩ ⟨h1, h2, hit⟩
  simp only at h1 h2 hit
  conv => whnf
  refine brk_i (fun hb => ?_) (fun hb => ?_)
  · have hb : 0 ≤ i := by simpa using hb
    have hn : (i + 1).toNat = i.toNat + 1 := by omega
    have hlt : i.toNat < rows.length := by omega
    rw [hn, backL, List.getElem?_eq_getElem hlt, Option.getD_some, show ((i.toNat : Nat) : Int) = i by omega] at hit
    conv => whnf
    refine elemK_i rows[i.toNat].cells ⟨hb, by simp [hlt]⟩ ?_
    conv => whnf
    refine YldA_v (ds := [i64 i, .agg rows[i.toNat].cells]) hit rfl rfl (fun s' hs' => ?_) (fun s' hs' => ?_)
    · conv => whnf
      refine arith_in (wrap_i64 (by (try dsimp only); omega)) ?_
      conv => whnf
      exact ⟨(i - 1, s'), by simp only; omega, ⟨by simp only; omega, by simp only; omega, by simp only; rw [show (i - 1 + 1).toNat = i.toNat by omega]; exact hs'⟩, (Wk.sub ⟨(by first | rfl | (simp only [List.length_map]; rfl) | simp [PX.get]), (by first | rfl | (simp only [List.length_map]; rfl) | simp [PX.get]), (by first | rfl | (simp only [List.length_map]; rfl) | simp [PX.get]), trivial⟩ trivial)⟩
    · conv => whnf
      exact RetA_view 0 rfl ⟨rfl, hs'⟩
  · have hb : ¬ 0 ≤ i := by simpa using hb
    have hi : (i + 1).toNat = 0 := by omega
    rw [hi, backL] at hit
    conv => whnf
    exact RetA_view 0 rfl ⟨rfl, hit⟩

theorem fn117 (rows : List Row) : FnV Tryz.prog 95 [rowsD rows] (.clo 107 [.ref [rowsD rows]]) := by
  refine fnV_of mixed tysOk Tryz.func95 rfl (ft := ft95) 1 (by decide +kernel) (by rfl) fun {σ} Y st => ?_
  conv => whnf
  exact RetA_view 1 rfl ⟨⟨rfl, rfl⟩, rfl⟩

/-- Whether a row of the table holds at so many links out. -/
def rowOk (c : Case) (t : Truth) (out : Int) (r : Row) : Bool := decide (r.scope * (t.depth + upF t.swell 2) ≤ 10 * c.chain.long * out)
def rowF (c : Case) (t : Truth) (out : Int) : Row := (((backL c.chain.rows c.chain.rows.length).find? fun p => rowOk c t out p.2).getD (0, ⟨0, 0⟩)).2

theorem backL_mem {l : List Row} : ∀ {n : Nat}, n ≤ l.length → ∀ p ∈ backL l n, p.2 ∈ l
  | 0, _, p, h => by simp [backL] at h
  | n + 1, hn, p, h => by
    simp only [backL, List.mem_cons] at h
    rcases h with rfl | h
    · rw [List.getElem?_eq_getElem (by omega)]; exact List.getElem_mem (by omega)
    · exact backL_mem (by omega) p h

theorem rowF_ok {c : Case} (h : CaseR c) (t : Truth) (out : Int) : (0 ≤ (rowF c t out).scope ∧ (rowF c t out).scope ≤ 200) ∧ (0 ≤ (rowF c t out).holds ∧ (rowF c t out).holds ≤ 1000) := by
  unfold rowF
  cases hf : (backL c.chain.rows c.chain.rows.length).find? fun p => rowOk c t out p.2 with
  | none => simp
  | some p =>
    have := h.rows p.2 (backL_mem (Nat.le_refl _) p (List.mem_of_find?_eq_some hf))
    simp only [Option.getD_some]
    omega

theorem fn108 (c : Case) (th : List Span) (fr : List (D × D)) (t : Truth) (out : Int) (hc : CaseR c) (ht : ForceOk c.ship t) (ho : 0 ≤ out ∧ out ≤ 1000) :
    FnV Tryz.prog 65 [mD c th fr, t.d, i64 out] (.agg (rowF c t out).cells) := by
  refine fnV_of mixed tysOk Tryz.func65 rfl (ft := ft65) 3 (by decide +kernel) (by rfl) fun {σ} Y st => ?_
  conv => whnf
  have hlen := hc.rlen
  have hlong := hc.long
  have hu := upF_bd (n := t.swell) (b := 2) 150 ht.tswell (by omega)
  have htd := ht.tdepth
  have hts := ht.tswell
  refine CallA_v (ds := [rowsD c.chain.rows]) (fn117 c.chain.rows) rfl rfl ?_
  conv => whnf
  refine RangeA_list tysOk (by exact drawsB_spec mixed tysOk (by decide +kernel)) (by exact drawsB_spec mixed tysOk (by decide +kernel)) rfl 1500000 1600000 [3, 4, 5, 6] (by exact yields119 c.chain.rows (by omega))
    (fun (_ : Unit) => ([(1500000, .box (.dd [mD c th fr])), (1500001, .box (.dd t.cells)), (1500002, .box (.dd [i64 out])), (1500003, .box (.dd [i64 0, i64 0]))], st))
    (fun rest _ => (∀ p ∈ rest, p.2 ∈ c.chain.rows) ∧ rowF c t out = ((rest.find? fun p => rowOk c t out p.2).getD (0, ⟨0, 0⟩)).2) () rfl rfl rfl ⟨backL_mem (Nat.le_refl _), rfl⟩ ?_ ?_
  · rintro p rest _ ⟨hm, he⟩ Q hQ1 hQ
    refine ⟨⟨rfl, rfl⟩, ?_⟩
    have hr := hc.rows p.2 (hm p (by simp))
    have b1 := prod_bd (a := p.2.scope) (b := t.depth + upF t.swell 2) 200 10000 (by omega) (by omega)
    have b2 := prod_bd (a := 10 * c.chain.long) (b := out) 500 1000 (by omega) (by omega)
    have e1 : (t.swell + 2 - 1).tdiv 2 = upF t.swell 2 := rfl
    conv => whnf
    refine DrawCall_v (fn101 t.swell 2 (by omega) (by omega)) rfl rfl ?_
    conv => whnf
    rw [e1]
    refine arith_in (wrap_i64 (by (try dsimp only); omega)) ?_
    conv => whnf
    refine arith_in (wrap_i64 (by (try dsimp only); omega)) ?_
    conv => whnf
    refine arith_in (wrap_i64 (by (try dsimp only); omega)) ?_
    conv => whnf
    refine arith_in (wrap_i64 (by (try dsimp only); omega)) ?_
    conv => whnf
    refine brk_i (fun hb => ?_) (fun hb => ?_)
    · have hk : rowOk c t out p.2 = true := hb
      rw [List.find?_cons_of_pos (by exact hk)] at he
      conv => whnf
      refine ⟨[(1500000, .box (.dd [mD c th fr])), (1500001, .box (.dd t.cells)), (1500002, .box (.dd [i64 out])), (1500003, .box (.dd p.2.cells))], st, (Wk.sub trivial ⟨(by first | rfl | (simp only [List.length_map]; rfl) | simp [PX.get]), (by first | rfl | (simp only [List.length_map]; rfl) | simp [PX.get]), (by first | rfl | (simp only [List.length_map]; rfl) | simp [PX.get]), (by first | rfl | (simp only [List.length_map]; rfl) | simp [PX.get]), trivial⟩), rfl, hQ _ _ _ ?_⟩
      conv => whnf
      rw [he]
      exact RetA_view 0 rfl ⟨⟨rfl, rfl⟩, rfl⟩
    · have hk : ¬ rowOk c t out p.2 = true := by rw [show rowOk c t out p.2 = false from hb]; simp
      rw [List.find?_cons_of_neg (by exact hk)] at he
      conv => whnf
      exact ⟨(), (Wk.sub trivial ⟨(by first | rfl | (simp only [List.length_map]; rfl) | simp [PX.get]), (by first | rfl | (simp only [List.length_map]; rfl) | simp [PX.get]), (by first | rfl | (simp only [List.length_map]; rfl) | simp [PX.get]), (by first | rfl | (simp only [List.length_map]; rfl) | simp [PX.get]), trivial⟩), rfl, hQ1 () ⟨fun q hq => hm q (by simp [hq]), he⟩⟩
  · rintro _ ⟨_, he⟩
    conv => whnf
    rw [he]
    exact RetA_view 0 rfl ⟨⟨rfl, rfl⟩, rfl⟩
end Go.PX

namespace Go.PX
open Go.Proofs

theorem viewV_agg {g : Nat → Option DO} {cs : List V} {l : List D} (h : viewL g cs = some l) : viewV g (.agg cs) = some (.agg l) := by simp [viewV, h]

/-- A box of data with a nil slice in it holds one without elements. -/
theorem Wk.bornAtD {σ : Type} {e : Env} {h : Heap} {s : σ} (b k sz : Nat) (A B : List D) {l : List D} (hk : Nat.blt k 1000000 = true) (hs : Nat.blt 0 sz = true) (hb : get h b = some (.box (.dd l))) (hl : l = A ++ .nils :: B) (hbk : Nat.beq b k = false) :
    Wk (⟨e, h, s⟩ : St σ) ⟨mapT (mapId (killF k)) e, put (put (mapT (Obj.mapId (killF k)) (cut h k)) k (.arr sz (.dd []))) b (.box (.vv (inj A ++ .sl k sz 0 0 :: inj B))), s⟩ := by
  have hk := Nat.le_of_ble_eq_true hk
  have hs := Nat.le_of_ble_eq_true hs
  have hne : b ≠ k := by rintro rfl; simp at hbk
  have h1 : Wk (⟨e, h, s⟩ : St σ) ⟨mapT (mapId (killF k)) e, put (mapT (Obj.mapId (killF k)) (cut h k)) k (.arr sz (.dd [])), s⟩ := by
    intro cx r m L F a w hg
    exact ⟨_, F, hg.newEmpty k sz (by unfold pinned; omega) hs (.dd []) rfl, Tr.refl F w⟩
  refine h1.trans (Wk.reobj b (o := .box (.dd l)) _ (by rw [get_put, if_neg hne, get_mapT, get_cut, if_neg hne, hb]; rfl) (fun yv L F w h => ?_) fun L hb => hb)
  obtain ⟨c, T, hc, hr⟩ := h
  have hr : RepVL yv L F w (inj l) c.toList := hr
  rw [hl, inj_append] at hr
  exact ⟨c, T, hc, RepVL.nil_at k sz hs hr⟩

def worstT (c : Case) (th : List Span) (w : Weather) : Truth := ⟨w.depth.hi, w.wind.hi, w.current.hi, w.swell.hi, c.chain.hold.lo, th.map Span.lo⟩
def loC (s : Span) : List D := [i64 s.lo]

theorem fn80 (c : Case) (th : List Span) (fr : List (D × D)) (w : Weather) (hl : th.length < 1000000) :
    FnV Tryz.prog 32 [mD c th fr, w.d] (worstT c th w).d := by
  refine fnV_of mixed tysOk Tryz.func32 rfl (ft := ft32) 2 (by decide +kernel) (by rfl) fun {σ} Y st => ?_
  conv => whnf
  refine LoopA_i (T := tys) tysOk (by exact drawsB_spec mixed tysOk (by decide +kernel)) th (fun i (_ : Unit) => ⟨[(0, .d (mD c th fr)), (4, .ptr 4 0), (30, .d (spansD th)), (31, .d (i64 th.length)), (32, .d (i64 i))],
      [(4, .box (.vv [.d (i64 w.depth.hi), .d (i64 w.wind.hi), .d (i64 w.current.hi), .d (i64 w.swell.hi), .d (i64 c.chain.hold.lo), .sl 41 1 0 i])), (41, .arr 1 (.dd ((th.take i).map loC)))], st⟩)
    (fun i r _ => True) ()
    ((Wk.bornAtD 4 41 1 [i64 w.depth.hi, i64 w.wind.hi, i64 w.current.hi, i64 w.swell.hi, i64 c.chain.hold.lo] [] rfl rfl rfl rfl rfl).trans (Wk.sub ⟨(by first | rfl | (simp only [List.length_map]; rfl) | simp [PX.get]), (by first | rfl | (simp only [List.length_map]; rfl) | simp [PX.get]), (by first | rfl | (simp only [List.length_map]; rfl) | simp [PX.get]), (by first | rfl | (simp only [List.length_map]; rfl) | simp [PX.get]), (by first | rfl | (simp only [List.length_map]; rfl) | simp [PX.get]), trivial⟩ ⟨(by first | rfl | (simp only [List.length_map]; rfl) | simp [PX.get]), (by first | rfl | (simp only [List.length_map]; rfl) | simp [PX.get]), trivial⟩)) trivial ?_ ?_
  · intro i x r _ hx hi hr _
    have htk : th.take (i + 1) = th.take i ++ [x] := by rw [List.take_succ, hx]; rfl
    have hlt : (th.take i).length = i := by simp; omega
    have hlt2 : min i th.length = i := by simpa using hlt
    conv => whnf
    refine brk_i (fun _ => ?_) (fun h => absurd hi (by simpa using h))
    conv => whnf
    refine elemK_nat hx ?_
    conv => whnf
    refine ownK_whole rfl ?_
    conv => whnf
    refine ownK.mk (by simp [Els.len, hlt2]) ?_
    conv => whnf
    refine chk_i (by simp [Els.len, Els.part, Els.cons, V.cells, hlt2]; omega) ?_
    conv => whnf
    refine arith_in (wrap_i64 (by (try dsimp only); omega)) ?_
    conv => whnf
    refine ⟨(), trivial, Wk.sub ⟨rfl, rfl, rfl, rfl, rfl, trivial⟩ ⟨?_, ?_, trivial⟩⟩
    · show some (Obj.box (.vv [.d (i64 w.depth.hi), .d (i64 w.wind.hi), .d (i64 w.current.hi), .d (i64 w.swell.hi), .d (i64 c.chain.hold.lo), .sl 41 1 0 (((((th.take i).map loC).drop 0).take i).length + 1)])) = _
      rw [List.drop_zero, List.take_of_length_le (by simp; omega)]; simp only [List.length_map, hlt]
    · show some (Obj.arr 1 (.dd ((((th.take i).map loC).drop 0).take i ++ [loC x]))) = _
      rw [List.drop_zero, List.take_of_length_le (by simp; omega), htk]; simp
  · intro _ _
    conv => whnf
    refine brk_i (fun h => absurd h (by simp)) (fun _ => ?_)
    conv => whnf
    have htl : th.take th.length = th := List.take_of_length_le (by simp)
    refine RetA_view 3 (ds := [.agg (worstT c th w).cells]) (viewL_cons (viewV_agg (viewL_cons rfl (viewL_cons rfl (viewL_cons rfl (viewL_cons rfl (viewL_cons rfl (viewL_cons (viewV_sl' (es' := (th.map Span.lo).map fun n => [i64 n]) rfl ?_ (by simp)) rfl))))))) rfl) ⟨⟨rfl, rfl⟩, rfl⟩
    rw [htl]
    simp [loC]
end Go.PX

namespace Go.PX
open Go.Proofs

/-- The first shot that breaks. -/
def judgeL (heavy pull out : Int) : List Shot → List Int → Int → Int → Int × Int
  | s :: r, t :: ts, n, i => if n ≥ out then (0, 0) else if strongF t < pull + heavy * min (n + s.links) out then (2, i) else judgeL heavy pull out r ts (n + s.links) (i + 1)
  | _, _, _, _ => (0, 0)

def judgeF (c : Case) (t : Truth) (out : Int) : Int × Int :=
  if pullF c.ship t out * 1000 > t.hold * (rowF c t out).holds then (1, 0) else judgeL c.chain.heavy (pullF c.ship t out) out c.chain.shots t.thick 0 0

theorem fn81 (c : Case) (th : List Span) (fr : List (D × D)) (t : Truth) (out : Int) (hc : CaseR c) (ht : ForceOk c.ship t) (ho : 0 ≤ out ∧ out ≤ 1000) (hl : t.thick.length = c.chain.shots.length) (hb : ∀ n ∈ t.thick, bd n) :
    FnV Tryz.prog 33 [mD c th fr, t.d, i64 out] (.tup [i64 (judgeF c t out).1, i64 (judgeF c t out).2]) := by
  refine fnV_of mixed tysOk Tryz.func33 rfl (ft := ft33) 3 (by decide +kernel) (by rfl) fun {σ} Y st => ?_
  conv => whnf
  obtain ⟨_, _, _, _, _, _, hp⟩ := pull_bds ht ho
  have hrow := (rowF_ok hc t out).2
  have hhold := prod_bd 200000 1000 ht.thold hrow
  have hlen := hc.lens
  have hheavy := hc.heavy
  refine DrawCall_v (ds := [forceD c.ship t, i64 out]) (fn73 c.ship t out ht ho) rfl rfl ?_
  conv => whnf
  unfold judgeF
  generalize pullF c.ship t out = pull at *
  refine arith_in (wrap_i64 (by (try dsimp only); omega)) ?_
  conv => whnf
  refine DrawCall_v (ds := [mD c th fr, t.d, i64 out]) (fn108 c th fr t out hc ht ho) rfl rfl ?_
  conv => whnf
  refine arith_in (wrap_i64 (by (try dsimp only); omega)) ?_
  conv => whnf
  refine brk_i (fun h1 => ?_) (fun h1 => ?_)
  · have h1 : pull * 1000 > t.hold * (rowF c t out).holds := by simpa using h1
    conv => whnf
    simp only [h1, if_true]
    exact RetA_view 0 rfl ⟨⟨rfl, rfl⟩, rfl⟩
  have h1 : ¬ pull * 1000 > t.hold * (rowF c t out).holds := by simpa using h1
  simp only [h1, if_false]
  conv => whnf
  refine LoopA_i (T := tys) tysOk (by exact drawsB_spec mixed tysOk (by decide +kernel)) c.chain.shots (fun i (n : Int) => ⟨[(0, .d (mD c th fr)), (2, .d (i64 out)), (4, .ptr 4 0), (8, .d (i64 pull)), (9, .d (i64 n)), (37, .d (shotsD c.chain.shots)), (38, .d (i64 c.chain.shots.length)), (39, .d (i64 i))],
      [(4, .box (.dd t.cells))], st⟩)
    (fun i r n => (0 ≤ n ∧ n ≤ i * 40) ∧ (∀ s ∈ r, ShotR s) ∧ judgeL c.chain.heavy pull out c.chain.shots t.thick 0 0 = judgeL c.chain.heavy pull out r (t.thick.drop i) n i) 0
    (Wk.sub ⟨(by first | rfl | (simp only [List.length_map]; rfl) | simp [PX.get]), (by first | rfl | (simp only [List.length_map]; rfl) | simp [PX.get]), (by first | rfl | (simp only [List.length_map]; rfl) | simp [PX.get]), (by first | rfl | (simp only [List.length_map]; rfl) | simp [PX.get]), (by first | rfl | (simp only [List.length_map]; rfl) | simp [PX.get]), (by first | rfl | (simp only [List.length_map]; rfl) | simp [PX.get]), (by first | rfl | (simp only [List.length_map]; rfl) | simp [PX.get]), (by first | rfl | (simp only [List.length_map]; rfl) | simp [PX.get]), trivial⟩ ⟨(by first | rfl | (simp only [List.length_map]; rfl) | simp [PX.get]), trivial⟩) ⟨by omega, fun s hs => (hc.shots s hs).1, rfl⟩ ?_ ?_
  · intro i x r n hx hi hr ⟨hn, hm, he⟩
    have hxl := (hm x (by simp)).links
    have hti : i < t.thick.length := by omega
    have htx : t.thick[i]? = some t.thick[i] := List.getElem?_eq_getElem hti
    have hbx := hb _ (List.getElem_mem hti)
    rw [List.drop_eq_getElem_cons hti, judgeL] at he
    generalize t.thick[i] = v at *
    have hi7 : i < 7 := by omega
    have hmn := prod_bd (a := c.chain.heavy) (b := min (n + x.links) out) 200 1000 hheavy (by omega)
    conv => whnf
    refine brk_i (fun _ => ?_) (fun h => absurd hi (by simpa using h))
    conv => whnf
    refine elemK_nat hx ?_
    conv => whnf
    refine brk_i (fun h2 => ?_) (fun h2 => ?_)
    · have h2 : n ≥ out := by simpa using h2
      simp only [h2, if_true] at he
      conv => whnf
      rw [he]
      exact RetA_view 0 rfl ⟨⟨rfl, rfl⟩, rfl⟩
    have h2 : ¬ n ≥ out := by simpa using h2
    simp only [h2, if_false] at he
    conv => whnf
    refine arith_in (wrap_i64 (by (try dsimp only); omega)) ?_
    conv => whnf
    refine elemK_nat htx ?_
    conv => whnf
    refine DrawCall_v (fn67 v hbx) rfl rfl ?_
    conv => whnf
    refine arith_in (wrap_i64 (by (try dsimp only); omega)) ?_
    conv => whnf
    refine arith_in (wrap_i64 (by (try dsimp only); omega)) ?_
    conv => whnf
    refine brk_i (fun h3 => ?_) (fun h3 => ?_)
    · have h3 : strongF v < pull + c.chain.heavy * min (n + x.links) out := by simpa using h3
      simp only [h3, if_true] at he
      conv => whnf
      rw [he]
      exact RetA_view 0 rfl ⟨⟨rfl, rfl⟩, rfl⟩
    · have h3 : ¬ strongF v < pull + c.chain.heavy * min (n + x.links) out := by simpa using h3
      simp only [h3, if_false] at he
      conv => whnf
      refine arith_in (wrap_i64 (by (try dsimp only); omega)) ?_
      conv => whnf
      exact ⟨n + x.links, ⟨by omega, fun s hs => hm s (by simp [hs]), he⟩, (Wk.sub ⟨(by first | rfl | (simp only [List.length_map]; rfl) | simp [PX.get]), (by first | rfl | (simp only [List.length_map]; rfl) | simp [PX.get]), (by first | rfl | (simp only [List.length_map]; rfl) | simp [PX.get]), (by first | rfl | (simp only [List.length_map]; rfl) | simp [PX.get]), (by first | rfl | (simp only [List.length_map]; rfl) | simp [PX.get]), (by first | rfl | (simp only [List.length_map]; rfl) | simp [PX.get]), (by first | rfl | (simp only [List.length_map]; rfl) | simp [PX.get]), (by first | rfl | (simp only [List.length_map]; rfl) | simp [PX.get]), trivial⟩ ⟨(by first | rfl | (simp only [List.length_map]; rfl) | simp [PX.get]), trivial⟩)⟩
  · rintro n ⟨_, _, he⟩
    rw [show ∀ ts n i, judgeL c.chain.heavy pull out [] ts n i = (0, 0) from fun ts n i => by cases ts <;> rfl] at he
    conv => whnf
    refine brk_i (fun h => absurd h (by simp)) (fun _ => ?_)
    conv => whnf
    rw [he]
    exact RetA_view 0 rfl ⟨⟨rfl, rfl⟩, rfl⟩

/-- The truth at the worst in a weather is a truth that can be judged. -/
theorem worst_ok {c : Case} {th : List Span} (h : MoorOk c th) {w : Weather} (hw : w ∈ c.weathers) : ForceOk c.ship (worstT c th w) := by
  obtain ⟨hd, hwi, hcu, hsw⟩ := h.case.weathers w hw
  obtain ⟨s1, s2, s3, s4⟩ := h.case.ship
  have hh := h.case.hold
  exact ⟨s1, s2, s3, s4, by simp only [worstT]; omega, by simp only [worstT]; omega, by simp only [worstT]; omega, by simp only [worstT]; omega, by simp only [worstT]; omega⟩

def judgeW (c : Case) (th : List Span) (out : Int) (w : Weather) : Int × Int := judgeF c (worstT c th w) out

/-- The first weather in which the mooring does not hold. -/
def breakL (c : Case) (th : List Span) (out : Int) : List Weather → Int → Int × Int × Int
  | [], _ => (0, 0, 0)
  | w :: r, i => if (judgeW c th out w).1 ≠ 0 then ((judgeW c th out w).1, i, (judgeW c th out w).2) else breakL c th out r (i + 1)
def breakF (c : Case) (th : List Span) (out : Int) : Int × Int × Int := breakL c th out c.weathers 0

theorem fn81w (c : Case) (th : List Span) (fr : List (D × D)) (w : Weather) (out : Int) (h : MoorOk c th) (hw : w ∈ c.weathers) (ho : 0 ≤ out ∧ out ≤ 1000) :
    FnV Tryz.prog 33 [mD c th fr, (worstT c th w).d, i64 out] (.tup [i64 (judgeW c th out w).1, i64 (judgeW c th out w).2]) :=
  fn81 c th fr (worstT c th w) out h.case (worst_ok h hw) ho (by simp [worstT, h.len]) (by
    intro n hn
    simp only [worstT, List.mem_map] at hn
    obtain ⟨s, hs, rfl⟩ := hn
    have := (h.th s hs).1
    exact ⟨by omega, by omega⟩)

theorem fn74 (c : Case) (th : List Span) (fr : List (D × D)) (out : Int) (h : MoorOk c th) (ho : 0 ≤ out ∧ out ≤ 1000) :
    FnV Tryz.prog 29 [mD c th fr, i64 out] (tri (breakF c th out)) := by
  refine fnV_of mixed tysOk Tryz.func29 rfl (ft := ft29) 2 (by decide +kernel) (by rfl) fun {σ} Y st => ?_
  conv => whnf
  have hwl := h.case.wlen
  have hsl := h.case.lens
  have htl := h.len
  refine LoopA_i (T := tys) tysOk (by exact drawsB_spec mixed tysOk (by decide +kernel)) c.weathers (fun i (_ : Unit) => ⟨[(0, .d (mD c th fr)), (1, .d (i64 out)), (13, .d (weathersD c.weathers)), (14, .d (i64 c.weathers.length)), (15, .d (i64 i))], [], st⟩)
    (fun i r _ => (∀ w ∈ r, w ∈ c.weathers) ∧ breakF c th out = breakL c th out r i) ()
    (Wk.sub ⟨(by first | rfl | (simp only [List.length_map]; rfl) | simp [PX.get]), (by first | rfl | (simp only [List.length_map]; rfl) | simp [PX.get]), (by first | rfl | (simp only [List.length_map]; rfl) | simp [PX.get]), (by first | rfl | (simp only [List.length_map]; rfl) | simp [PX.get]), (by first | rfl | (simp only [List.length_map]; rfl) | simp [PX.get]), trivial⟩ trivial) ⟨fun _ h => h, rfl⟩ ?_ ?_
  · intro i x r _ hx hi hr ⟨hm, he⟩
    have hxm := hm x (by simp)
    rw [breakL] at he
    conv => whnf
    refine brk_i (fun _ => ?_) (fun h => absurd hi (by simpa using h))
    conv => whnf
    refine elemK_nat hx ?_
    conv => whnf
    refine CallA_v (ds := [mD c th fr, x.d]) (fn80 c th fr x (by omega)) rfl rfl ?_
    conv => whnf
    refine CallA_v (ds := [mD c th fr, (worstT c th x).d, i64 out]) (fn81w c th fr x out h hxm ho) rfl rfl ?_
    conv => whnf
    refine brk_i (fun h2 => ?_) (fun h2 => ?_)
    · have h2 : (judgeW c th out x).1 ≠ 0 := by simpa using h2
      rw [if_pos h2] at he
      conv => whnf
      rw [he]
      exact RetA_view 0 rfl ⟨⟨rfl, rfl⟩, rfl⟩
    · have h2 : ¬ (judgeW c th out x).1 ≠ 0 := by simpa using h2
      rw [if_neg h2] at he
      conv => whnf
      refine arith_in (wrap_i64 (by (try dsimp only); omega)) ?_
      conv => whnf
      exact ⟨(), ⟨fun s hs => hm s (by simp [hs]), he⟩, (Wk.sub ⟨(by first | rfl | (simp only [List.length_map]; rfl) | simp [PX.get]), (by first | rfl | (simp only [List.length_map]; rfl) | simp [PX.get]), (by first | rfl | (simp only [List.length_map]; rfl) | simp [PX.get]), (by first | rfl | (simp only [List.length_map]; rfl) | simp [PX.get]), (by first | rfl | (simp only [List.length_map]; rfl) | simp [PX.get]), trivial⟩ trivial)⟩
  · rintro _ ⟨_, he⟩
    rw [breakL] at he
    conv => whnf
    refine brk_i (fun h => absurd h (by simp)) (fun _ => ?_)
    conv => whnf
    rw [he]
    exact RetA_view 0 rfl ⟨⟨rfl, rfl⟩, rfl⟩
end Go.PX

namespace Go.PX
open Go.Proofs

theorem fn51_nil (lo hi : Int) : FnV Tryz.prog 37 [i64 lo, i64 hi, .nils] (.bool false) := by
  refine fnV_of mixed tysOk Tryz.func37 rfl (ft := ft37) 3 (by decide +kernel) (by rfl) fun {σ} Y st => ?_
  conv => whnf
  refine CallA_nil0 ?_
  refine CallA_view (fn86 [] 69 [.ref [i64 lo], .ref [i64 hi]] (fun n => decide (n < lo) || decide (n > hi)) (by simp) (fun x _ => fn87 x lo hi)) rfl 1 rfl ?_
  conv => whnf
  exact RetA_view 0 rfl ⟨⟨rfl, rfl⟩, rfl⟩

/-- The error with which a case, a length and places are refused. -/
def goE (c : Case) (out : Int) (bad : Bool) : Int :=
  if (checkC c).2.2 ≠ 0 then (checkC c).2.2 else if bad then 4 else if inB out 1 (linksF c.chain.shots) then 0 else 7

theorem links_bd {c : Case} (h : CaseR c) : ∀ s ∈ c.chain.shots, bd s.links := fun s hs => by
  have := (h.shots s hs).1.links
  exact ⟨by omega, by omega⟩

theorem linksF_in : ∀ {l : List Shot}, (∀ s ∈ l, 1 ≤ s.links ∧ s.links ≤ 40) → (l.length : Int) ≤ linksF l ∧ linksF l ≤ 40 * l.length
  | [], _ => by simp [linksF]
  | s :: r, h => by
    have h1 := h s (by simp)
    have h2 := linksF_in (l := r) fun x hx => h x (by simp [hx])
    simp only [linksF, List.length_cons]
    omega

theorem links_ok {c : Case} (h : CaseR c) : 1 ≤ linksF c.chain.shots ∧ linksF c.chain.shots ≤ 280 := by
  have h1 := linksF_in fun s hs => (h.shots s hs).1.links
  have h2 := h.lens
  omega

theorem goE_zero {c : Case} {out : Int} {bad : Bool} (h : goE c out bad = 0) : CaseR c ∧ bad = false ∧ 1 ≤ out ∧ out ≤ linksF c.chain.shots ∧ out ≤ 1000 := by
  unfold goE at h
  split at h
  · rename_i h1; exact absurd h h1
  · rename_i h1
    have hR := case_ok (c := c) (by simpa using h1)
    have hl := links_ok hR
    split at h
    · cases h
    · rename_i h2
      split at h
      · rename_i h3
        rw [inB_iff] at h3
        exact ⟨hR, by simpa using h2, by omega, by omega, by omega⟩
      · cases h

theorem fn72 (c : Case) (out : Int) (d : D) (bad : Bool) (hd : FnV Tryz.prog 37 [i64 0, i64 ((c.weathers.length : Int) - 1), d] (.bool bad)) :
    FnV Tryz.prog 23 [c.d, i64 out, d] (i64 (goE c out bad)) := by
  refine fnV_of mixed tysOk Tryz.func23 rfl (ft := ft23) 3 (by decide +kernel) (by rfl) fun {σ} Y st => ?_
  conv => whnf
  refine CallA_v (fn13 c) rfl rfl ?_
  conv => whnf
  unfold goE
  by_cases h0 : (checkC c).2.2 = 0
  · have hR := case_ok h0
    have hw := hR.wlen
    rw [h0]
    conv => whnf
    refine arith_to ((c.weathers.length : Int) - 1) (by simp) (wrap_i64 (by omega)) ?_
    conv => whnf
    refine CallA_v (ds := [i64 0, i64 ((c.weathers.length : Int) - 1), d]) hd rfl rfl ?_
    conv => whnf
    cases bad with
    | true =>
      conv => whnf
      rw [if_neg (by simpa using h0), if_pos rfl]
      exact RetA_view 0 rfl ⟨⟨rfl, rfl⟩, rfl⟩
    | false =>
      have hk := links_bd hR
      rw [if_neg (by simpa using h0), if_neg (by simp)]
      conv => whnf
      refine CallA_v (fn84 c.chain (by have := hR.lens; omega) hk) rfl rfl ?_
      conv => whnf
      refine CallA_view (fn51_1 1 (linksF c.chain.shots) out) rfl 1 rfl ?_
      conv => whnf
      refine brk_i (fun h3 => ?_) (fun h3 => ?_)
      · have h3 : inB out 1 (linksF c.chain.shots) = false := by simpa using h3
        conv => whnf
        rw [if_neg (by simp [h3])]
        exact RetA_view 0 rfl ⟨⟨rfl, rfl⟩, rfl⟩
      · have h3 : inB out 1 (linksF c.chain.shots) = true := by simpa using h3
        conv => whnf
        rw [if_pos h3]
        exact RetA_view 0 rfl ⟨⟨rfl, rfl⟩, rfl⟩
  · conv => whnf
    refine brk_i (fun _ => ?_) (fun h => absurd h (by simpa using h0))
    conv => whnf
    rw [if_pos (by simpa using h0)]
    exact RetA_view 0 rfl ⟨⟨rfl, rfl⟩, rfl⟩
end Go.PX

namespace Go.PX
open Go.Proofs

theorem RepDL.nilAt {F : Nat → Nat} {w : World} {B : List D} : ∀ {A : List D} {l : List Value}, RepDL F w (A ++ .nils :: B) l → RepDL F w (A ++ .vs [] :: B) l
  | [], l, h => by
    obtain ⟨x, l', rfl, hx, hr⟩ := h
    have hx : x = .slice none 0 0 := hx
    subst hx
    exact ⟨_, l', rfl, ⟨none, 0, 0, rfl, rfl, Nat.le_refl _, fun h => absurd rfl h⟩, hr⟩
  | a :: A, l, h => by
    obtain ⟨x, l', rfl, hx, hr⟩ := h
    exact ⟨x, l', rfl, hx, RepDL.nilAt hr⟩

/-- A struct with a nil slice is passed as one with an empty list. -/
theorem CallA_nilAt {P : Program} {σ : Type} {Y : Hd σ} {st : St σ} {d : Option Nat} {f : FuncId} (A B : List D) {l : List D} {r : List V} {K : St σ → Prop} (hl : l = A ++ .nils :: B) (hc : CallA P Y st d f (.d (.agg (A ++ .vs [] :: B)) :: r) K) : CallA P Y st d f (.d (.agg l) :: r) K := by
  subst hl
  refine CallA_re (fun yv L F w l hv => ?_) hc
  obtain ⟨x, l', rfl, hx, hr⟩ := hv
  obtain ⟨a, rfl, ha⟩ := hx
  exact ⟨_, l', rfl, ⟨a, rfl, RepDL.nilAt ha⟩, hr⟩

def badAt (c : Case) (i : Int) : Bool := !inB i 0 ((c.weathers.length : Int) - 1)

def pullT (w : Weather) : Truth := ⟨0, w.wind.hi, w.current.hi, w.swell.hi, 0, []⟩

def pullE (c : Case) (i out : Int) : Int × Int :=
  if goE c out (badAt c i) = 0 then (match c.weathers[i.toNat]? with
    | some w => (pullF c.ship (pullT w) out, 0)
    | none => (0, 0)) else (0, goE c out (badAt c i))

theorem badAt_ok {c : Case} {i : Int} (h : badAt c i = false) : ∃ w, 0 ≤ i ∧ c.weathers[i.toNat]? = some w ∧ w ∈ c.weathers := by
  have h : inB i 0 ((c.weathers.length : Int) - 1) = true := by simpa [badAt] using h
  rw [inB_iff] at h
  have hl : i.toNat < c.weathers.length := by omega
  exact ⟨c.weathers[i.toNat], h.1, List.getElem?_eq_getElem hl, List.getElem_mem hl⟩

theorem pull_ok {c : Case} (h : CaseR c) {w : Weather} (hw : w ∈ c.weathers) : ForceOk c.ship (pullT w) := by
  obtain ⟨hd, hwi, hcu, hsw⟩ := h.weathers w hw
  obtain ⟨s1, s2, s3, s4⟩ := h.ship
  exact ⟨s1, s2, s3, s4, by simp only [pullT]; omega, by simp only [pullT]; omega, by simp only [pullT]; omega, by simp only [pullT]; omega, by simp only [pullT]; omega⟩

theorem fn24 (c : Case) (i out : Int) : FnV Tryz.prog 5 [c.d, i64 i, i64 out] (.tup [i64 (pullE c i out).1, i64 (pullE c i out).2]) := by
  refine fnV_of mixed tysOk Tryz.func5 rfl (ft := ft5) 3 (by decide +kernel) (by rfl) fun {σ} Y st => ?_
  conv => whnf
  refine CallA_view (fn72 c out (.vs [[i64 i]]) (badAt c i) (fn51_1 0 ((c.weathers.length : Int) - 1) i)) rfl 1 rfl ?_
  conv => whnf
  by_cases h0 : goE c out (badAt c i) = 0
  · obtain ⟨hR, hb, ho⟩ := goE_zero h0
    obtain ⟨w, hi, hw, hm⟩ := badAt_ok hb
    have hE : pullE c i out = (pullF c.ship (pullT w) out, 0) := by simp [pullE, h0, hw]
    rw [hE, h0]
    conv => whnf
    refine elemK_i w.cells ⟨hi, by rw [List.getElem?_map, hw]; rfl⟩ ?_
    conv => whnf
    refine CallA_nilAt (c.ship.cells ++ [i64 0, i64 w.wind.hi, i64 w.current.hi, i64 w.swell.hi, i64 0]) [] rfl ?_
    refine CallA_v (ds := [forceD c.ship (pullT w), i64 out]) (fn73 c.ship (pullT w) out (pull_ok hR hm) (by omega)) rfl rfl ?_
    conv => whnf
    exact RetA_view 0 rfl ⟨⟨rfl, rfl⟩, rfl⟩
  · have hE : pullE c i out = (0, goE c out (badAt c i)) := by simp [pullE, h0]
    rw [hE]
    conv => whnf
    refine brk_i (fun _ => ?_) (fun h => absurd h (by simpa using h0))
    conv => whnf
    exact RetA_view 0 rfl ⟨⟨rfl, rfl⟩, rfl⟩

theorem moor_ok {c : Case} (h : CaseR c) : MoorOk c (thickL c) := by
  refine ⟨h, by simp [thickL], fun s hs => ?_⟩
  simp only [thickL, List.mem_map] at hs
  obtain ⟨x, hx, rfl⟩ := hs
  exact rangeS_bd (h.look hx) (h.shots x hx).2

def whyE (c : Case) (out : Int) : (Int × Int × Int) × Int :=
  if lookE c (goE c out false) = 0 then (breakF c (thickL c) out, 0) else ((0, 0, 0), lookE c (goE c out false))

theorem lookE_ne {c : Case} {e : Int} (h : lookE c e ≠ 0) : (e = 0 ∧ soundE c ≠ 0 ∧ lookE c e = soundE c) ∨ (e ≠ 0 ∧ lookE c e = e) := by
  unfold lookE at *
  split
  · rename_i h0; left; rw [if_pos h0] at h; exact ⟨h0, h, rfl⟩
  · rename_i h0; right; exact ⟨h0, rfl⟩

/-- What a look at a case's shots gives. -/
def lookD (c : Case) (e : Int) : D := if lookE c e = 0 then moorD c else .nilp

theorem fn66' (c : Case) (e : Int) (hc : e = 0 → CaseR c) : FnV Tryz.prog 28 [c.d, i64 e] (.tup [lookD c e, i64 (lookE c e)]) := by
  refine FnV.cast (fn66 c e hc) ?_
  unfold lookD lookE
  by_cases h : e = 0
  · simp [h]
  · simp [h]

theorem fn25 (c : Case) (out : Int) : FnV Tryz.prog 7 [c.d, i64 out] (.tup [i64 (whyE c out).1.1, i64 (whyE c out).1.2.1, i64 (whyE c out).1.2.2, i64 (whyE c out).2]) := by
  refine fnV_of mixed tysOk Tryz.func7 rfl (ft := ft7) 2 (by decide +kernel) (by rfl) fun {σ} Y st => ?_
  conv => whnf
  refine DrawCall_v (ds := [c.d, i64 out, .nils]) (fn72 c out .nils false (fn51_nil 0 _)) rfl rfl ?_
  conv => whnf
  refine DrawCall_v (ds := [c.d, i64 (goE c out false)]) (fn66' c (goE c out false) (fun h => (goE_zero h).1)) rfl rfl ?_
  unfold lookD
  by_cases h1 : lookE c (goE c out false) = 0
  · obtain ⟨h0, hs⟩ := lookE_zero h1
    obtain ⟨hR, _, ho⟩ := goE_zero h0
    have hE : whyE c out = (breakF c (thickL c) out, 0) := by simp [whyE, h1]
    rw [hE, if_pos h1, h1]
    conv => whnf
    refine CallA_v (ds := [mD c (thickL c) (freshM c.chain.shots 0), i64 out]) (fn74 c (thickL c) (freshM c.chain.shots 0) out (moor_ok hR) (by omega)) rfl rfl ?_
    conv => whnf
    exact RetA_view 0 rfl ⟨⟨rfl, rfl⟩, rfl⟩
  · have hE : whyE c out = ((0, 0, 0), lookE c (goE c out false)) := by simp [whyE, h1]
    rw [hE, if_neg h1]
    conv => whnf
    refine brk_i (fun _ => ?_) (fun h => absurd h (by simpa using h1))
    conv => whnf
    exact RetA_view 0 rfl ⟨⟨rfl, rfl⟩, rfl⟩
end Go.PX

namespace Go.PX
open Go.Proofs

def noTruth : D := .agg [i64 0, i64 0, i64 0, i64 0, i64 0, .nils]

def showE (c : Case) (i out : Int) : D × (Int × Int) × Int :=
  if lookE c (goE c out (badAt c i)) = 0 then (match c.weathers[i.toNat]? with
    | some w => ((worstT c (thickL c) w).d, judgeW c (thickL c) out w, 0)
    | none => (noTruth, (0, 0), 0)) else (noTruth, (0, 0), lookE c (goE c out (badAt c i)))

theorem fn35 (c : Case) (i out : Int) : FnV Tryz.prog 9 [c.d, i64 i, i64 out] (.tup [(showE c i out).1, i64 (showE c i out).2.1.1, i64 (showE c i out).2.1.2, i64 (showE c i out).2.2]) := by
  refine fnV_of mixed tysOk Tryz.func9 rfl (ft := ft9) 3 (by decide +kernel) (by rfl) fun {σ} Y st => ?_
  conv => whnf
  refine DrawCall_view (fn72 c out (.vs [[i64 i]]) (badAt c i) (fn51_1 0 ((c.weathers.length : Int) - 1) i)) rfl 1 rfl ?_
  conv => whnf
  refine DrawCall_v (ds := [c.d, i64 (goE c out (badAt c i))]) (fn66' c (goE c out (badAt c i)) (fun h => (goE_zero h).1)) rfl rfl ?_
  unfold lookD
  by_cases h1 : lookE c (goE c out (badAt c i)) = 0
  · obtain ⟨h0, hs⟩ := lookE_zero h1
    obtain ⟨hR, hb, ho⟩ := goE_zero h0
    obtain ⟨w, hi, hw, hm⟩ := badAt_ok hb
    have hM := moor_ok hR
    have hlen : (thickL c).length < 1000000 := by have := hR.lens; rw [hM.len]; omega
    have hE : showE c i out = ((worstT c (thickL c) w).d, judgeW c (thickL c) out w, 0) := by simp [showE, h1, hw]
    rw [hE, if_pos h1, h1]
    conv => whnf
    refine elemK_i w.cells ⟨hi, by rw [List.getElem?_map, hw]; rfl⟩ ?_
    conv => whnf
    refine CallA_v (ds := [mD c (thickL c) (freshM c.chain.shots 0), w.d]) (fn80 c (thickL c) (freshM c.chain.shots 0) w hlen) rfl rfl ?_
    conv => whnf
    refine CallA_v (ds := [mD c (thickL c) (freshM c.chain.shots 0), (worstT c (thickL c) w).d, i64 out]) (fn81w c (thickL c) (freshM c.chain.shots 0) w out hM hm (by omega)) rfl rfl ?_
    conv => whnf
    exact RetA_view 0 rfl ⟨⟨rfl, rfl⟩, rfl⟩
  · have hE : showE c i out = (noTruth, (0, 0), lookE c (goE c out (badAt c i))) := by simp [showE, h1]
    rw [hE, if_neg h1]
    conv => whnf
    refine brk_i (fun _ => ?_) (fun h => absurd h (by simpa using h1))
    conv => whnf
    exact RetA_view 0 rfl ⟨⟨rfl, rfl⟩, rfl⟩

def bandsL (c : Case) (w : Weather) : List Span := [w.depth, w.wind, w.current, w.swell, c.chain.hold] ++ thickL c
def valsL (t : Truth) : List Int := [t.depth, t.wind, t.current, t.swell, t.hold] ++ t.thick

/-- Is a value outside its band? -/
def outL : List Span → List Int → Bool
  | s :: r, n :: l => !inB n s.lo s.hi || outL r l
  | _, _ => false

def inE (c : Case) (i out : Int) (t : Truth) : (Int × Int) × Int :=
  if lookE c (goE c out (badAt c i)) = 0 then (
    if t.thick.length = c.chain.shots.length then (match c.weathers[i.toNat]? with
    | some w => if outL (bandsL c w) (valsL t) then ((0, 0), 7) else (judgeF c t out, 0)
    | none => ((0, 0), 0)) else ((0, 0), 3)) else ((0, 0), lookE c (goE c out (badAt c i)))

theorem outL_mem : ∀ {l : List Span} {ts : List Int}, l.length = ts.length → outL l ts = false → ∀ n ∈ ts, ∃ s ∈ l, s.lo ≤ n ∧ n ≤ s.hi
  | [], [], _, _, n, hn => by cases hn
  | s :: l, m :: ts, hl, ho, n, hn => by
    simp only [outL, Bool.or_eq_false_iff, Bool.not_eq_false', inB_iff] at ho
    simp only [List.mem_cons] at hn
    rcases hn with rfl | hn
    · exact ⟨s, by simp, ho.1⟩
    · obtain ⟨s', h1, h2⟩ := outL_mem (by simpa using hl) ho.2 n hn
      exact ⟨s', by simp [h1], h2⟩

theorem bands_ok {c : Case} (h : CaseR c) {w : Weather} (hw : w ∈ c.weathers) {t : Truth} (hl : t.thick.length = c.chain.shots.length) (ho : outL (bandsL c w) (valsL t) = false) : ForceOk c.ship t ∧ ∀ n ∈ t.thick, bd n := by
  obtain ⟨hd, hwi, hcu, hsw⟩ := h.weathers w hw
  obtain ⟨s1, s2, s3, s4⟩ := h.ship
  have hh := h.hold
  simp only [bandsL, valsL, List.cons_append, List.nil_append, outL, Bool.or_eq_false_iff, Bool.not_eq_false', inB_iff] at ho
  obtain ⟨o1, o2, o3, o4, o5, o6⟩ := ho
  refine ⟨⟨s1, s2, s3, s4, by omega, by omega, by omega, by omega, by omega⟩, fun n hn => ?_⟩
  obtain ⟨s, hs, hn⟩ := outL_mem (by simp [thickL, hl]) o6 n hn
  have := (moor_ok h).th s hs
  exact ⟨by omega, by omega⟩

theorem fn39 (c : Case) (i out : Int) (t : Truth) : FnV Tryz.prog 12 [c.d, i64 i, i64 out, t.d] (.tup [i64 (inE c i out t).1.1, i64 (inE c i out t).1.2, i64 (inE c i out t).2]) := by
  refine fnV_of mixed tysOk Tryz.func12 rfl (ft := ft12) 4 (by decide +kernel) (by rfl) fun {σ} Y st => ?_
  conv => whnf
  refine DrawCall_view (fn72 c out (.vs [[i64 i]]) (badAt c i) (fn51_1 0 ((c.weathers.length : Int) - 1) i)) rfl 1 rfl ?_
  conv => whnf
  refine DrawCall_v (ds := [c.d, i64 (goE c out (badAt c i))]) (fn66' c (goE c out (badAt c i)) (fun h => (goE_zero h).1)) rfl rfl ?_
  unfold lookD
  by_cases h1 : lookE c (goE c out (badAt c i)) = 0
  · obtain ⟨h0, hs⟩ := lookE_zero h1
    obtain ⟨hR, hb, ho⟩ := goE_zero h0
    obtain ⟨w, hi, hw, hm⟩ := badAt_ok hb
    have hM := moor_ok hR
    have hlen : (thickL c).length < 1000000 := by have := hR.lens; rw [hM.len]; omega
    rw [if_pos h1]
    by_cases h2 : t.thick.length = c.chain.shots.length
    · have hE : inE c i out t = if outL (bandsL c w) (valsL t) then ((0, 0), 7) else (judgeF c t out, 0) := by simp [inE, h1, h2, hw]
      rw [hE, h1]
      conv => whnf
      refine brk_i (fun h => absurd h (by simp [h2])) (fun _ => ?_)
      conv => whnf
      refine elemK_i w.cells ⟨hi, by rw [List.getElem?_map, hw]; rfl⟩ ?_
      conv => whnf
      have hk : ∀ n, n = 2 → Els.ok n (.dd ((thickL c).map Span.cells)) = true := fun n hn => by
        subst hn
        exact lenAllD_map (fun x => ⟨rfl, rfl⟩) (thickL c)
      refine ownK.mk rfl ?_
      conv => whnf
      rw [hk]
      rotate_left
      · rfl
      conv => whnf
      refine chk_i (decide_eq_true (show (5 + ((thickL c).map Span.cells).length) * 16 ≤ 140737488355328 by simp; omega)) ?_
      conv => whnf
      have hk2 : ∀ n, n = 1 → Els.ok n (.dd (t.thick.map fun n => [i64 n])) = true := fun n hn => by
        subst hn
        exact lenAllD_map (fun x => ⟨rfl, rfl⟩) t.thick
      refine ownK.mk rfl ?_
      conv => whnf
      rw [hk2]
      rotate_left
      · rfl
      conv => whnf
      have hb1 : some (V.sl 60 2 0 (5 + ((thickL c).map Span.cells).length)) = some (V.sl 60 2 0 (bandsL c w).length) := by simp [bandsL]; omega
      have hb2 : some (V.sl 74 1 0 (5 + (t.thick.map fun n => [i64 n]).length)) = some (V.sl 74 1 0 (valsL t).length) := by simp [valsL]; omega
      have hb3 : some (V.d (i64 ((5 + (t.thick.map fun n => [i64 n]).length : Nat) : Int))) = some (V.d (i64 (valsL t).length)) := by simp [valsL]; omega
      have htk : t.thick.length ≤ 7 := by have := hR.lens; omega
      refine chk_i (decide_eq_true (show (5 + (t.thick.map fun n => [i64 n]).length) * 8 ≤ 140737488355328 by simp; omega)) ?_
      conv => whnf
      refine LoopA_i (T := tys) tysOk (by exact drawsB_spec mixed tysOk (by decide +kernel)) (valsL t) (fun i (_ : Unit) => ⟨[(2, .d (i64 out)), (7, .ptr 7 0), (11, .d (mD c (thickL c) (freshM c.chain.shots 0))), (13, .sl 60 2 0 (bandsL c w).length), (74, .sl 74 1 0 (valsL t).length), (75, .d (i64 (valsL t).length)), (76, .d (i64 i))],
          [(7, .box (.dd t.cells)), (60, .arr 2 (.dd ((bandsL c w).map Span.cells))), (74, .arr 1 (.dd ((valsL t).map fun n => [i64 n])))], st⟩)
        (fun i r _ => outL (bandsL c w) (valsL t) = outL ((bandsL c w).drop i) r) ()
        (Wk.sub ⟨rfl, rfl, rfl, hb1, hb2, hb3, rfl, trivial⟩ ⟨rfl, rfl, rfl, trivial⟩) rfl ?_ ?_
      · intro i x r _ hx hi hr he
        have hbl : (bandsL c w).length = (valsL t).length := by simp [bandsL, valsL, thickL, h2]
        have hib : i < (bandsL c w).length := by omega
        have hbx : (bandsL c w)[i]? = some (bandsL c w)[i] := List.getElem?_eq_getElem hib
        have hvl : (valsL t).length ≤ 12 := by simp [valsL]; omega
        rw [List.drop_eq_getElem_cons hib, outL] at he
        generalize (bandsL c w)[i] = b at *
        conv => whnf
        refine brk_i (fun _ => ?_) (fun h => absurd hi (by simpa using h))
        conv => whnf
        refine chk_i (by simp; omega) ?_
        conv => whnf
        refine cellK_i [i64 x] (by simp [hx]) ?_
        conv => whnf
        refine chk_i (by simp; omega) ?_
        conv => whnf
        refine cellK_i b.cells (by simp [hbx]) ?_
        conv => whnf
        refine chk_i (by simp; omega) ?_
        conv => whnf
        refine cellK_i b.cells (by simp [hbx]) ?_
        conv => whnf
        refine DrawCall_view (fn51_1 b.lo b.hi x) rfl 1 rfl ?_
        conv => whnf
        refine brk_i (fun h3 => ?_) (fun h3 => ?_)
        · have h3 : inB x b.lo b.hi = false := by simpa using h3
          simp only [h3, Bool.not_false, Bool.true_or] at he
          conv => whnf
          rw [if_pos he]
          exact RetA_view 0 rfl ⟨⟨rfl, rfl⟩, rfl⟩
        · have h3 : inB x b.lo b.hi = true := by simpa using h3
          simp only [h3, Bool.not_true, Bool.false_or] at he
          conv => whnf
          refine arith_in (wrap_i64 (by (try dsimp only); omega)) ?_
          conv => whnf
          exact ⟨(), he, (Wk.sub ⟨(by first | rfl | (simp only [List.length_map]; rfl) | simp [PX.get]), (by first | rfl | (simp only [List.length_map]; rfl) | simp [PX.get]), (by first | rfl | (simp only [List.length_map]; rfl) | simp [PX.get]), (by first | rfl | (simp only [List.length_map]; rfl) | simp [PX.get]), (by first | rfl | (simp only [List.length_map]; rfl) | simp [PX.get]), (by first | rfl | (simp only [List.length_map]; rfl) | simp [PX.get]), (by first | rfl | (simp only [List.length_map]; rfl) | simp [PX.get]), trivial⟩ ⟨(by first | rfl | (simp only [List.length_map]; rfl) | simp [PX.get]), (by first | rfl | (simp only [List.length_map]; rfl) | simp [PX.get]), (by first | rfl | (simp only [List.length_map]; rfl) | simp [PX.get]), trivial⟩)⟩
      · rintro _ he
        have he : outL (bandsL c w) (valsL t) = false := by rw [he]; cases (bandsL c w).drop (valsL t).length <;> rfl
        obtain ⟨hF, hbd⟩ := bands_ok hR hm h2 he
        rw [if_neg (by simp [he])]
        conv => whnf
        refine brk_i (fun h => absurd h (by simp)) (fun _ => ?_)
        conv => whnf
        refine CallA_v (ds := [mD c (thickL c) (freshM c.chain.shots 0), t.d, i64 out]) (fn81 c (thickL c) (freshM c.chain.shots 0) t out hR hF (by omega) h2 hbd) rfl rfl ?_
        conv => whnf
        exact RetA_view 0 rfl ⟨⟨rfl, rfl⟩, rfl⟩
    · have hE : inE c i out t = ((0, 0), 3) := by simp [inE, h1, h2]
      rw [hE, h1]
      conv => whnf
      refine brk_i (fun _ => ?_) (fun h => absurd h (by simp; omega))
      conv => whnf
      exact RetA_view 0 rfl ⟨⟨rfl, rfl⟩, rfl⟩
  · have hE : inE c i out t = ((0, 0), lookE c (goE c out (badAt c i))) := by simp [inE, h1]
    rw [hE, if_neg h1]
    conv => whnf
    refine brk_i (fun _ => ?_) (fun h => absurd h (by simpa using h1))
    conv => whnf
    exact RetA_view 0 rfl ⟨⟨rfl, rfl⟩, rfl⟩
end Go.PX

namespace Go.PX
open Go.Proofs

/-- Runs of lengths at which the mooring holds: the first n of them. -/
def runL (ok : Int → Bool) (n : Int) : Nat → Int → Int → List Span → List Span
  | 0, _, _, acc => acc
  | r + 1, k, a, acc =>
    if ok k && decide (a = 0) then runL ok n r (k + 1) (k + 1) acc
    else if !ok k && decide (a > 0) then (if ((acc.length : Int) + 1) = n then acc ++ [⟨a, k⟩] else runL ok n r (k + 1) 0 (acc ++ [⟨a, k⟩]))
    else runL ok n r (k + 1) a acc

def holdsAt (c : Case) (th : List Span) (k : Int) : Bool := decide (k < linksF c.chain.shots) && decide ((breakF c th (k + 1)).1 = 0)
def scopesF (c : Case) (th : List Span) (n : Int) : List Span := runL (holdsAt c th) n (linksF c.chain.shots + 1).toNat 0 0 []

theorem fn78 (c : Case) (th : List Span) (fr : List (D × D)) (n : Int) (h : MoorOk c th) : FnV Tryz.prog 46 [mD c th fr, i64 n] (spansD (scopesF c th n)) := by
  refine fnV_of mixed tysOk Tryz.func46 rfl (ft := ft46) 2 (by decide +kernel) (by rfl) fun {σ} Y st => ?_
  conv => whnf
  have hR := h.case
  have hlk := links_ok hR
  refine CallA_v (fn84 c.chain (by have := hR.lens; omega) (links_bd hR)) rfl rfl ?_
  conv => whnf
  refine arith_in (wrap_i64 (by (try dsimp only); omega)) ?_
  conv => whnf
  obtain ⟨lk, hlk'⟩ : ∃ x, x = linksF c.chain.shots := ⟨_, rfl⟩
  rw [← hlk'] at hlk
  rw [← hlk']
  refine LoopA_p (T := tys) tysOk (by exact drawsB_spec mixed tysOk (by decide +kernel)) (α := Int × Int × List Span)
    (fun x => ⟨[(0, .d (mD c th fr)), (1, .d (i64 n)), (4, .sl 56 2 0 x.2.2.length), (5, .d (i64 x.2.1)), (6, .d (i64 lk)), (19, .d (i64 (lk + 1))), (20, .d (i64 x.1))], [(56, .arr 2 (.dd (x.2.2.map Span.cells)))], st⟩)
    (fun x => (0 ≤ x.1 ∧ x.1 ≤ lk + 1) ∧ (0 ≤ x.2.1 ∧ x.2.1 ≤ x.1) ∧ x.2.2.length ≤ x.1.toNat ∧ scopesF c th n = runL (holdsAt c th) n (lk + 1 - x.1).toNat x.1 x.2.1 x.2.2) (fun x => (lk + 1 - x.1).toNat) (0, 0, [])
    ((Wk.born 4 56 2 rfl rfl rfl).trans (Wk.sub ⟨(by first | rfl | (simp only [List.length_map]; rfl) | simp [PX.get]), (by first | rfl | (simp only [List.length_map]; rfl) | simp [PX.get]), (by first | rfl | (simp only [List.length_map]; rfl) | simp [PX.get]), (by first | rfl | (simp only [List.length_map]; rfl) | simp [PX.get]), (by first | rfl | (simp only [List.length_map]; rfl) | simp [PX.get]), (by first | rfl | (simp only [List.length_map]; rfl) | simp [PX.get]), (by first | rfl | (simp only [List.length_map]; rfl) | simp [PX.get]), trivial⟩ ⟨(by first | rfl | (simp only [List.length_map]; rfl) | simp [PX.get]), trivial⟩)) ⟨by simp only; omega, by simp only; omega, by simp, by simp only [scopesF, hlk', Int.sub_zero]⟩ ?_
  rintro ⟨k, a, acc⟩ ⟨hk, ha, hac, he⟩
  simp only at hk ha hac he
  conv => whnf
  refine brk_i (fun hb => ?_) (fun hb => ?_)
  · have hb : k < lk + 1 := by simpa using hb
    have hm : (lk + 1 - k).toNat = (lk + 1 - (k + 1)).toNat + 1 := by omega
    rw [hm, runL] at he
    have done : ∀ a' acc', (0 ≤ a' ∧ a' ≤ k + 1) → acc'.length ≤ (k + 1).toNat → scopesF c th n = runL (holdsAt c th) n (lk + 1 - (k + 1)).toNat (k + 1) a' acc' →
        ((lk + 1 - (k + 1)).toNat < (lk + 1 - k).toNat) ∧ ((0 ≤ k + 1 ∧ k + 1 ≤ lk + 1) ∧ (0 ≤ a' ∧ a' ≤ k + 1) ∧ acc'.length ≤ (k + 1).toNat ∧ scopesF c th n = runL (holdsAt c th) n (lk + 1 - (k + 1)).toNat (k + 1) a' acc') :=
      fun a' acc' h1 h2 h3 => ⟨by omega, ⟨by omega, by omega⟩, h1, h2, h3⟩
    conv => whnf
    refine brk_i (fun h1 => ?_) (fun h1 => ?_)
    · have h1 : k < lk := by simpa using h1
      conv => whnf
      refine arith_in (wrap_i64 (by (try dsimp only); omega)) ?_
      conv => whnf
      refine CallA_v (fn74 c th fr (k + 1) h (by omega)) rfl rfl ?_
      conv => whnf
      by_cases h2 : (breakF c th (k + 1)).1 = 0
      · have hok : holdsAt c th k = true := by simp [holdsAt, h2, ← hlk', h1]
        simp only [hok, Bool.true_and, Bool.not_true, Bool.false_and, Bool.false_eq_true, if_false] at he
        rw [h2]
        conv => whnf
        refine brk_i (fun h3 => ?_) (fun h3 => ?_)
        · have h3 : a = 0 := by simpa using h3
          simp only [h3, decide_true, if_true] at he
          conv => whnf
          refine arith_in (wrap_i64 (by (try dsimp only); omega)) ?_
          conv => whnf
          refine arith_in (wrap_i64 (by (try dsimp only); omega)) ?_
          conv => whnf
          obtain ⟨d1, d2⟩ := done (k + 1) acc (by omega) (by omega) he
          exact ⟨(k + 1, k + 1, acc), d1, d2, (Wk.sub ⟨(by first | rfl | (simp only [List.length_map]; rfl) | simp [PX.get]), (by first | rfl | (simp only [List.length_map]; rfl) | simp [PX.get]), (by first | rfl | (simp only [List.length_map]; rfl) | simp [PX.get]), (by first | rfl | (simp only [List.length_map]; rfl) | simp [PX.get]), (by first | rfl | (simp only [List.length_map]; rfl) | simp [PX.get]), (by first | rfl | (simp only [List.length_map]; rfl) | simp [PX.get]), (by first | rfl | (simp only [List.length_map]; rfl) | simp [PX.get]), trivial⟩ ⟨(by first | rfl | (simp only [List.length_map]; rfl) | simp [PX.get]), trivial⟩)⟩
        · have h3 : ¬ a = 0 := by simpa using h3
          simp only [h3, decide_false, Bool.false_eq_true, if_false] at he
          conv => whnf
          refine arith_in (wrap_i64 (by (try dsimp only); omega)) ?_
          conv => whnf
          obtain ⟨d1, d2⟩ := done a acc (by omega) (by omega) he
          exact ⟨(k + 1, a, acc), d1, d2, (Wk.sub ⟨(by first | rfl | (simp only [List.length_map]; rfl) | simp [PX.get]), (by first | rfl | (simp only [List.length_map]; rfl) | simp [PX.get]), (by first | rfl | (simp only [List.length_map]; rfl) | simp [PX.get]), (by first | rfl | (simp only [List.length_map]; rfl) | simp [PX.get]), (by first | rfl | (simp only [List.length_map]; rfl) | simp [PX.get]), (by first | rfl | (simp only [List.length_map]; rfl) | simp [PX.get]), (by first | rfl | (simp only [List.length_map]; rfl) | simp [PX.get]), trivial⟩ ⟨(by first | rfl | (simp only [List.length_map]; rfl) | simp [PX.get]), trivial⟩)⟩
      · have hok : holdsAt c th k = false := by simp [holdsAt, h2]
        rw [show decide ((breakF c th (k + 1)).1 = 0) = false from decide_eq_false h2]
        simp only [hok, Bool.false_and, Bool.not_false, Bool.true_and, Bool.false_eq_true, if_false] at he
        conv => whnf
        refine brk_i (fun h3 => ?_) (fun h3 => ?_)
        · have h3 : a > 0 := by simpa using h3
          simp only [h3, decide_true, if_true] at he
          conv => whnf
          refine ownK_whole rfl ?_
          conv => whnf
          refine ownK.mk (by simp [Els.len]) ?_
          conv => whnf
          refine chk_i (by simp [Els.len, Els.part, Els.cons, V.cells]; omega) ?_
          conv => whnf
          refine brk_i (fun h4 => ?_) (fun h4 => ?_)
          · have h4 : (acc.length : Int) + 1 = n := by simpa [Els.len, Els.part, Els.cons, V.cells] using h4
            rw [if_pos h4] at he
            conv => whnf
            rw [he]
            refine RetA_view 2 (ds := [spansD (acc ++ [⟨a, k⟩])]) (viewL_cons (viewV_sl' (es' := (acc ++ [Span.mk a k]).map Span.cells) rfl ?_ ?_) rfl) ⟨⟨rfl, rfl⟩, rfl⟩
            · show ((((acc.map Span.cells).drop 0).take acc.length) ++ [Span.cells ⟨a, k⟩]) = _
              rw [List.drop_zero, List.take_of_length_le (by simp)]; simp
            · show ((((acc.map Span.cells).drop 0).take acc.length).length + 1) = _
              rw [List.drop_zero, List.take_of_length_le (by simp)]; simp
          · have h4 : ¬ (acc.length : Int) + 1 = n := by simpa [Els.len, Els.part, Els.cons, V.cells] using h4
            rw [if_neg h4] at he
            conv => whnf
            refine arith_in (wrap_i64 (by (try dsimp only); omega)) ?_
            conv => whnf
            obtain ⟨d1, d2⟩ := done 0 (acc ++ [⟨a, k⟩]) (by omega) (by simp; omega) he
            refine ⟨(k + 1, 0, acc ++ [⟨a, k⟩]), d1, d2, Wk.sub ⟨rfl, rfl, ?_, rfl, rfl, rfl, rfl, trivial⟩ ⟨?_, trivial⟩⟩
            · show some (V.sl 56 2 0 ((((acc.map Span.cells).drop 0).take acc.length).length + 1)) = _
              rw [List.drop_zero, List.take_of_length_le (by simp)]; simp
            · show some (Obj.arr 2 (.dd ((((acc.map Span.cells).drop 0).take acc.length) ++ [Span.cells ⟨a, k⟩]))) = _
              rw [List.drop_zero, List.take_of_length_le (by simp)]; simp
        · have h3 : ¬ a > 0 := by simpa using h3
          simp only [h3, decide_false, Bool.false_eq_true, if_false] at he
          conv => whnf
          refine arith_in (wrap_i64 (by (try dsimp only); omega)) ?_
          conv => whnf
          obtain ⟨d1, d2⟩ := done a acc (by omega) (by omega) he
          exact ⟨(k + 1, a, acc), d1, d2, (Wk.sub ⟨(by first | rfl | (simp only [List.length_map]; rfl) | simp [PX.get]), (by first | rfl | (simp only [List.length_map]; rfl) | simp [PX.get]), (by first | rfl | (simp only [List.length_map]; rfl) | simp [PX.get]), (by first | rfl | (simp only [List.length_map]; rfl) | simp [PX.get]), (by first | rfl | (simp only [List.length_map]; rfl) | simp [PX.get]), (by first | rfl | (simp only [List.length_map]; rfl) | simp [PX.get]), (by first | rfl | (simp only [List.length_map]; rfl) | simp [PX.get]), trivial⟩ ⟨(by first | rfl | (simp only [List.length_map]; rfl) | simp [PX.get]), trivial⟩)⟩
    · have h1 : ¬ k < lk := by simpa using h1
      have hok : holdsAt c th k = false := by simp [holdsAt, ← hlk', h1]
      simp only [hok, Bool.false_and, Bool.not_false, Bool.true_and, Bool.false_eq_true, if_false] at he
      conv => whnf
      refine brk_i (fun h3 => ?_) (fun h3 => ?_)
      · have h3 : a > 0 := by simpa using h3
        simp only [h3, decide_true, if_true] at he
        conv => whnf
        refine ownK_whole rfl ?_
        conv => whnf
        refine ownK.mk (by simp [Els.len]) ?_
        conv => whnf
        refine chk_i (by simp [Els.len, Els.part, Els.cons, V.cells]; omega) ?_
        conv => whnf
        refine brk_i (fun h4 => ?_) (fun h4 => ?_)
        · have h4 : (acc.length : Int) + 1 = n := by simpa [Els.len, Els.part, Els.cons, V.cells] using h4
          rw [if_pos h4] at he
          conv => whnf
          rw [he]
          refine RetA_view 2 (ds := [spansD (acc ++ [⟨a, k⟩])]) (viewL_cons (viewV_sl' (es' := (acc ++ [Span.mk a k]).map Span.cells) rfl ?_ ?_) rfl) ⟨⟨rfl, rfl⟩, rfl⟩
          · show ((((acc.map Span.cells).drop 0).take acc.length) ++ [Span.cells ⟨a, k⟩]) = _
            rw [List.drop_zero, List.take_of_length_le (by simp)]; simp
          · show ((((acc.map Span.cells).drop 0).take acc.length).length + 1) = _
            rw [List.drop_zero, List.take_of_length_le (by simp)]; simp
        · have h4 : ¬ (acc.length : Int) + 1 = n := by simpa [Els.len, Els.part, Els.cons, V.cells] using h4
          rw [if_neg h4] at he
          conv => whnf
          refine arith_in (wrap_i64 (by (try dsimp only); omega)) ?_
          conv => whnf
          obtain ⟨d1, d2⟩ := done 0 (acc ++ [⟨a, k⟩]) (by omega) (by simp; omega) he
          refine ⟨(k + 1, 0, acc ++ [⟨a, k⟩]), d1, d2, Wk.sub ⟨rfl, rfl, ?_, rfl, rfl, rfl, rfl, trivial⟩ ⟨?_, trivial⟩⟩
          · show some (V.sl 56 2 0 ((((acc.map Span.cells).drop 0).take acc.length).length + 1)) = _
            rw [List.drop_zero, List.take_of_length_le (by simp)]; simp
          · show some (Obj.arr 2 (.dd ((((acc.map Span.cells).drop 0).take acc.length) ++ [Span.cells ⟨a, k⟩]))) = _
            rw [List.drop_zero, List.take_of_length_le (by simp)]; simp
      · have h3 : ¬ a > 0 := by simpa using h3
        simp only [h3, decide_false, Bool.false_eq_true, if_false] at he
        conv => whnf
        refine arith_in (wrap_i64 (by (try dsimp only); omega)) ?_
        conv => whnf
        obtain ⟨d1, d2⟩ := done a acc (by omega) (by omega) he
        exact ⟨(k + 1, a, acc), d1, d2, (Wk.sub ⟨(by first | rfl | (simp only [List.length_map]; rfl) | simp [PX.get]), (by first | rfl | (simp only [List.length_map]; rfl) | simp [PX.get]), (by first | rfl | (simp only [List.length_map]; rfl) | simp [PX.get]), (by first | rfl | (simp only [List.length_map]; rfl) | simp [PX.get]), (by first | rfl | (simp only [List.length_map]; rfl) | simp [PX.get]), (by first | rfl | (simp only [List.length_map]; rfl) | simp [PX.get]), (by first | rfl | (simp only [List.length_map]; rfl) | simp [PX.get]), trivial⟩ ⟨(by first | rfl | (simp only [List.length_map]; rfl) | simp [PX.get]), trivial⟩)⟩
  · have hb : ¬ k < lk + 1 := by simpa using hb
    have hm : (lk + 1 - k).toNat = 0 := by omega
    rw [hm, runL] at he
    conv => whnf
    rw [he]
    exact RetA_view 2 (ds := [spansD acc]) (viewL_cons (viewV_sl rfl (by simp)) rfl) ⟨⟨rfl, rfl⟩, rfl⟩
end Go.PX

namespace Go.PX
open Go.Proofs

def shortE (c : Case) : Int × Int :=
  if lookE c (checkC c).2.2 = 0 then (match scopesF c (thickL c) 1 with
    | [] => (0, 9)
    | s :: _ => (s.lo, 0)) else (0, lookE c (checkC c).2.2)

theorem fn40 (c : Case) : FnV Tryz.prog 18 [c.d] (.tup [i64 (shortE c).1, i64 (shortE c).2]) := by
  refine fnV_of mixed tysOk Tryz.func18 rfl (ft := ft18) 1 (by decide +kernel) (by rfl) fun {σ} Y st => ?_
  conv => whnf
  refine CallA_v (fn13 c) rfl rfl ?_
  conv => whnf
  refine CallA_v (fn66' c (checkC c).2.2 (fun h => case_ok h)) rfl rfl ?_
  conv => whnf
  unfold lookD
  by_cases h1 : lookE c (checkC c).2.2 = 0
  · obtain ⟨h0, hs⟩ := lookE_zero h1
    have hR := case_ok h0
    rw [if_pos h1, h1]
    conv => whnf
    refine CallA_v (ds := [mD c (thickL c) (freshM c.chain.shots 0), i64 1]) (fn78 c (thickL c) (freshM c.chain.shots 0) 1 (moor_ok hR)) rfl rfl ?_
    cases hl : scopesF c (thickL c) 1 with
    | nil =>
      have hE : shortE c = (0, 9) := by simp [shortE, h1, hl]
      rw [hE]
      conv => whnf
      exact RetA_view 0 rfl ⟨⟨rfl, rfl⟩, rfl⟩
    | cons s r =>
      have hE : shortE c = (s.lo, 0) := by simp [shortE, h1, hl]
      rw [hE]
      conv => whnf
      exact RetA_view 0 rfl ⟨⟨rfl, rfl⟩, rfl⟩
  · have hE : shortE c = (0, lookE c (checkC c).2.2) := by simp [shortE, h1]
    rw [hE, if_neg h1]
    conv => whnf
    refine brk_i (fun _ => ?_) (fun h => absurd h (by simpa using h1))
    conv => whnf
    exact RetA_view 0 rfl ⟨⟨rfl, rfl⟩, rfl⟩

def scopesE (c : Case) : List Span × Int :=
  if lookE c (checkC c).2.2 = 0 then (match scopesF c (thickL c) (linksF c.chain.shots) with
    | [] => ([], 9)
    | s :: r => (s :: r, 0)) else ([], lookE c (checkC c).2.2)

theorem fn41 (c : Case) : FnV Tryz.prog 15 [c.d] (.tup [spansD (scopesE c).1, i64 (scopesE c).2]) := by
  refine fnV_of mixed tysOk Tryz.func15 rfl (ft := ft15) 1 (by decide +kernel) (by rfl) fun {σ} Y st => ?_
  conv => whnf
  refine CallA_v (fn13 c) rfl rfl ?_
  conv => whnf
  refine CallA_v (fn66' c (checkC c).2.2 (fun h => case_ok h)) rfl rfl ?_
  conv => whnf
  unfold lookD
  by_cases h1 : lookE c (checkC c).2.2 = 0
  · obtain ⟨h0, hs⟩ := lookE_zero h1
    have hR := case_ok h0
    rw [if_pos h1, h1]
    conv => whnf
    refine CallA_v (fn84 c.chain (by have := hR.lens; omega) (links_bd hR)) rfl rfl ?_
    conv => whnf
    refine CallA_v (ds := [mD c (thickL c) (freshM c.chain.shots 0), i64 (linksF c.chain.shots)]) (fn78 c (thickL c) (freshM c.chain.shots 0) (linksF c.chain.shots) (moor_ok hR)) rfl rfl ?_
    cases hl : scopesF c (thickL c) (linksF c.chain.shots) with
    | nil =>
      have hE : scopesE c = ([], 9) := by simp [scopesE, h1, hl]
      rw [hE]
      conv => whnf
      refine RetA_nil0 ?_
      exact RetA_view 0 rfl ⟨⟨rfl, rfl⟩, rfl⟩
    | cons s r =>
      have hE : scopesE c = (s :: r, 0) := by simp [scopesE, h1, hl]
      rw [hE]
      conv => whnf
      exact RetA_view 0 rfl ⟨⟨rfl, rfl⟩, rfl⟩
  · have hE : scopesE c = ([], lookE c (checkC c).2.2) := by simp [scopesE, h1]
    rw [hE, if_neg h1]
    conv => whnf
    refine brk_i (fun _ => ?_) (fun h => absurd h (by simpa using h1))
    conv => whnf
    refine RetA_nil0 ?_
    exact RetA_view 0 rfl ⟨⟨rfl, rfl⟩, rfl⟩
end Go.PX

namespace Go.PX
open Go.Proofs

/-- What a search does, from a place, with so many numbers to come. -/
def Fill103 (g : FuncId) (caps : List D) (wf : List Int → Bool × Bool) (many left : Nat) : Prop :=
  ∀ (start : Nat) (p : List Int) (x : Bool) (b : Bool), left ≤ many → start ≤ many + 1 → p.length + left ≤ many → (∀ i ∈ p, 0 ≤ i ∧ i < many) → ∀ {σ : Type} (Y : Hd σ) (s : σ),
      FnC Tryz.prog Y 84 (fillArgs start left) (fillH 84 g caps many 1000006 p.length p (.bool x) (.bool b)) s fun v h' s' => s' = s ∧ ∃ (q : List Int) (y : Bool) (b' : Bool), h' = fillH 84 g caps many 2000000 q.length q (.bool y) (.bool b') ∧
        (match fillF wf many left p start with
        | some (q', y') => v = .d (.bool true) ∧ q = q' ∧ y = y' ∧ b' = true
        | none => v = .d (.bool false) ∧ q = p)

/-- What is searched for. -/
def Want103 (g : FuncId) (caps : List D) (wf : List Int → Bool × Bool) (many : Nat) : Prop :=
  ∀ q : List Int, (∀ i ∈ q, 0 ≤ i ∧ i < many) → q.length ≤ many → FnV Tryz.prog g (intsD q :: caps) (.tup [.bool (wf q).1, .bool (wf q).2])

theorem fill103_zero {g : FuncId} {caps : List D} {wf : List Int → Bool × Bool} {many : Nat} (hm : many ≤ 1000) (hw : Want103 g caps wf many) : Fill103 g caps wf many 0 := by
  intro start p x b hl hf hp hin σ Y s
  refine fnC_of mixed tysOk Tryz.func84 rfl (ft := ft84) (args := fillArgs start 0) (show fnB ft84 Tryz.f84 8 = true from by decide +kernel) ?_
  conv => whnf
  have hcl : (intsC p).length = p.length := by simp [intsC]
  refine CallA_view (ds := intsD p :: caps) (hw p hin (by omega)) rfl 1 (viewL_cons (viewV_sl rfl (by simp [intsC])) (viewL_inj caps)) ?_
  conv => whnf
  refine RetA_hand [1000006] [.d (.bool (wf p).2)] (fillH 84 g caps many 2000000 p.length p (.bool (wf p).1) (.bool (wf p).2)) rfl ⟨rfl, rfl, rfl, rfl, rfl, rfl, rfl, trivial⟩ rfl ?_
  refine ⟨rfl, p, (wf p).1, (wf p).2, rfl, ?_⟩
  simp only [fillF]
  cases hb : (wf p).2 <;> simp [packVv]

theorem fill103_succ {g : FuncId} {caps : List D} {wf : List Int → Bool × Bool} {many left : Nat} (hm : many ≤ 1000) (ihl : Fill103 g caps wf many left) : Fill103 g caps wf many (left + 1) := by
  intro start p x b hl hf hp hin σ Y s
  refine fnC_of mixed tysOk Tryz.func84 rfl (ft := ft84) (args := fillArgs start (left + 1)) (show fnB ft84 Tryz.f84 8 = true from by decide +kernel) ?_
  conv => whnf
  refine LoopA_p (T := tys) tysOk (by exact drawsB_spec mixed tysOk (by decide +kernel)) (α := Nat × Bool × Bool)
    (fun x => ⟨[(1, .d (i64 (left + 1 : Nat))), (2, .ptr 1000000 0), (3, .ptr 1000001 0), (4, .ptr 1000002 0), (5, .ptr 1000003 0), (6, .ptr 1000004 0), (7, .ptr 1000005 0), (11, .d (i64 x.1))], fillH 84 g caps many 900000 p.length p (.bool x.2.1) (.bool x.2.2), s⟩)
    (fun x => x.1 ≤ many + 1 ∧ fillF wf many (left + 1) p start = (List.range' x.1 (many - left - x.1)).findSome? fun (i : Nat) => fillF wf many left (p ++ [(i : Int)]) (i + 1)) (fun x => many + 1 - x.1) (start, x, b)
    ((Wk.move 1000006 900000 rfl rfl).trans (Wk.sub ⟨rfl, rfl, rfl, rfl, rfl, rfl, rfl, rfl, trivial⟩ ⟨rfl, rfl, rfl, rfl, rfl, rfl, rfl, trivial⟩)) ⟨hf, rfl⟩ ?_
  clear hf x b
  rintro ⟨i, x, b⟩ ⟨hi, he⟩
  simp only at hi he
  conv => whnf
  refine arith_in (wrap_i64 (by (try dsimp only); omega)) ?_
  conv => whnf
  refine brk_i (fun h1 => ?_) (fun h1 => ?_)
  · have h1 : i ≤ many - (left + 1) := by have := of_decide_eq_true h1; omega
    obtain ⟨m, hm1⟩ : ∃ m, many - left - i = m + 1 := ⟨many - left - i - 1, by omega⟩
    rw [hm1, List.range'_succ, List.findSome?_cons] at he
    have hpl : (intsC p).length = p.length := by simp [intsC]
    conv => whnf
    refine ownK_whole rfl ?_
    conv => whnf
    refine ownK.mk (by simp [Els.len, hpl]) ?_
    conv => whnf
    refine chk_i (by simp [Els.len, Els.part, Els.cons, V.cells, hpl]; omega) ?_
    conv => whnf
    refine arith_to (((i + 1 : Nat) : Int)) (by (try dsimp only); omega) (wrap_i64 (by (try dsimp only); omega)) ?_
    conv => whnf
    refine arith_to ((left : Int)) (by (try dsimp only); omega) (wrap_i64 (by (try dsimp only); omega)) ?_
    conv => whnf
    have hin' : ∀ j ∈ p ++ [(i : Int)], 0 ≤ j ∧ j < many := by
      intro j hj
      rcases List.mem_append.1 hj with hj | hj
      · exact hin j hj
      · rw [List.mem_singleton] at hj; subst hj; omega
    have ih := ihl (i + 1) (p ++ [(i : Int)]) x b (by omega) (by omega) (by simp; omega) hin' Y s
    refine CallA_y ih [1000000, 1000001, 1000002, 1000003, 1000004, 1000005, 32] rfl ⟨_, _, rfl, rfl, _, _, rfl, (by
        show some (Obj.box (Cells.vv [V.sl 32 1 0 ((((intsC p).drop 0).take p.length).length + 1)])) = some (Obj.box (Cells.vv [V.sl 32 1 0 (p ++ [(i : Int)]).length]))
        simp [intsC]), _, _, rfl, rfl, _, _, rfl, rfl, _, _, rfl, rfl, _, _, rfl, rfl, _, _, rfl, (by
        show some (Obj.arr 1 (Els.dd ((((intsC p).drop 0).take p.length) ++ [[i64 (i : Int)]]))) = some (Obj.arr 1 (Els.dd (intsC (p ++ [(i : Int)]))))
        simp [intsC, List.take_of_length_le]), rfl⟩ rfl rfl ?_
    rintro v h1 s' ⟨rfl, q, y, b', rfl, hpost⟩
    cases hF : fillF wf many left (p ++ [(i : Int)]) (i + 1) with
    | some r =>
      obtain ⟨q', y'⟩ := r
      rw [hF] at hpost he
      obtain ⟨rfl, rfl, rfl, rfl⟩ := hpost
      refine ⟨rfl, ?_⟩
      conv => whnf
      refine RetA_hand [102432] [.d (.bool true)] (fillH 84 g caps many 2000000 q.length q (.bool y) (.bool true)) rfl ⟨rfl, box_same rfl ⟨⟨rfl, rfl, rfl, rfl⟩, trivial⟩, rfl, rfl, rfl, box_same rfl ⟨⟨rfl, ⟨rfl, rfl⟩, ⟨rfl, rfl⟩, ⟨rfl, rfl⟩, ⟨rfl, rfl⟩, ⟨rfl, rfl⟩, ⟨rfl, rfl⟩, trivial⟩, trivial⟩, rfl, trivial⟩ rfl ?_
      refine ⟨rfl, q, y, true, rfl, ?_⟩
      rw [he]
      exact ⟨rfl, rfl, rfl, rfl⟩
    | none =>
      rw [hF] at hpost he
      obtain ⟨rfl, rfl⟩ := hpost
      refine ⟨rfl, ?_⟩
      conv => whnf
      refine arith_to (p.length : Int) (by simp) (wrap_i64 (by omega)) ?_
      conv => whnf
      refine chk_i (by simp; omega) ?_
      conv => whnf
      refine arith_to (((i + 1 : Nat) : Int)) (by (try dsimp only); omega) (wrap_i64 (by (try dsimp only); omega)) ?_
      conv => whnf
      have hm2 : many - left - (i + 1) = m := by omega
      refine ⟨(i + 1, y, b'), by simp only; omega, ⟨by simp only; omega, by simp only; rw [hm2]; exact he⟩, (Wk.move 102432 900000 rfl rfl).trans ((Wk.shrink 900000 p.length rfl).trans ?_)⟩
      have hsh : (intsC (p ++ [(i : Int)])).take p.length = intsC p := by simp [intsC, List.take_left']
      refine Wk.sub ⟨rfl, rfl, rfl, rfl, rfl, rfl, rfl, rfl, trivial⟩ ⟨rfl, ?_, rfl, rfl, rfl, rfl, ?_, trivial⟩
      · rfl
      · show some (Obj.arr 1 (Els.dd ((intsC (p ++ [(i : Int)])).take p.length))) = _
        rw [hsh]
  · have h1 : ¬ (i : Int) ≤ (many : Int) - ((left + 1 : Nat) : Int) := of_decide_eq_false h1
    rw [show many - left - i = 0 by omega] at he
    conv => whnf
    refine RetA_hand [900000] [.d (.bool false)] (fillH 84 g caps many 2000000 p.length p (.bool x) (.bool b)) rfl ⟨rfl, rfl, rfl, rfl, rfl, rfl, rfl, trivial⟩ rfl ?_
    refine ⟨rfl, p, x, b, rfl, ?_⟩
    rw [he]
    exact ⟨rfl, rfl⟩

theorem fill103 {g : FuncId} {caps : List D} {wf : List Int → Bool × Bool} {many : Nat} (hm : many ≤ 1000) (hw : Want103 g caps wf many) (left : Nat) : Fill103 g caps wf many left := by
  induction left with
  | zero => exact fill103_zero hm hw
  | succ n ih => exact fill103_succ hm ih
theorem fn75 (g : FuncId) (caps : List D) (wf : List Int → Bool × Bool) (many : Nat) (hm : many ≤ 1000) (hw : Want103 g caps wf many) {σ : Type} (Y : Hd σ) (s : σ) :
    FnC Tryz.prog Y 50 [.d (i64 many), .d (.clo g caps)] [] s fun v h' s' => s' = s ∧ h' = [] ∧ (match chooseF wf many with
      | some (q, y) => v = .d (.tup [intsD q, .bool y, .bool true])
      | none => ∃ y, v = .d (.tup [intsD [], .bool y, .bool false])) := by
  refine fnC_of mixed tysOk Tryz.func50 rfl (ft := ft50) (args := [.d (i64 many), .d (.clo g caps)]) (show fnB ft50 Tryz.f50 2 = true from by decide +kernel) ?_
  conv => whnf
  refine arith_in (wrap_i64 (by (try dsimp only); omega)) ?_
  conv => whnf
  refine LoopA_p (T := tys) tysOk (by exact drawsB_spec mixed tysOk (by decide +kernel)) (α := Nat × Bool × Bool)
    (fun x => ⟨[(2, .ptr 2 0), (3, .ptr 3 0), (4, .ptr 4 0), (5, .ptr 5 0), (6, .ptr 6 0), (7, .ptr 7 0), (11, .d (i64 (many + 1 : Nat))), (12, .d (i64 x.1))],
      [(2, .box (.dd [i64 many])), (3, .box (.dd [.clo g caps])), (4, .box (.vv [.sl 900000 1 0 0])), (5, .box (.dd [.bool x.2.1])), (6, .box (.dd [.bool x.2.2])), (7, .box (.vv [.clo 84 [.ptr 3 0, .ptr 4 0, .ptr 5 0, .ptr 6 0, .ptr 2 0, .ptr 7 0]])), (900000, .arr 1 (.dd []))], s⟩)
    (fun x => x.1 ≤ many + 1 ∧ chooseF wf many = (List.range' x.1 (many + 1 - x.1)).findSome? fun (n : Nat) => fillF wf many n [] 0) (fun x => many + 1 - x.1) (0, false, false)
    ((Wk.bornBox 4 900000 1 rfl rfl rfl rfl).trans (Wk.sub ⟨rfl, rfl, rfl, rfl, rfl, rfl, rfl, rfl, trivial⟩ ⟨rfl, rfl, rfl, rfl, rfl, rfl, rfl, trivial⟩)) ⟨by simp, rfl⟩ ?_
  rintro ⟨n, x, b⟩ ⟨hn, he⟩
  simp only at hn he
  conv => whnf
  refine brk_i (fun h1 => ?_) (fun h1 => ?_)
  · have h1 : n < many + 1 := by have := of_decide_eq_true h1; omega
    obtain ⟨m, hm1⟩ : ∃ m, many + 1 - n = m + 1 := ⟨many - n, by omega⟩
    have hm2 : many + 1 - (n + 1) = m := by omega
    rw [hm1, List.range'_succ, List.findSome?_cons] at he
    conv => whnf
    refine CallA_w (fill103 hm hw n 0 [] x b (by omega) (by omega) (by simp; omega) (by simp) Y s) [3, 4, 5, 6, 2, 7, 900000] rfl ⟨_, _, rfl, rfl, _, _, rfl, rfl, _, _, rfl, rfl, _, _, rfl, rfl, _, _, rfl, rfl, _, _, rfl, rfl, _, _, rfl, rfl, rfl⟩ rfl rfl ?_
    rintro v h1 s' ⟨rfl, q, y, b', rfl, hpost⟩
    cases hF : fillF wf many n [] 0 with
    | some r =>
      obtain ⟨q', y'⟩ := r
      rw [hF] at hpost he
      obtain ⟨rfl, rfl, rfl, rfl⟩ := hpost
      refine ⟨rfl, ?_⟩
      conv => whnf
      refine ⟨⟨[(4, .ptr 4 0), (5, .ptr 5 0), (6, .ptr 6 0), (17, .d (.bool true))], [(4, .box (.dd [intsD q])), (5, .box (.dd [.bool y])), (6, .box (.dd [.bool true]))], s'⟩, (Wk.frz 1 [101088]).trans (Wk.sub ⟨rfl, rfl, rfl, rfl, trivial⟩ ⟨?_, rfl, rfl, trivial⟩), ?_⟩
      · exact get_frz (id := 101088) (sz := 1) (n := q.length) rfl (viewV_sl (es := intsC q) rfl (by simp [intsC]))
      conv => whnf
      refine DrawCall_v (fn97 q (by have := fillF_len hF; simp at this; omega)) rfl rfl ?_
      conv => whnf
      refine RetA_view 0 rfl ⟨rfl, rfl, ?_⟩
      rw [he]
      rfl
    | none =>
      rw [hF] at hpost he
      obtain ⟨rfl, rfl⟩ := hpost
      refine ⟨rfl, ?_⟩
      conv => whnf
      refine ⟨⟨[(2, .ptr 2 0), (3, .ptr 3 0), (4, .ptr 4 0), (5, .ptr 5 0), (6, .ptr 6 0), (7, .ptr 7 0), (11, .d (i64 (many + 1 : Nat))), (12, .d (i64 n)), (17, .d (.bool false))],
        [(2, .box (.dd [i64 many])), (3, .box (.dd [.clo g caps])), (4, .box (.vv [.sl 900000 1 0 0])), (5, .box (.dd [.bool y])), (6, .box (.dd [.bool b'])), (7, .box (.vv [.clo 84 [.ptr 3 0, .ptr 4 0, .ptr 5 0, .ptr 6 0, .ptr 2 0, .ptr 7 0]])), (900000, .arr 1 (.dd []))], s'⟩,
        (Wk.move 101088 900000 rfl rfl).trans (Wk.sub ⟨rfl, rfl, rfl, rfl, rfl, rfl, rfl, rfl, rfl, trivial⟩ ⟨rfl, rfl, rfl, rfl, rfl, rfl, rfl, trivial⟩), ?_⟩
      conv => whnf
      refine arith_in (wrap_i64 (by (try dsimp only); omega)) ?_
      conv => whnf
      exact ⟨(n + 1, y, b'), by simp only; omega, ⟨by simp only; omega, by simp only; rw [hm2]; exact he⟩, (Wk.sub ⟨rfl, rfl, rfl, rfl, rfl, rfl, rfl, rfl, trivial⟩ ⟨rfl, rfl, rfl, rfl, rfl, rfl, rfl, trivial⟩)⟩
  · have h1 : ¬ n < many + 1 := by have := of_decide_eq_false h1; omega
    rw [show many + 1 - n = 0 by omega] at he
    conv => whnf
    refine RetA_nil0 ?_
    refine RetA_view 0 rfl ⟨rfl, rfl, ?_⟩
    rw [he]
    exact ⟨x, rfl⟩

end Go.PX

namespace Go.PX
open Go.Proofs

/-- A list is copied to memory of one's own. -/
theorem fn104 (p : List Span) (hp : p.length < 1000000) (h0 : p ≠ []) : FnU Tryz.prog 86 [.d (spansD p)] [] fun v h' => v = .sl 2000000 2 0 p.length ∧ h' = [(2000000, .arr 2 (.dd (p.map Span.cells)))] := by
  intro σ Y s
  refine fnC_of mixed tysOk Tryz.func86 rfl (ft := ft86) (args := [.d (spansD p)]) (show fnB ft86 Tryz.f86 1 = true from by decide +kernel) ?_
  conv => whnf
  refine ⟨fun b hb => ?_⟩
  cases b with
  | true => exact absurd (hb (by cases p with
      | nil => exact absurd rfl h0
      | cons a r => simp)) (by simp)
  | false =>
    conv => whnf
    refine ownK.mk rfl ?_
    conv => whnf
    refine chk_i (by
      show (lenAllD 2 (p.map Span.cells) && true) = true
      rw [lenAllD_map (fun x => ⟨rfl, rfl⟩)]; rfl) ?_
    conv => whnf
    refine chk_i (by simp [Els.len, Els.part]; omega) ?_
    conv => whnf
    refine RetA_hand [7] [.sl 2000000 2 0 p.length] [(2000000, .arr 2 (.dd (p.map Span.cells)))] ?_ ?_ rfl ⟨⟨rfl, rfl⟩, rfl⟩
    · show [V.sl 7 2 0 p.length] = [V.sl 7 2 0 (0 + (p.map Span.cells).length)]
      simp
    · exact ⟨rfl, trivial⟩

/-- A list, half turned about. -/
def Turned {α : Type} (l m : List α) (i : Nat) : Prop := m.length = l.length ∧ ∀ k, k < l.length → m[k]? = if k < i ∨ l.length ≤ k + i then l.reverse[k]? else l[k]?

theorem turned_step {α : Type} {p m : List α} {i j : Nat} {x y : α} (h : Turned p m i) (hj : i + j + 1 = p.length) (hij : i < j) (hx : m[i]? = some x) (hy : m[j]? = some y) : Turned p ((m.set i y).set j x) (i + 1) := by
  obtain ⟨hm, hT⟩ := h
  refine ⟨by simp [hm], fun k hk => ?_⟩
  have h1 := hT i (by omega)
  have h2 := hT j (by omega)
  rw [if_neg (by omega), hx] at h1
  rw [if_neg (by omega), hy] at h2
  by_cases hkj : j = k
  · subst hkj
    rw [List.getElem?_set_self (by simp; omega), if_pos (by omega), List.getElem?_reverse (by omega), show p.length - 1 - j = i by omega, h1]
  · rw [List.getElem?_set_ne hkj]
    by_cases hki : i = k
    · subst hki
      rw [List.getElem?_set_self (by omega), if_pos (by omega), List.getElem?_reverse (by omega), show p.length - 1 - i = j by omega, h2]
    · rw [List.getElem?_set_ne hki, hT k hk]
      by_cases hc : k < i ∨ p.length ≤ k + i
      · rw [if_pos hc, if_pos (by omega)]
      · rw [if_neg hc, if_neg (by omega)]

theorem turned_end {α : Type} {p m : List α} {i : Nat} (h : Turned p m i) (hi : p.length ≤ 2 * i + 1) : m = p.reverse := by
  obtain ⟨hm, hT⟩ := h
  refine List.ext_getElem? fun k => ?_
  by_cases hk : k < p.length
  · rw [hT k hk]
    by_cases hc : k < i ∨ p.length ≤ k + i
    · rw [if_pos hc]
    · rw [if_neg hc, List.getElem?_reverse hk, show p.length - 1 - k = k by omega]
  · rw [List.getElem?_eq_none (by omega), List.getElem?_eq_none (by simp; omega)]

theorem fn106 (p : List Span) (hp : p.length < 1000000) : FnU Tryz.prog 88 [.sl 1000000 2 0 p.length] [(1000000, .arr 2 (.dd (p.map Span.cells)))] fun v h' => v = .d (.tup []) ∧ h' = [(1000000, .arr 2 (.dd (p.reverse.map Span.cells)))] := by
  intro σ Y s
  refine fnC_of mixed tysOk Tryz.func88 rfl (ft := ft88) (args := [.sl 1000000 2 0 p.length]) (show fnB ft88 Tryz.f88 1 = true from by decide +kernel) ?_
  conv => whnf
  refine arith_in (wrap_i64 (by (try dsimp only); omega)) ?_
  conv => whnf
  refine LoopA_p (T := tys) tysOk (by exact drawsB_spec mixed tysOk (by decide +kernel)) (α := Nat × List Span)
    (fun x => ⟨[(0, .sl 1000000 2 0 p.length), (2, .d (i64 x.1)), (3, .d (i64 ((p.length : Int) - 1 - x.1)))], [(1000000, .arr 2 (.dd (x.2.map Span.cells)))], s⟩)
    (fun x => 2 * x.1 ≤ p.length + 1 ∧ Turned p x.2 x.1) (fun x => p.length - x.1) (0, p)
    (Wk.sub ⟨rfl, rfl, by simp [PX.get], trivial⟩ ⟨rfl, trivial⟩) ⟨by simp, rfl, fun k hk => by simp; omega⟩ ?_
  rintro ⟨i, m⟩ ⟨hi, hm, hT⟩
  simp only at hi hm hT
  conv => whnf
  refine brk_i (fun hb => ?_) (fun hb => ?_)
  · have hb : (i : Int) < (p.length : Int) - 1 - i := by simpa using hb
    obtain ⟨j, hj⟩ : ∃ j : Nat, i + j + 1 = p.length := ⟨p.length - 1 - i, by omega⟩
    have hj1 : ((p.length : Int) - 1 - (i : Int)).toNat = j := by omega
    have hmi : m[i]? = some m[i] := List.getElem?_eq_getElem (by omega)
    have hmj : m[j]? = some m[j] := List.getElem?_eq_getElem (by omega)
    generalize m[i] = x at *
    generalize m[j] = y at *
    obtain ⟨hm', hT'⟩ := turned_step ⟨hm, hT⟩ hj (by omega) hmi hmj
    conv => whnf
    refine chk_i (by simp; omega) ?_
    conv => whnf
    refine cellK_i y.cells (by simp [hj1, hmj]) ?_
    conv => whnf
    refine chk_i (by simp; omega) ?_
    conv => whnf
    refine cellK_i x.cells (by simp [hmi]) ?_
    conv => whnf
    refine chk_i (by simp; omega) ?_
    conv => whnf
    refine cellK_i x.cells (by simp [hmi]) ?_
    conv => whnf
    refine chk_i (by simp; omega) ?_
    conv => whnf
    refine cellK_i y.cells (by
      show ((m.map Span.cells).set (0 + (i : Int).toNat) y.cells)[0 + ((p.length : Int) - 1 - (i : Int)).toNat]? = _
      rw [hj1, List.getElem?_set_ne (by simp; omega)]
      simp [hmj]) ?_
    conv => whnf
    refine arith_to (((i + 1 : Nat) : Int)) (by (try dsimp only); omega) (wrap_i64 (by (try dsimp only); omega)) ?_
    conv => whnf
    refine arith_to ((p.length : Int) - 1 - ((i + 1 : Nat) : Int)) (by (try dsimp only); omega) (wrap_i64 (by (try dsimp only); omega)) ?_
    conv => whnf
    refine ⟨(i + 1, (m.set i y).set j x), by simp only; omega, ⟨by simp only; omega, hm', hT'⟩, Wk.sub ⟨rfl, rfl, rfl, trivial⟩ ⟨?_, trivial⟩⟩
    show some (Obj.arr 2 (.dd (((m.map Span.cells).set (0 + (i : Int).toNat) y.cells).set (0 + ((p.length : Int) - 1 - (i : Int)).toNat) x.cells))) = _
    rw [hj1]
    simp [List.map_set]
  · have hb : ¬ (i : Int) < (p.length : Int) - 1 - i := by simpa using hb
    conv => whnf
    rw [turned_end ⟨hm, hT⟩ (by omega)]
    exact RetA_hand [] [] [(1000000, .arr 2 (.dd (p.reverse.map Span.cells)))] rfl ⟨rfl, trivial⟩ rfl ⟨⟨rfl, rfl⟩, rfl⟩
/-- A list is copied to memory of one's own. -/
theorem fn105 (p : List Shot) (hp : p.length < 1000000) (h0 : p ≠ []) : FnU Tryz.prog 87 [.d (shotsD p)] [] fun v h' => v = .sl 2000000 8 0 p.length ∧ h' = [(2000000, .arr 8 (.dd (p.map Shot.cells)))] := by
  intro σ Y s
  refine fnC_of mixed tysOk Tryz.func87 rfl (ft := ft87) (args := [.d (shotsD p)]) (show fnB ft87 Tryz.f87 1 = true from by decide +kernel) ?_
  conv => whnf
  refine ⟨fun b hb => ?_⟩
  cases b with
  | true => exact absurd (hb (by cases p with
      | nil => exact absurd rfl h0
      | cons a r => simp)) (by simp)
  | false =>
    conv => whnf
    refine ownK.mk rfl ?_
    conv => whnf
    refine chk_i (by
      show (lenAllD 8 (p.map Shot.cells) && true) = true
      rw [lenAllD_map (fun x => ⟨rfl, rfl⟩)]; rfl) ?_
    conv => whnf
    refine chk_i (by simp [Els.len, Els.part]; omega) ?_
    conv => whnf
    refine RetA_hand [7] [.sl 2000000 8 0 p.length] [(2000000, .arr 8 (.dd (p.map Shot.cells)))] ?_ ?_ rfl ⟨⟨rfl, rfl⟩, rfl⟩
    · show [V.sl 7 8 0 p.length] = [V.sl 7 8 0 (0 + (p.map Shot.cells).length)]
      simp
    · exact ⟨rfl, trivial⟩

theorem fn107 (p : List Shot) (hp : p.length < 1000000) : FnU Tryz.prog 89 [.sl 1000000 8 0 p.length] [(1000000, .arr 8 (.dd (p.map Shot.cells)))] fun v h' => v = .d (.tup []) ∧ h' = [(1000000, .arr 8 (.dd (p.reverse.map Shot.cells)))] := by
  intro σ Y s
  refine fnC_of mixed tysOk Tryz.func89 rfl (ft := ft89) (args := [.sl 1000000 8 0 p.length]) (show fnB ft89 Tryz.f89 1 = true from by decide +kernel) ?_
  conv => whnf
  refine arith_in (wrap_i64 (by (try dsimp only); omega)) ?_
  conv => whnf
  refine LoopA_p (T := tys) tysOk (by exact drawsB_spec mixed tysOk (by decide +kernel)) (α := Nat × List Shot)
    (fun x => ⟨[(0, .sl 1000000 8 0 p.length), (2, .d (i64 x.1)), (3, .d (i64 ((p.length : Int) - 1 - x.1)))], [(1000000, .arr 8 (.dd (x.2.map Shot.cells)))], s⟩)
    (fun x => 2 * x.1 ≤ p.length + 1 ∧ Turned p x.2 x.1) (fun x => p.length - x.1) (0, p)
    (Wk.sub ⟨rfl, rfl, by simp [PX.get], trivial⟩ ⟨rfl, trivial⟩) ⟨by simp, rfl, fun k hk => by simp; omega⟩ ?_
  rintro ⟨i, m⟩ ⟨hi, hm, hT⟩
  simp only at hi hm hT
  conv => whnf
  refine brk_i (fun hb => ?_) (fun hb => ?_)
  · have hb : (i : Int) < (p.length : Int) - 1 - i := by simpa using hb
    obtain ⟨j, hj⟩ : ∃ j : Nat, i + j + 1 = p.length := ⟨p.length - 1 - i, by omega⟩
    have hj1 : ((p.length : Int) - 1 - (i : Int)).toNat = j := by omega
    have hmi : m[i]? = some m[i] := List.getElem?_eq_getElem (by omega)
    have hmj : m[j]? = some m[j] := List.getElem?_eq_getElem (by omega)
    generalize m[i] = x at *
    generalize m[j] = y at *
    obtain ⟨hm', hT'⟩ := turned_step ⟨hm, hT⟩ hj (by omega) hmi hmj
    conv => whnf
    refine chk_i (by simp; omega) ?_
    conv => whnf
    refine cellK_i y.cells (by simp [hj1, hmj]) ?_
    conv => whnf
    refine chk_i (by simp; omega) ?_
    conv => whnf
    refine cellK_i x.cells (by simp [hmi]) ?_
    conv => whnf
    refine chk_i (by simp; omega) ?_
    conv => whnf
    refine cellK_i x.cells (by simp [hmi]) ?_
    conv => whnf
    refine chk_i (by simp; omega) ?_
    conv => whnf
    refine cellK_i y.cells (by
      show ((m.map Shot.cells).set (0 + (i : Int).toNat) y.cells)[0 + ((p.length : Int) - 1 - (i : Int)).toNat]? = _
      rw [hj1, List.getElem?_set_ne (by simp; omega)]
      simp [hmj]) ?_
    conv => whnf
    refine arith_to (((i + 1 : Nat) : Int)) (by (try dsimp only); omega) (wrap_i64 (by (try dsimp only); omega)) ?_
    conv => whnf
    refine arith_to ((p.length : Int) - 1 - ((i + 1 : Nat) : Int)) (by (try dsimp only); omega) (wrap_i64 (by (try dsimp only); omega)) ?_
    conv => whnf
    refine ⟨(i + 1, (m.set i y).set j x), by simp only; omega, ⟨by simp only; omega, hm', hT'⟩, Wk.sub ⟨rfl, rfl, rfl, trivial⟩ ⟨?_, trivial⟩⟩
    show some (Obj.arr 8 (.dd (((m.map Shot.cells).set (0 + (i : Int).toNat) y.cells).set (0 + ((p.length : Int) - 1 - (i : Int)).toNat) x.cells))) = _
    rw [hj1]
    simp [List.map_set]
  · have hb : ¬ (i : Int) < (p.length : Int) - 1 - i := by simpa using hb
    conv => whnf
    rw [turned_end ⟨hm, hT⟩ (by omega)]
    exact RetA_hand [] [] [(1000000, .arr 8 (.dd (p.reverse.map Shot.cells)))] rfl ⟨rfl, trivial⟩ rfl ⟨⟨rfl, rfl⟩, rfl⟩
end Go.PX

namespace Go.PX
open Go.Proofs

/-- What region 2 of func 77 looks at; the copies are made there. -/
def ft77b : FT := ⟨[0, 1, 2, 6, 7, 9, 29, 30, 31, 32, 46], [(2, ⟨[101088, 101536], [⟨[0], []⟩, ⟨[13], []⟩, ⟨[14], []⟩, ⟨[15], []⟩, ⟨[16], []⟩, ⟨[0], [0, 1, 2, 3, 4]⟩, ⟨[18], [0, 1, 2, 3, 4]⟩, ⟨[19], [0, 1, 2, 3, 4]⟩, ⟨[20], [0, 1, 2, 3, 4]⟩, ⟨[21], [0, 1, 2, 3, 4]⟩, ⟨[22], [0, 1, 2, 3, 4]⟩, ⟨[23], []⟩, ⟨[7], []⟩, ⟨[17, 25], []⟩, ⟨[7], []⟩, ⟨[26], []⟩, ⟨[27], []⟩, ⟨[24, 28], []⟩]⟩), (6, ⟨[], [⟨[7], []⟩, ⟨[35], []⟩, ⟨[9], [0, 1]⟩, ⟨[0], [0, 1, 2]⟩, ⟨[38], [0, 1, 2]⟩, ⟨[39], [0, 1, 2]⟩, ⟨[40], [0, 1, 2]⟩, ⟨[9], [0, 1, 2, 3, 4, 5, 6]⟩, ⟨[41, 42], [0, 1, 2]⟩, ⟨[36, 37], []⟩, ⟨[43, 44], []⟩]⟩)]⟩

def newAt (c : Case) (i : Int) : Span := match c.chain.shots[i.toNat]? with
  | some s => s.new
  | none => ⟨0, 0⟩
def renewT (c : Case) (th : List Span) (w : List Int) : List Span := w.foldl (fun t i => t.set i.toNat (newAt c i)) th
def turnC (c : Case) (rev : Bool) : Case := if rev then { c with chain := { c.chain with shots := c.chain.shots.reverse } } else c
def turnT (th : List Span) (rev : Bool) : List Span := if rev then th.reverse else th

theorem DrawCall_fnU {P : Program} {e : Env} {h : Heap} {d : Option Nat} {f : FuncId} {args : List V} {args0 : List V} {v0 : V} {h1 : Heap} (hf : FnU P f args0 [] fun v h' => v = v0 ∧ h' = h1) (hargs : renL (callR [] (d.getD 0)) args0 = args)
    (hB : callB [] d v0 h1 = true) {K : List Wr → Prop} (hk : K (callWs [] d v0 h1)) : DrawCall P e h d f args K :=
  DrawCall_fn hf [] hargs rfl hB hk

theorem fn77 (c : Case) (th : List Span) (w : List Int) (rev : Bool) (h : MoorOk c th) (hw : ∀ i ∈ w, 0 ≤ i ∧ i < c.chain.shots.length) (hwl : w.length < 1000000) :
    FnV Tryz.prog 52 [mD c th (freshM c.chain.shots 0), intsD w, .bool rev] (mD (turnC c rev) (turnT (renewT c th w) rev) (freshM c.chain.shots 0)) := by
  refine fnV_of mixed tysOk Tryz.func52 rfl (ft := ft77b) 3 (by decide +kernel) (by rfl) fun {σ} Y st => ?_
  have hls := h.case.lens
  have hlt := h.len
  conv => whnf
  refine DrawCall_fnU (args0 := [.d (spansD th)]) (fn104 th (by omega) (by intro h0; subst h0; simp at hlt; omega)) rfl rfl ?_
  conv => whnf
  refine DrawCall_fnU (args0 := [.d (shotsD c.chain.shots)]) (fn105 c.chain.shots (by omega) (by intro h0; rw [h0] at hls; simp at hls)) rfl rfl ?_
  conv => whnf
  have hT0 : th.length = c.chain.shots.length := hlt
  refine LoopA_i (T := tys) tysOk (by exact drawsB_spec mixed tysOk (by decide +kernel)) w (fun i (t : List Span) => ⟨[(0, .d (mD c th (freshM c.chain.shots 0))), (2, .d (.bool rev)), (7, .ptr 7 0), (29, .d (intsD w)), (30, .d (i64 w.length)), (31, .d (i64 i))],
      [(7, .box (.vv (.sl 101536 8 0 c.chain.shots.length :: inj c.cells.tail ++ [.sl 101088 2 0 t.length, .d (.mv (freshM c.chain.shots 0))]))), (101088, .arr 2 (.dd (t.map Span.cells))), (101536, .arr 8 (.dd (c.chain.shots.map Shot.cells)))], st⟩)
    (fun i r t => (∀ n ∈ r, 0 ≤ n ∧ n < c.chain.shots.length) ∧ t.length = th.length ∧ renewT c th w = r.foldl (fun t i => t.set i.toNat (newAt c i)) t) th
    (Wk.sub ⟨(by first | rfl | (simp only [List.length_map]; rfl) | simp [PX.get]), (by first | rfl | (simp only [List.length_map]; rfl) | simp [PX.get]), (by first | rfl | (simp only [List.length_map]; rfl) | simp [PX.get]), (by first | rfl | (simp only [List.length_map]; rfl) | simp [PX.get]), (by first | rfl | (simp only [List.length_map]; rfl) | simp [PX.get]), (by first | rfl | (simp only [List.length_map]; rfl) | simp [PX.get]), trivial⟩ ⟨(by first | rfl | (simp only [List.length_map]; rfl) | simp [PX.get]), (by first | rfl | (simp only [List.length_map]; rfl) | simp [PX.get]), (by first | rfl | (simp only [List.length_map]; rfl) | simp [PX.get]), trivial⟩) ⟨hw, rfl, rfl⟩ ?_ ?_
  · intro i x r t hx hi hr ⟨hm, htl, he⟩
    obtain ⟨x0, x1⟩ := hm x (by simp)
    have hxl : x.toNat < c.chain.shots.length := by omega
    have hsx : c.chain.shots[x.toNat]? = some c.chain.shots[x.toNat] := List.getElem?_eq_getElem hxl
    have htx : t[x.toNat]? = some t[x.toNat] := List.getElem?_eq_getElem (by omega)
    have hfr := freshM_some c.chain.shots 0 x.toNat 0 _ hsx
    have hnew : newAt c x = c.chain.shots[x.toNat].new := by simp [newAt, hsx]
    rw [List.foldl_cons, hnew] at he
    rw [show (0 : Int) + (x.toNat : Int) = x by omega] at hfr
    generalize c.chain.shots[x.toNat] = s at *
    generalize t[x.toNat] = u at *
    conv => whnf
    refine brk_i (fun _ => ?_) (fun h => absurd hi (by simpa using h))
    conv => whnf
    refine elemK_nat hx ?_
    conv => whnf
    refine ⟨_, hfr, ?_⟩
    conv => whnf
    refine chk_i (by simp; omega) ?_
    conv => whnf
    refine cellK_i u.cells (by simp [htx]) ?_
    conv => whnf
    refine arith_in (wrap_i64 (by (try dsimp only); omega)) ?_
    conv => whnf
    refine ⟨t.set x.toNat s.new, ⟨fun n hn => hm n (by simp [hn]), by simp [htl], he⟩, Wk.sub ⟨rfl, rfl, rfl, rfl, rfl, rfl, trivial⟩ ⟨?_, ?_, rfl, trivial⟩⟩
    · simp only [List.length_set]; rfl
    · show some (Obj.arr 2 (.dd ((t.map Span.cells).set (0 + x.toNat) s.new.cells))) = _
      rw [List.map_set, Nat.zero_add]
  · intro t ⟨_, htl, he⟩
    have he : renewT c th w = t := he
    rw [he]
    conv => whnf
    refine brk_i (fun h => absurd h (by simp)) (fun _ => ?_)
    conv => whnf
    cases rev with
    | false =>
      conv => whnf
      refine RetA_view 2 (ds := [mD (turnC c false) (turnT t false) (freshM c.chain.shots 0)]) (viewL_cons (viewV_ptr rfl (viewL_cons (viewV_sl' (es' := c.chain.shots.map Shot.cells) rfl rfl (by simp)) (viewL_app (a := c.cells.tail) (viewL_cons (viewV_sl' (es' := t.map Span.cells) rfl rfl (by simp)) rfl)))) rfl) ⟨⟨rfl, rfl⟩, rfl⟩
    | true =>
      conv => whnf
      refine CallA_fn (fn106 t (by omega)) [101088] rfl ⟨_, _, rfl, rfl, rfl⟩ rfl ?_
      conv => whnf
      refine CallA_fn (fn107 c.chain.shots (by omega)) [101536] rfl ⟨_, _, rfl, rfl, rfl⟩ rfl ?_
      conv => whnf
      refine RetA_view 2 (ds := [mD (turnC c true) (turnT t true) (freshM c.chain.shots 0)]) (viewL_cons (viewV_ptr rfl (viewL_cons (viewV_sl' (es' := c.chain.shots.reverse.map Shot.cells) rfl rfl (by simp)) (viewL_app (a := c.cells.tail) (viewL_cons (viewV_sl' (es' := t.reverse.map Span.cells) rfl rfl (by simp)) rfl)))) rfl) ⟨⟨rfl, rfl⟩, rfl⟩
end Go.PX
