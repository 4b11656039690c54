import Derived.Test.YtiflhdanniajdaaPxN
import Derived.Test.YtiflhdanniajdaaPxI
set_option linter.all false
set_option maxRecDepth 10000
namespace Go.PX
open Go.Proofs

/- Lamp: fails (the program). -/

def ft90b : FT := ((ft90.less 6).less 7).less 21

set_option maxHeartbeats 4000000 in
theorem la90 (lit : List Bool) (l : List LPhase) (hl0 : lit ≠ []) (hl : lit.length ≤ 200) (hp : 1 ≤ l.length ∧ l.length ≤ 3) : FnV Try.prog 90 [boolsD lit, phasesD l] (i64 (failsL lit l)) := by
  refine fnV_of mixed tysOk Try.func90 rfl (ft := ft90b) 2 (by decide +kernel) (by rfl) fun {σ} Y st => ?_
  conv => whnf
  obtain ⟨b0, r0, rfl⟩ : ∃ b r, lit = b :: r := by
    cases lit with
    | nil => exact absurd rfl hl0
    | cons b r => exact ⟨b, r, rfl⟩
  refine LoopA_i (T := tys) tysOk (by exact drawsB_spec mixed tysOk (by decide +kernel)) l (fun i (m : Ms) => ⟨[(0, .d (boolsD (b0 :: r0))), (1, .d (phasesD l)), (5, .mp 11), (13, .d (i64 l.length)), (14, .d (i64 i))], [(11, .map (kvG LState.d m))], st⟩)
    (fun i r m => Cnt m i ∧ ∀ y, (getM m y).isSome = true ↔ y ∈ initA b0 i) [] (Wk.sub ⟨(by first | rfl | (simp only [List.length_map]; rfl) | simp [PX.get]), (by first | rfl | (simp only [List.length_map]; rfl) | simp [PX.get]), (by first | rfl | (simp only [List.length_map]; rfl) | simp [PX.get]), (by first | rfl | (simp only [List.length_map]; rfl) | simp [PX.get]), (by first | rfl | (simp only [List.length_map]; rfl) | simp [PX.get]), trivial⟩ ⟨(by first | rfl | (simp only [List.length_map]; rfl) | simp [PX.get]), trivial⟩) ⟨⟨by simp, fun y v h => by cases h⟩, fun y => by simp [initA, getM]⟩ ?_ ?_
  · intro i p r m hx hi hr ⟨hc, hm⟩
    have hin : ∀ y, y ∈ initA b0 (i + 1) ↔ y = ⟨b0, i, 1, true⟩ ∨ y ∈ initA b0 i := by
      intro y
      unfold initA
      rw [List.range_succ, List.map_append, List.mem_append]
      simp [or_comm]
    conv => whnf
    refine brk_i (fun _ => ?_) (fun h => absurd hi (by simpa using h))
    conv => whnf
    cases b0 with
    | true =>
      have hg0 : getM m ⟨true, i, 1, true⟩ = none := by
        cases hg : getM m ⟨true, i, 1, true⟩ with
        | none => rfl
        | some v =>
          exfalso
          have := (hm ⟨true, i, 1, true⟩).1 (by rw [hg]; rfl)
          obtain ⟨j, hj, he⟩ := List.mem_map.1 this
          have hj := List.mem_range.1 hj
          have : (j : Int) = i := congrArg LState.k he
          omega
      have g1 := findG_none (kd := LState.d) same_state hg0 0
      have g2 : findD (LState.d ⟨true, i, 1, true⟩) (kvG LState.d m ++ [(LState.d ⟨true, i, 1, true⟩, i64 0)]) 0 = some (some ((kvG LState.d m).length, i64 0)) := by
        rw [findG_last same_state hg0 0]; simp
      have hB : (decide ((0 : Int) ≤ ((kvG LState.d m).length : Int)) && decide (((kvG LState.d m).length : Int) < ((kvG LState.d m ++ [(LState.d ⟨true, i, 1, true⟩, i64 0)]).length : Int))) = true := by
        simp; omega
      have hfin : setVal (kvG LState.d m ++ [(LState.d ⟨true, i, 1, true⟩, i64 0)]) (kvG LState.d m).length (i64 (0 + 1)) = kvG LState.d (incM m ⟨true, i, 1, true⟩) := by
        rw [setVal_end]
        have := putG_none (kd := LState.d) 1 hg0
        rw [show i64 (0 + 1) = D.int .i64 1 from rfl, this, incM, hg0]; rfl
      conv => whnf
      refine RegionA_inv mixed tysOk [[], [], [1], [2], [0, 3], [4], [0, 1, 2, 3], [6], [0, 1, 2, 3, 4, 5, 6, 7]] (fun ls => (selE ls [some (20, .mp 11), some (21, .d (i64 i)), some (22, .d (stageD true i)), some (23, .d (LState.d ⟨true, i, 1, true⟩)), some (24, .d (i64 0)), some (25, .d (i64 (0 + 1))), some (26, .d (.tup [i64 0, i64 (kvG LState.d m).length])), some (27, .d (i64 (kvG LState.d m).length)), none] ++ [(0, .d (boolsD (true :: r0))), (1, .d (phasesD l)), (5, .mp 11), (13, .d (i64 l.length)), (14, .d (i64 i)), (6, .d (i64 i))], [(11, .map (sel3 ls 6 8 (kvG LState.d m) (kvG LState.d m ++ [(LState.d ⟨true, i, 1, true⟩, i64 0)]) (setVal (kvG LState.d m ++ [(LState.d ⟨true, i, 1, true⟩, i64 0)]) (kvG LState.d m).length (i64 (0 + 1)))))])) (by decide +kernel) ?_ ?_ ?_
      · exact Wk.sub ⟨rfl, rfl, rfl, rfl, rfl, rfl, trivial⟩ ⟨rfl, trivial⟩
      · conv => whnf
        repeat' (first
          | trivial
          | (refine And.intro ?_ ?_ <;> conv => whnf)
          | (refine findK.mk _ (g1) ?_; conv => whnf)
          | (refine findK.mk _ (g2) ?_; conv => whnf)
          | (refine arith_in (wrap_i64 (by omega)) ?_; conv => whnf)
          | (refine chk_i hB ?_; conv => whnf)
          | (refine Wk.sub ?_ ?_ <;> (repeat' (first | exact trivial | refine ⟨rfl, ?_⟩))))
      · conv => whnf
        refine arith_in (wrap_i64 (by omega)) ?_
        conv => whnf
        refine ⟨incM m ⟨true, i, 1, true⟩, ⟨hc.inc _, fun u => by rw [inc_some, hin, hm]⟩, Wk.sub ⟨rfl, rfl, rfl, rfl, rfl, trivial⟩ ⟨?_, trivial⟩⟩
        exact congrArg (fun z => some (Obj.map z)) hfin
    | false =>
      have hg0 : getM m ⟨false, i, 1, true⟩ = none := by
        cases hg : getM m ⟨false, i, 1, true⟩ with
        | none => rfl
        | some v =>
          exfalso
          have := (hm ⟨false, i, 1, true⟩).1 (by rw [hg]; rfl)
          obtain ⟨j, hj, he⟩ := List.mem_map.1 this
          have hj := List.mem_range.1 hj
          have : (j : Int) = i := congrArg LState.k he
          omega
      have g1 := findG_none (kd := LState.d) same_state hg0 0
      have g2 : findD (LState.d ⟨false, i, 1, true⟩) (kvG LState.d m ++ [(LState.d ⟨false, i, 1, true⟩, i64 0)]) 0 = some (some ((kvG LState.d m).length, i64 0)) := by
        rw [findG_last same_state hg0 0]; simp
      have hB : (decide ((0 : Int) ≤ ((kvG LState.d m).length : Int)) && decide (((kvG LState.d m).length : Int) < ((kvG LState.d m ++ [(LState.d ⟨false, i, 1, true⟩, i64 0)]).length : Int))) = true := by
        simp; omega
      have hfin : setVal (kvG LState.d m ++ [(LState.d ⟨false, i, 1, true⟩, i64 0)]) (kvG LState.d m).length (i64 (0 + 1)) = kvG LState.d (incM m ⟨false, i, 1, true⟩) := by
        rw [setVal_end]
        have := putG_none (kd := LState.d) 1 hg0
        rw [show i64 (0 + 1) = D.int .i64 1 from rfl, this, incM, hg0]; rfl
      conv => whnf
      refine RegionA_inv mixed tysOk [[], [], [1], [2], [0, 3], [4], [0, 1, 2, 3], [6], [0, 1, 2, 3, 4, 5, 6, 7]] (fun ls => (selE ls [some (28, .mp 11), some (29, .d (i64 i)), some (30, .d (stageD false i)), some (31, .d (LState.d ⟨false, i, 1, true⟩)), some (32, .d (i64 0)), some (33, .d (i64 (0 + 1))), some (34, .d (.tup [i64 0, i64 (kvG LState.d m).length])), some (35, .d (i64 (kvG LState.d m).length)), none] ++ [(0, .d (boolsD (false :: r0))), (1, .d (phasesD l)), (5, .mp 11), (13, .d (i64 l.length)), (14, .d (i64 i)), (6, .d (i64 i))], [(11, .map (sel3 ls 6 8 (kvG LState.d m) (kvG LState.d m ++ [(LState.d ⟨false, i, 1, true⟩, i64 0)]) (setVal (kvG LState.d m ++ [(LState.d ⟨false, i, 1, true⟩, i64 0)]) (kvG LState.d m).length (i64 (0 + 1)))))])) (by decide +kernel) ?_ ?_ ?_
      · exact Wk.sub ⟨rfl, rfl, rfl, rfl, rfl, rfl, trivial⟩ ⟨rfl, trivial⟩
      · conv => whnf
        repeat' (first
          | trivial
          | (refine And.intro ?_ ?_ <;> conv => whnf)
          | (refine findK.mk _ (g1) ?_; conv => whnf)
          | (refine findK.mk _ (g2) ?_; conv => whnf)
          | (refine arith_in (wrap_i64 (by omega)) ?_; conv => whnf)
          | (refine chk_i hB ?_; conv => whnf)
          | (refine Wk.sub ?_ ?_ <;> (repeat' (first | exact trivial | refine ⟨rfl, ?_⟩))))
      · conv => whnf
        refine arith_in (wrap_i64 (by omega)) ?_
        conv => whnf
        refine ⟨incM m ⟨false, i, 1, true⟩, ⟨hc.inc _, fun u => by rw [inc_some, hin, hm]⟩, Wk.sub ⟨rfl, rfl, rfl, rfl, rfl, trivial⟩ ⟨?_, trivial⟩⟩
        exact congrArg (fun z => some (Obj.map z)) hfin
  intro m ⟨hc, hm⟩
  have hfl : failsL (b0 :: r0) l = failsF l r0 b0 (initA b0 l.length) 1 := rfl
  rw [hfl]
  have hini := init_ok (l := l) (b := b0)
  generalize initA b0 l.length = A at hm hfl hini
  conv => whnf
  refine brk_i (fun h => absurd h (by simp)) (fun _ => ?_)
  conv => whnf
  refine LoopA_p (T := tys) tysOk (by exact drawsB_spec mixed tysOk (by decide +kernel)) (α := Nat × (List LState × Ms))
    (fun p => ⟨[(0, .d (boolsD (b0 :: r0))), (1, .d (phasesD l)), (5, .mp 900001), (7, .d (i64 p.1))], [(900001, .map (kvG LState.d p.2.2))], st⟩)
    (fun p => 1 ≤ p.1 ∧ p.1 ≤ r0.length + 1 ∧ p.2.2.length ≤ 3 ∧ MapOf p.2.2 p.2.1 ∧ (∀ x ∈ p.2.1, StR l p.1 x) ∧ ∃ pb, (b0 :: r0)[p.1 - 1]? = some pb ∧ failsF l r0 b0 A 1 = failsF l (r0.drop (p.1 - 1)) pb p.2.1 p.1) (fun p => r0.length + 1 - p.1) (1, (A, m)) ?wk ?pr ?_
  case wk => exact (Wk.move 11 900001 rfl rfl).trans (Wk.sub ⟨(by first | rfl | (simp only [List.length_map]; rfl) | simp [PX.get]), (by first | rfl | (simp only [List.length_map]; rfl) | simp [PX.get]), (by first | rfl | (simp only [List.length_map]; rfl) | simp [PX.get]), (by first | rfl | (simp only [List.length_map]; rfl) | simp [PX.get]), trivial⟩ ⟨(by first | rfl | (simp only [List.length_map]; rfl) | simp [PX.get]), trivial⟩)
  case pr => exact ⟨Nat.le_refl _, by simp only; omega, by have := hc.len; simp only; omega, hm, by simpa using hini, b0, rfl, rfl⟩
  clear hc hm hini hfl
  rintro ⟨s, B, m⟩ ⟨hs1, hs2, hml, hm, hst, pb, hpb, hfl⟩
  simp only at hs1 hs2 hml hm hst hpb hfl
  rw [hfl]
  conv => whnf
  refine brk_i (fun h1 => ?_) (fun h1 => ?_)
  case refine_2 =>
    have h1 : ¬ s < r0.length + 1 := by have := of_decide_eq_false h1; simp at this; omega
    rw [List.drop_eq_nil_of_le (by omega), failsF]
    conv => whnf
    exact RetA_view 0 rfl ⟨⟨rfl, rfl⟩, rfl⟩
  have h1 : s < r0.length + 1 := by have := of_decide_eq_true h1; simp at this; omega
  have hs200 : (s : Int) ≤ 199 := by
    have : (b0 :: r0).length = r0.length + 1 := rfl
    omega
  obtain ⟨cb, hcb⟩ : ∃ cb, (b0 :: r0)[s]? = some cb := ⟨_, List.getElem?_eq_getElem (by simpa using h1)⟩
  have hdr : r0.drop (s - 1) = cb :: r0.drop s := by
    obtain ⟨s', rfl⟩ : ∃ s', s = s' + 1 := ⟨s - 1, by omega⟩
    rw [List.getElem?_cons_succ] at hcb
    have hlt := (List.getElem?_eq_some_iff.1 hcb).1
    rw [Nat.add_sub_cancel, List.drop_eq_getElem_cons hlt]
    rw [List.getElem?_eq_getElem hlt] at hcb
    rw [Option.some.inj hcb]
  rw [hdr, failsF]
  have hcg : (List.map (fun b => [D.bool b]) (b0 :: r0))[((s : Nat) : Int).toNat]? = some [.bool cb] := by
    rw [Int.toNat_natCast, List.getElem?_map, hcb]; rfl
  have hpg : (List.map (fun b => [D.bool b]) (b0 :: r0))[((s : Int) - 1).toNat]? = some [.bool pb] := by
    rw [show ((s : Int) - 1).toNat = s - 1 by omega, List.getElem?_map, hpb]; rfl
  have hlen3 : m.length ≤ 3 := hml
  conv => whnf
  refine LoopA_p (T := tys) tysOk (by exact drawsB_spec mixed tysOk (by decide +kernel)) (α := List Nat × (Ms × (Nat × Option Nat)))
    (fun p => ⟨[(0, .d (boolsD (b0 :: r0))), (1, .d (phasesD l)), (5, .mp 900001), (7, .d (i64 s)), (8, .mp 43), (45, .it 45)], [(900001, .map (kvG LState.d m)), (43, .map (kvG LState.d p.2.1)), (45, .mit (.mp 900001) m.length p.1 p.2.2.2)], st⟩)
    (fun p => Cnt p.2.1 p.2.2.1 ∧ p.2.2.1 + p.1.length ≤ m.length ∧ Nxt l (cb != pb) m p.1 p.2.1) (fun p => p.1.length) (List.range m.length, ([], (0, none))) ?wk2 ?pr2 ?_
  case wk2 =>
    refine Wk.sub ⟨rfl, rfl, rfl, rfl, rfl, rfl, trivial⟩ ⟨rfl, rfl, ?_, trivial⟩
    show some (Obj.mit (V.mp 900001) (kvG LState.d m).length (List.range (kvG LState.d m).length) none) = _
    rw [kvG_length]
  case pr2 =>
    refine ⟨⟨Nat.le_refl _, fun y v h => by cases h⟩, by simp, fun y => ?_⟩
    constructor
    · intro h; cases h
    · rintro ⟨j, x, v, h1, h2, _⟩
      have := (List.getElem?_eq_some_iff.1 h2).1
      exact absurd (List.mem_range.2 this) h1
  rintro ⟨todo, next, c, cur⟩ ⟨hcn, hct, hnx⟩
  simp only at hcn hct hnx
  conv => whnf
  refine ⟨by simp [kvG_length], fun h0 => ?_, fun i kv hi hkv => ?_⟩
  · have h0 : todo = [] := h0
    subst h0
    have hfin := Nxt.fin hm hnx
    have hnl : next.length ≤ 3 := by have := hcn.len; simp only [List.length_nil] at hct; omega
    conv => whnf
    refine brk_i (fun h2 => ?_) (fun h2 => ?_)
    · have h2 : next.length = 0 := by
        have := of_decide_eq_true h2
        rw [kvG_length] at this
        exact Int.ofNat.inj this
      rw [if_pos (hfin.empty.1 h2)]
      conv => whnf
      exact RetA_view 0 rfl ⟨⟨rfl, rfl⟩, rfl⟩
    · have h2 : ¬ next.length = 0 := by
        have := of_decide_eq_false h2
        rw [kvG_length] at this
        exact fun e => this (congrArg Int.ofNat e)
      rw [if_neg (fun h => h2 (hfin.empty.2 h))]
      conv => whnf
      refine arith_to (((s + 1 : Nat) : Int)) (by (try dsimp only); omega) (wrap_i64 (by (try dsimp only); omega)) ?_
      conv => whnf
      refine ⟨(s + 1, (B.filterMap (stepS l (cb != pb)), next)), by simp only; omega, ⟨by simp only; omega, by simp only; omega, hnl, hfin, ?_, cb, ?_, ?_⟩, (Wk.move 43 900001 rfl rfl).trans (Wk.sub ⟨(by first | rfl | (simp only [List.length_map]; rfl) | simp [PX.get]), (by first | rfl | (simp only [List.length_map]; rfl) | simp [PX.get]), (by first | rfl | (simp only [List.length_map]; rfl) | simp [PX.get]), (by first | rfl | (simp only [List.length_map]; rfl) | simp [PX.get]), trivial⟩ ⟨(by first | rfl | (simp only [List.length_map]; rfl) | simp [PX.get]), trivial⟩)⟩
      · intro y hy
        obtain ⟨x, hx, hxy⟩ := List.mem_filterMap.1 hy
        exact step_ok hp.1 (by omega) (hst x hx) hxy
      · exact hcb
      · rfl
  · obtain ⟨x, v, hx, rfl⟩ := kvG_get hkv
    have hi : i ∈ todo := hi
    have hlt := filter_lt hi
    have hxB := hm.get hx
    obtain ⟨⟨hk0, hk1⟩, hlo⟩ := hst x hxB
    conv => whnf
    obtain ⟨fl, k, long, first⟩ := x
    simp only at hk0 hk1 hlo
    obtain ⟨p, hp1⟩ : ∃ p, l[k.toNat]? = some p := ⟨_, List.getElem?_eq_getElem (by omega)⟩
    have hls : long ≤ 200 := by omega
    cases fl with
    | true =>
      have hsp : ∀ f n, spanOf l ⟨true, k, n, f⟩ = p.flash := fun f n => by simp [spanOf, hp1]
      have hsd : ∀ f n, spanOf l ⟨false, k, n, f⟩ = p.dark := fun f n => by simp [spanOf, hp1]
      refine ⟨by simp [kvG_length], (.agg [.ifc 165 (i64 k), i64 long, .bool first], i64 v), hkv, ?_⟩
      conv => whnf
      refine arith_in (wrap_i64 (by (try dsimp only); omega)) ?_
      conv => whnf
      refine elemK_i _ ⟨by omega, hcg⟩ ?_
      conv => whnf
      refine arith_in (wrap_i64 (by (try dsimp only); omega)) ?_
      conv => whnf
      refine elemK_i _ ⟨by omega, hpg⟩ ?_
      conv => whnf
      cases hch : (cb != pb) with
      | false =>
        rw [show (!(cb == pb)) = false from hch]
        rw [hch] at hnx
        have hS : stepS l false ⟨true, k, long, first⟩ = if long + 1 ≤ p.flash.hi then some ⟨true, k, long + 1, first⟩ else none := by simp [stepS, hsp]
        conv => whnf
        refine InvA_b 139 (by decide +kernel) ?_
        refine DrawCall_v (la139 l k p hk0 hp1) rfl rfl ?_
        conv => whnf
        refine brk_i (fun h3 => ?_) (fun h3 => ?_)
        · have h3 : (long + 1) ≤ p.flash.hi := by simpa using h3
          rw [if_pos h3] at hS
          conv => whnf
          have hnx2 := hnx.some hx hS
          have hcn2 := hcn.inc ⟨true, k, (long + 1), first⟩
          cases hg : getM next ⟨true, k, (long + 1), first⟩ with
          | none =>
            have g1 := findG_none (kd := LState.d) same_state hg 0
            have g2 : findD (LState.d ⟨true, k, (long + 1), first⟩) (kvG LState.d next ++ [(LState.d ⟨true, k, (long + 1), first⟩, i64 0)]) 0 = some (some ((kvG LState.d next).length, i64 0)) := by
              rw [findG_last same_state hg 0]; simp
            have hB : (decide ((0 : Int) ≤ ((kvG LState.d next).length : Int)) && decide (((kvG LState.d next).length : Int) < ((kvG LState.d next ++ [(LState.d ⟨true, k, (long + 1), first⟩, i64 0)]).length : Int))) = true := by
              simp; omega
            have hfin : setVal (kvG LState.d next ++ [(LState.d ⟨true, k, (long + 1), first⟩, i64 0)]) (kvG LState.d next).length (i64 (0 + 1)) = kvG LState.d (incM next ⟨true, k, (long + 1), first⟩) := by
              rw [setVal_end]
              have := putG_none (kd := LState.d) 1 hg
              rw [show i64 (0 + 1) = D.int .i64 1 from rfl, this, incM, hg]; rfl
            refine RegionA_inv mixed tysOk [[], [], [0, 1], [2], [0, 1], [4], [0, 1, 2, 3, 4, 5]] (fun ls => (selE ls [some (95, .mp 43), some (96, .d (LState.d ⟨true, k, (long + 1), first⟩)), some (97, .d (i64 0)), some (98, .d (i64 (0 + 1))), some (99, .d (.tup [i64 0, i64 (kvG LState.d next).length])), some (100, .d (i64 (kvG LState.d next).length)), none] ++ [(0, .d (boolsD (b0 :: r0))), (1, .d (phasesD l)), (5, .mp 900001), (7, .d (i64 s)), (8, .mp 43), (45, .it 45), (10, .ptr 10 0)], [(900001, .map (kvG LState.d m)), (43, .map (sel3 ls 4 6 (kvG LState.d next) (kvG LState.d next ++ [(LState.d ⟨true, k, (long + 1), first⟩, i64 0)]) (setVal (kvG LState.d next ++ [(LState.d ⟨true, k, (long + 1), first⟩, i64 0)]) (kvG LState.d next).length (i64 (0 + 1))))), (45, .mit (.mp 900001) m.length (todo.filter fun j => !Nat.beq j i) (some i)), (10, .box (.dd (LState.cells ⟨true, k, (long + 1), first⟩)))])) (by decide +kernel) ?_ ?_ ?_
            · exact Wk.sub ⟨rfl, rfl, rfl, rfl, rfl, rfl, rfl, trivial⟩ ⟨rfl, rfl, rfl, rfl, trivial⟩
            · conv => whnf
              repeat' (first
                | trivial
                | (refine And.intro ?_ ?_ <;> conv => whnf)
                | (refine findK.mk _ (g1) ?_; conv => whnf)
                | (refine findK.mk _ (g2) ?_; conv => whnf)
                | (refine arith_in (wrap_i64 (by omega)) ?_; conv => whnf)
                | (refine chk_i hB ?_; conv => whnf)
                | (refine Wk.sub ?_ ?_ <;> (repeat' (first | exact trivial | refine ⟨rfl, ?_⟩))))
            · conv => whnf
              refine ⟨(todo.filter fun j => !Nat.beq j i, (incM next ⟨true, k, (long + 1), first⟩, (c + 1, some i))), hlt, ⟨hcn2, by simp only; omega, hnx2⟩, Wk.sub ⟨rfl, rfl, rfl, rfl, rfl, rfl, trivial⟩ ⟨rfl, ?_, rfl, trivial⟩⟩
              exact congrArg (fun z => some (Obj.map z)) hfin
          | some v2 =>
            obtain ⟨j2, q0, q1, q2, q3, q4⟩ := findG_some (kd := LState.d) same_state hg 0
            have hvb := hcn.bd _ _ hg
            have g1 : findD (LState.d ⟨true, k, (long + 1), first⟩) (kvG LState.d next) 0 = some (some (j2, i64 v2)) := by rw [q1]; simp [i64]
            have g2 : findD (LState.d ⟨true, k, (long + 1), first⟩) (setKey (kvG LState.d next) j2 (LState.d ⟨true, k, (long + 1), first⟩)) 0 = some (some (j2, i64 v2)) := by rw [q3]; exact g1
            have hB : (decide ((0 : Int) ≤ (j2 : Int)) && decide ((j2 : Int) < ((setKey (kvG LState.d next) j2 (LState.d ⟨true, k, (long + 1), first⟩)).length : Int))) = true := by
              rw [q3, kvG_length]; simp; omega
            have hfin : setVal (setKey (kvG LState.d next) j2 (LState.d ⟨true, k, (long + 1), first⟩)) j2 (i64 (v2 + 1)) = kvG LState.d (incM next ⟨true, k, (long + 1), first⟩) := by
              rw [q3, show i64 (v2 + 1) = D.int .i64 (v2 + 1) from rfl, q4, incM, hg]; rfl
            refine RegionA_inv mixed tysOk [[], [], [0, 1], [2], [0, 1], [4], [0, 1, 2, 3, 4, 5]] (fun ls => (selE ls [some (95, .mp 43), some (96, .d (LState.d ⟨true, k, (long + 1), first⟩)), some (97, .d (i64 v2)), some (98, .d (i64 (v2 + 1))), some (99, .d (.tup [i64 v2, i64 j2])), some (100, .d (i64 j2)), none] ++ [(0, .d (boolsD (b0 :: r0))), (1, .d (phasesD l)), (5, .mp 900001), (7, .d (i64 s)), (8, .mp 43), (45, .it 45), (10, .ptr 10 0)], [(900001, .map (kvG LState.d m)), (43, .map (sel3 ls 4 6 (kvG LState.d next) (setKey (kvG LState.d next) j2 (LState.d ⟨true, k, (long + 1), first⟩)) (setVal (setKey (kvG LState.d next) j2 (LState.d ⟨true, k, (long + 1), first⟩)) j2 (i64 (v2 + 1))))), (45, .mit (.mp 900001) m.length (todo.filter fun j => !Nat.beq j i) (some i)), (10, .box (.dd (LState.cells ⟨true, k, (long + 1), first⟩)))])) (by decide +kernel) ?_ ?_ ?_
            · exact Wk.sub ⟨rfl, rfl, rfl, rfl, rfl, rfl, rfl, trivial⟩ ⟨rfl, rfl, rfl, rfl, trivial⟩
            · conv => whnf
              repeat' (first
                | trivial
                | (refine And.intro ?_ ?_ <;> conv => whnf)
                | (refine findK.mk _ (g1) ?_; conv => whnf)
                | (refine findK.mk _ (g2) ?_; conv => whnf)
                | (refine arith_in (wrap_i64 (by omega)) ?_; conv => whnf)
                | (refine chk_i hB ?_; conv => whnf)
                | (refine Wk.sub ?_ ?_ <;> (repeat' (first | exact trivial | refine ⟨rfl, ?_⟩))))
            · conv => whnf
              refine ⟨(todo.filter fun j => !Nat.beq j i, (incM next ⟨true, k, (long + 1), first⟩, (c + 1, some i))), hlt, ⟨hcn2, by simp only; omega, hnx2⟩, Wk.sub ⟨rfl, rfl, rfl, rfl, rfl, rfl, trivial⟩ ⟨rfl, ?_, rfl, trivial⟩⟩
              exact congrArg (fun z => some (Obj.map z)) hfin
        · have h3 : ¬ (long + 1) ≤ p.flash.hi := by simpa using h3
          rw [if_neg h3] at hS
          conv => whnf
          exact ⟨(todo.filter fun j => !Nat.beq j i, (next, (c, some i))), hlt, ⟨hcn, by simp only; omega, hnx.none hx hS⟩, (Wk.sub ⟨(by first | rfl | (simp only [List.length_map]; rfl) | simp [PX.get]), (by first | rfl | (simp only [List.length_map]; rfl) | simp [PX.get]), (by first | rfl | (simp only [List.length_map]; rfl) | simp [PX.get]), (by first | rfl | (simp only [List.length_map]; rfl) | simp [PX.get]), (by first | rfl | (simp only [List.length_map]; rfl) | simp [PX.get]), (by first | rfl | (simp only [List.length_map]; rfl) | simp [PX.get]), trivial⟩ ⟨(by first | rfl | (simp only [List.length_map]; rfl) | simp [PX.get]), (by first | rfl | (simp only [List.length_map]; rfl) | simp [PX.get]), (by first | rfl | (simp only [List.length_map]; rfl) | simp [PX.get]), trivial⟩)⟩
      | true =>
        rw [show (!(cb == pb)) = true from hch]
        rw [hch] at hnx
        cases first with
        | true =>
          have hS : stepS l true ⟨true, k, long, true⟩ = if 1 ≤ p.dark.hi then some ⟨false, k, 1, false⟩ else none := by simp [stepS, hsd, behindS]
          conv => whnf
          refine CallA_v (la118 true k (List.map LPhase.cells l).length (by omega) (by simp; omega)) rfl rfl ?_
          conv => whnf
          conv => whnf
          refine InvA_b 140 (by decide +kernel) ?_
          refine DrawCall_v (la140 l k p hk0 hp1) rfl rfl ?_
          conv => whnf
          refine brk_i (fun h3 => ?_) (fun h3 => ?_)
          · have h3 : 1 ≤ p.dark.hi := by simpa using h3
            rw [if_pos h3] at hS
            conv => whnf
            have hnx2 := hnx.some hx hS
            have hcn2 := hcn.inc ⟨false, k, 1, false⟩
            cases hg : getM next ⟨false, k, 1, false⟩ with
            | none =>
              have g1 := findG_none (kd := LState.d) same_state hg 0
              have g2 : findD (LState.d ⟨false, k, 1, false⟩) (kvG LState.d next ++ [(LState.d ⟨false, k, 1, false⟩, i64 0)]) 0 = some (some ((kvG LState.d next).length, i64 0)) := by
                rw [findG_last same_state hg 0]; simp
              have hB : (decide ((0 : Int) ≤ ((kvG LState.d next).length : Int)) && decide (((kvG LState.d next).length : Int) < ((kvG LState.d next ++ [(LState.d ⟨false, k, 1, false⟩, i64 0)]).length : Int))) = true := by
                simp; omega
              have hfin : setVal (kvG LState.d next ++ [(LState.d ⟨false, k, 1, false⟩, i64 0)]) (kvG LState.d next).length (i64 (0 + 1)) = kvG LState.d (incM next ⟨false, k, 1, false⟩) := by
                rw [setVal_end]
                have := putG_none (kd := LState.d) 1 hg
                rw [show i64 (0 + 1) = D.int .i64 1 from rfl, this, incM, hg]; rfl
              refine RegionA_inv mixed tysOk [[], [], [0, 1], [2], [0, 1], [4], [0, 1, 2, 3, 4, 5]] (fun ls => (selE ls [some (95, .mp 43), some (96, .d (LState.d ⟨false, k, 1, false⟩)), some (97, .d (i64 0)), some (98, .d (i64 (0 + 1))), some (99, .d (.tup [i64 0, i64 (kvG LState.d next).length])), some (100, .d (i64 (kvG LState.d next).length)), none] ++ [(0, .d (boolsD (b0 :: r0))), (1, .d (phasesD l)), (5, .mp 900001), (7, .d (i64 s)), (8, .mp 43), (45, .it 45), (10, .ptr 10 0)], [(900001, .map (kvG LState.d m)), (43, .map (sel3 ls 4 6 (kvG LState.d next) (kvG LState.d next ++ [(LState.d ⟨false, k, 1, false⟩, i64 0)]) (setVal (kvG LState.d next ++ [(LState.d ⟨false, k, 1, false⟩, i64 0)]) (kvG LState.d next).length (i64 (0 + 1))))), (45, .mit (.mp 900001) m.length (todo.filter fun j => !Nat.beq j i) (some i)), (10, .box (.dd (LState.cells ⟨false, k, 1, false⟩)))])) (by decide +kernel) ?_ ?_ ?_
              · exact Wk.sub ⟨rfl, rfl, rfl, rfl, rfl, rfl, rfl, trivial⟩ ⟨rfl, rfl, rfl, rfl, trivial⟩
              · conv => whnf
                repeat' (first
                  | trivial
                  | (refine And.intro ?_ ?_ <;> conv => whnf)
                  | (refine findK.mk _ (g1) ?_; conv => whnf)
                  | (refine findK.mk _ (g2) ?_; conv => whnf)
                  | (refine arith_in (wrap_i64 (by omega)) ?_; conv => whnf)
                  | (refine chk_i hB ?_; conv => whnf)
                  | (refine Wk.sub ?_ ?_ <;> (repeat' (first | exact trivial | refine ⟨rfl, ?_⟩))))
              · conv => whnf
                refine ⟨(todo.filter fun j => !Nat.beq j i, (incM next ⟨false, k, 1, false⟩, (c + 1, some i))), hlt, ⟨hcn2, by simp only; omega, hnx2⟩, Wk.sub ⟨rfl, rfl, rfl, rfl, rfl, rfl, trivial⟩ ⟨rfl, ?_, rfl, trivial⟩⟩
                exact congrArg (fun z => some (Obj.map z)) hfin
            | some v2 =>
              obtain ⟨j2, q0, q1, q2, q3, q4⟩ := findG_some (kd := LState.d) same_state hg 0
              have hvb := hcn.bd _ _ hg
              have g1 : findD (LState.d ⟨false, k, 1, false⟩) (kvG LState.d next) 0 = some (some (j2, i64 v2)) := by rw [q1]; simp [i64]
              have g2 : findD (LState.d ⟨false, k, 1, false⟩) (setKey (kvG LState.d next) j2 (LState.d ⟨false, k, 1, false⟩)) 0 = some (some (j2, i64 v2)) := by rw [q3]; exact g1
              have hB : (decide ((0 : Int) ≤ (j2 : Int)) && decide ((j2 : Int) < ((setKey (kvG LState.d next) j2 (LState.d ⟨false, k, 1, false⟩)).length : Int))) = true := by
                rw [q3, kvG_length]; simp; omega
              have hfin : setVal (setKey (kvG LState.d next) j2 (LState.d ⟨false, k, 1, false⟩)) j2 (i64 (v2 + 1)) = kvG LState.d (incM next ⟨false, k, 1, false⟩) := by
                rw [q3, show i64 (v2 + 1) = D.int .i64 (v2 + 1) from rfl, q4, incM, hg]; rfl
              refine RegionA_inv mixed tysOk [[], [], [0, 1], [2], [0, 1], [4], [0, 1, 2, 3, 4, 5]] (fun ls => (selE ls [some (95, .mp 43), some (96, .d (LState.d ⟨false, k, 1, false⟩)), some (97, .d (i64 v2)), some (98, .d (i64 (v2 + 1))), some (99, .d (.tup [i64 v2, i64 j2])), some (100, .d (i64 j2)), none] ++ [(0, .d (boolsD (b0 :: r0))), (1, .d (phasesD l)), (5, .mp 900001), (7, .d (i64 s)), (8, .mp 43), (45, .it 45), (10, .ptr 10 0)], [(900001, .map (kvG LState.d m)), (43, .map (sel3 ls 4 6 (kvG LState.d next) (setKey (kvG LState.d next) j2 (LState.d ⟨false, k, 1, false⟩)) (setVal (setKey (kvG LState.d next) j2 (LState.d ⟨false, k, 1, false⟩)) j2 (i64 (v2 + 1))))), (45, .mit (.mp 900001) m.length (todo.filter fun j => !Nat.beq j i) (some i)), (10, .box (.dd (LState.cells ⟨false, k, 1, false⟩)))])) (by decide +kernel) ?_ ?_ ?_
              · exact Wk.sub ⟨rfl, rfl, rfl, rfl, rfl, rfl, rfl, trivial⟩ ⟨rfl, rfl, rfl, rfl, trivial⟩
              · conv => whnf
                repeat' (first
                  | trivial
                  | (refine And.intro ?_ ?_ <;> conv => whnf)
                  | (refine findK.mk _ (g1) ?_; conv => whnf)
                  | (refine findK.mk _ (g2) ?_; conv => whnf)
                  | (refine arith_in (wrap_i64 (by omega)) ?_; conv => whnf)
                  | (refine chk_i hB ?_; conv => whnf)
                  | (refine Wk.sub ?_ ?_ <;> (repeat' (first | exact trivial | refine ⟨rfl, ?_⟩))))
              · conv => whnf
                refine ⟨(todo.filter fun j => !Nat.beq j i, (incM next ⟨false, k, 1, false⟩, (c + 1, some i))), hlt, ⟨hcn2, by simp only; omega, hnx2⟩, Wk.sub ⟨rfl, rfl, rfl, rfl, rfl, rfl, trivial⟩ ⟨rfl, ?_, rfl, trivial⟩⟩
                exact congrArg (fun z => some (Obj.map z)) hfin
          · have h3 : ¬ 1 ≤ p.dark.hi := by simpa using h3
            rw [if_neg h3] at hS
            conv => whnf
            exact ⟨(todo.filter fun j => !Nat.beq j i, (next, (c, some i))), hlt, ⟨hcn, by simp only; omega, hnx.none hx hS⟩, (Wk.sub ⟨(by first | rfl | (simp only [List.length_map]; rfl) | simp [PX.get]), (by first | rfl | (simp only [List.length_map]; rfl) | simp [PX.get]), (by first | rfl | (simp only [List.length_map]; rfl) | simp [PX.get]), (by first | rfl | (simp only [List.length_map]; rfl) | simp [PX.get]), (by first | rfl | (simp only [List.length_map]; rfl) | simp [PX.get]), (by first | rfl | (simp only [List.length_map]; rfl) | simp [PX.get]), trivial⟩ ⟨(by first | rfl | (simp only [List.length_map]; rfl) | simp [PX.get]), (by first | rfl | (simp only [List.length_map]; rfl) | simp [PX.get]), (by first | rfl | (simp only [List.length_map]; rfl) | simp [PX.get]), trivial⟩)⟩
        | false =>
          conv => whnf
          refine InvA_b 139 (by decide +kernel) ?_
          refine DrawCall_v (la139 l k p hk0 hp1) rfl rfl ?_
          conv => whnf
          refine brk_i (fun h2 => ?_) (fun h2 => ?_)
          · have h2 : long < p.flash.lo := by simpa using h2
            have hS : stepS l true ⟨true, k, long, false⟩ = none := by simp [stepS, hsp, h2]
            conv => whnf
            exact ⟨(todo.filter fun j => !Nat.beq j i, (next, (c, some i))), hlt, ⟨hcn, by simp only; omega, hnx.none hx hS⟩, (Wk.sub ⟨(by first | rfl | (simp only [List.length_map]; rfl) | simp [PX.get]), (by first | rfl | (simp only [List.length_map]; rfl) | simp [PX.get]), (by first | rfl | (simp only [List.length_map]; rfl) | simp [PX.get]), (by first | rfl | (simp only [List.length_map]; rfl) | simp [PX.get]), (by first | rfl | (simp only [List.length_map]; rfl) | simp [PX.get]), (by first | rfl | (simp only [List.length_map]; rfl) | simp [PX.get]), trivial⟩ ⟨(by first | rfl | (simp only [List.length_map]; rfl) | simp [PX.get]), (by first | rfl | (simp only [List.length_map]; rfl) | simp [PX.get]), (by first | rfl | (simp only [List.length_map]; rfl) | simp [PX.get]), trivial⟩)⟩
          · have h2 : ¬ long < p.flash.lo := by simpa using h2
            have hS : stepS l true ⟨true, k, long, false⟩ = if 1 ≤ p.dark.hi then some ⟨false, k, 1, false⟩ else none := by simp [stepS, hsp, hsd, behindS, h2]
            conv => whnf
            refine CallA_v (la118 true k (List.map LPhase.cells l).length (by omega) (by simp; omega)) rfl rfl ?_
            conv => whnf
            conv => whnf
            refine InvA_b 140 (by decide +kernel) ?_
            refine DrawCall_v (la140 l k p hk0 hp1) rfl rfl ?_
            conv => whnf
            refine brk_i (fun h3 => ?_) (fun h3 => ?_)
            · have h3 : 1 ≤ p.dark.hi := by simpa using h3
              rw [if_pos h3] at hS
              conv => whnf
              have hnx2 := hnx.some hx hS
              have hcn2 := hcn.inc ⟨false, k, 1, false⟩
              cases hg : getM next ⟨false, k, 1, false⟩ with
              | none =>
                have g1 := findG_none (kd := LState.d) same_state hg 0
                have g2 : findD (LState.d ⟨false, k, 1, false⟩) (kvG LState.d next ++ [(LState.d ⟨false, k, 1, false⟩, i64 0)]) 0 = some (some ((kvG LState.d next).length, i64 0)) := by
                  rw [findG_last same_state hg 0]; simp
                have hB : (decide ((0 : Int) ≤ ((kvG LState.d next).length : Int)) && decide (((kvG LState.d next).length : Int) < ((kvG LState.d next ++ [(LState.d ⟨false, k, 1, false⟩, i64 0)]).length : Int))) = true := by
                  simp; omega
                have hfin : setVal (kvG LState.d next ++ [(LState.d ⟨false, k, 1, false⟩, i64 0)]) (kvG LState.d next).length (i64 (0 + 1)) = kvG LState.d (incM next ⟨false, k, 1, false⟩) := by
                  rw [setVal_end]
                  have := putG_none (kd := LState.d) 1 hg
                  rw [show i64 (0 + 1) = D.int .i64 1 from rfl, this, incM, hg]; rfl
                refine RegionA_inv mixed tysOk [[], [], [0, 1], [2], [0, 1], [4], [0, 1, 2, 3, 4, 5]] (fun ls => (selE ls [some (95, .mp 43), some (96, .d (LState.d ⟨false, k, 1, false⟩)), some (97, .d (i64 0)), some (98, .d (i64 (0 + 1))), some (99, .d (.tup [i64 0, i64 (kvG LState.d next).length])), some (100, .d (i64 (kvG LState.d next).length)), none] ++ [(0, .d (boolsD (b0 :: r0))), (1, .d (phasesD l)), (5, .mp 900001), (7, .d (i64 s)), (8, .mp 43), (45, .it 45), (10, .ptr 10 0)], [(900001, .map (kvG LState.d m)), (43, .map (sel3 ls 4 6 (kvG LState.d next) (kvG LState.d next ++ [(LState.d ⟨false, k, 1, false⟩, i64 0)]) (setVal (kvG LState.d next ++ [(LState.d ⟨false, k, 1, false⟩, i64 0)]) (kvG LState.d next).length (i64 (0 + 1))))), (45, .mit (.mp 900001) m.length (todo.filter fun j => !Nat.beq j i) (some i)), (10, .box (.dd (LState.cells ⟨false, k, 1, false⟩)))])) (by decide +kernel) ?_ ?_ ?_
                · exact Wk.sub ⟨rfl, rfl, rfl, rfl, rfl, rfl, rfl, trivial⟩ ⟨rfl, rfl, rfl, rfl, trivial⟩
                · conv => whnf
                  repeat' (first
                    | trivial
                    | (refine And.intro ?_ ?_ <;> conv => whnf)
                    | (refine findK.mk _ (g1) ?_; conv => whnf)
                    | (refine findK.mk _ (g2) ?_; conv => whnf)
                    | (refine arith_in (wrap_i64 (by omega)) ?_; conv => whnf)
                    | (refine chk_i hB ?_; conv => whnf)
                    | (refine Wk.sub ?_ ?_ <;> (repeat' (first | exact trivial | refine ⟨rfl, ?_⟩))))
                · conv => whnf
                  refine ⟨(todo.filter fun j => !Nat.beq j i, (incM next ⟨false, k, 1, false⟩, (c + 1, some i))), hlt, ⟨hcn2, by simp only; omega, hnx2⟩, Wk.sub ⟨rfl, rfl, rfl, rfl, rfl, rfl, trivial⟩ ⟨rfl, ?_, rfl, trivial⟩⟩
                  exact congrArg (fun z => some (Obj.map z)) hfin
              | some v2 =>
                obtain ⟨j2, q0, q1, q2, q3, q4⟩ := findG_some (kd := LState.d) same_state hg 0
                have hvb := hcn.bd _ _ hg
                have g1 : findD (LState.d ⟨false, k, 1, false⟩) (kvG LState.d next) 0 = some (some (j2, i64 v2)) := by rw [q1]; simp [i64]
                have g2 : findD (LState.d ⟨false, k, 1, false⟩) (setKey (kvG LState.d next) j2 (LState.d ⟨false, k, 1, false⟩)) 0 = some (some (j2, i64 v2)) := by rw [q3]; exact g1
                have hB : (decide ((0 : Int) ≤ (j2 : Int)) && decide ((j2 : Int) < ((setKey (kvG LState.d next) j2 (LState.d ⟨false, k, 1, false⟩)).length : Int))) = true := by
                  rw [q3, kvG_length]; simp; omega
                have hfin : setVal (setKey (kvG LState.d next) j2 (LState.d ⟨false, k, 1, false⟩)) j2 (i64 (v2 + 1)) = kvG LState.d (incM next ⟨false, k, 1, false⟩) := by
                  rw [q3, show i64 (v2 + 1) = D.int .i64 (v2 + 1) from rfl, q4, incM, hg]; rfl
                refine RegionA_inv mixed tysOk [[], [], [0, 1], [2], [0, 1], [4], [0, 1, 2, 3, 4, 5]] (fun ls => (selE ls [some (95, .mp 43), some (96, .d (LState.d ⟨false, k, 1, false⟩)), some (97, .d (i64 v2)), some (98, .d (i64 (v2 + 1))), some (99, .d (.tup [i64 v2, i64 j2])), some (100, .d (i64 j2)), none] ++ [(0, .d (boolsD (b0 :: r0))), (1, .d (phasesD l)), (5, .mp 900001), (7, .d (i64 s)), (8, .mp 43), (45, .it 45), (10, .ptr 10 0)], [(900001, .map (kvG LState.d m)), (43, .map (sel3 ls 4 6 (kvG LState.d next) (setKey (kvG LState.d next) j2 (LState.d ⟨false, k, 1, false⟩)) (setVal (setKey (kvG LState.d next) j2 (LState.d ⟨false, k, 1, false⟩)) j2 (i64 (v2 + 1))))), (45, .mit (.mp 900001) m.length (todo.filter fun j => !Nat.beq j i) (some i)), (10, .box (.dd (LState.cells ⟨false, k, 1, false⟩)))])) (by decide +kernel) ?_ ?_ ?_
                · exact Wk.sub ⟨rfl, rfl, rfl, rfl, rfl, rfl, rfl, trivial⟩ ⟨rfl, rfl, rfl, rfl, trivial⟩
                · conv => whnf
                  repeat' (first
                    | trivial
                    | (refine And.intro ?_ ?_ <;> conv => whnf)
                    | (refine findK.mk _ (g1) ?_; conv => whnf)
                    | (refine findK.mk _ (g2) ?_; conv => whnf)
                    | (refine arith_in (wrap_i64 (by omega)) ?_; conv => whnf)
                    | (refine chk_i hB ?_; conv => whnf)
                    | (refine Wk.sub ?_ ?_ <;> (repeat' (first | exact trivial | refine ⟨rfl, ?_⟩))))
                · conv => whnf
                  refine ⟨(todo.filter fun j => !Nat.beq j i, (incM next ⟨false, k, 1, false⟩, (c + 1, some i))), hlt, ⟨hcn2, by simp only; omega, hnx2⟩, Wk.sub ⟨rfl, rfl, rfl, rfl, rfl, rfl, trivial⟩ ⟨rfl, ?_, rfl, trivial⟩⟩
                  exact congrArg (fun z => some (Obj.map z)) hfin
            · have h3 : ¬ 1 ≤ p.dark.hi := by simpa using h3
              rw [if_neg h3] at hS
              conv => whnf
              exact ⟨(todo.filter fun j => !Nat.beq j i, (next, (c, some i))), hlt, ⟨hcn, by simp only; omega, hnx.none hx hS⟩, (Wk.sub ⟨(by first | rfl | (simp only [List.length_map]; rfl) | simp [PX.get]), (by first | rfl | (simp only [List.length_map]; rfl) | simp [PX.get]), (by first | rfl | (simp only [List.length_map]; rfl) | simp [PX.get]), (by first | rfl | (simp only [List.length_map]; rfl) | simp [PX.get]), (by first | rfl | (simp only [List.length_map]; rfl) | simp [PX.get]), (by first | rfl | (simp only [List.length_map]; rfl) | simp [PX.get]), trivial⟩ ⟨(by first | rfl | (simp only [List.length_map]; rfl) | simp [PX.get]), (by first | rfl | (simp only [List.length_map]; rfl) | simp [PX.get]), (by first | rfl | (simp only [List.length_map]; rfl) | simp [PX.get]), trivial⟩)⟩
    | false =>
      have hsp : ∀ f n, spanOf l ⟨false, k, n, f⟩ = p.dark := fun f n => by simp [spanOf, hp1]
      obtain ⟨k2, hk2⟩ : ∃ k2, k2 = (k + 1) % ((List.map LPhase.cells l).length : Int) := ⟨_, rfl⟩
      have hk2e : (k + 1) % (l.length : Int) = k2 := by rw [hk2, List.length_map]
      have hk20 : 0 ≤ k2 := by rw [← hk2e]; exact Int.emod_nonneg _ (by omega)
      have hk21 : k2 < l.length := by rw [← hk2e]; exact Int.emod_lt_of_pos _ (by omega)
      obtain ⟨p2, hp2⟩ : ∃ p, l[k2.toNat]? = some p := ⟨_, List.getElem?_eq_getElem (by omega)⟩
      have hsd : ∀ f n, spanOf l ⟨true, k2, n, f⟩ = p2.flash := fun f n => by simp [spanOf, hp2]
      refine ⟨by simp [kvG_length], (.agg [.ifc 170 (i64 k), i64 long, .bool first], i64 v), hkv, ?_⟩
      conv => whnf
      refine arith_in (wrap_i64 (by (try dsimp only); omega)) ?_
      conv => whnf
      refine elemK_i _ ⟨by omega, hcg⟩ ?_
      conv => whnf
      refine arith_in (wrap_i64 (by (try dsimp only); omega)) ?_
      conv => whnf
      refine elemK_i _ ⟨by omega, hpg⟩ ?_
      conv => whnf
      cases hch : (cb != pb) with
      | false =>
        rw [show (!(cb == pb)) = false from hch]
        rw [hch] at hnx
        have hS : stepS l false ⟨false, k, long, first⟩ = if long + 1 ≤ p.dark.hi then some ⟨false, k, long + 1, first⟩ else none := by simp [stepS, hsp]
        conv => whnf
        refine InvA_b 140 (by decide +kernel) ?_
        refine DrawCall_v (la140 l k p hk0 hp1) rfl rfl ?_
        conv => whnf
        refine brk_i (fun h3 => ?_) (fun h3 => ?_)
        · have h3 : (long + 1) ≤ p.dark.hi := by simpa using h3
          rw [if_pos h3] at hS
          conv => whnf
          have hnx2 := hnx.some hx hS
          have hcn2 := hcn.inc ⟨false, k, (long + 1), first⟩
          cases hg : getM next ⟨false, k, (long + 1), first⟩ with
          | none =>
            have g1 := findG_none (kd := LState.d) same_state hg 0
            have g2 : findD (LState.d ⟨false, k, (long + 1), first⟩) (kvG LState.d next ++ [(LState.d ⟨false, k, (long + 1), first⟩, i64 0)]) 0 = some (some ((kvG LState.d next).length, i64 0)) := by
              rw [findG_last same_state hg 0]; simp
            have hB : (decide ((0 : Int) ≤ ((kvG LState.d next).length : Int)) && decide (((kvG LState.d next).length : Int) < ((kvG LState.d next ++ [(LState.d ⟨false, k, (long + 1), first⟩, i64 0)]).length : Int))) = true := by
              simp; omega
            have hfin : setVal (kvG LState.d next ++ [(LState.d ⟨false, k, (long + 1), first⟩, i64 0)]) (kvG LState.d next).length (i64 (0 + 1)) = kvG LState.d (incM next ⟨false, k, (long + 1), first⟩) := by
              rw [setVal_end]
              have := putG_none (kd := LState.d) 1 hg
              rw [show i64 (0 + 1) = D.int .i64 1 from rfl, this, incM, hg]; rfl
            refine RegionA_inv mixed tysOk [[], [], [0, 1], [2], [0, 1], [4], [0, 1, 2, 3, 4, 5]] (fun ls => (selE ls [some (95, .mp 43), some (96, .d (LState.d ⟨false, k, (long + 1), first⟩)), some (97, .d (i64 0)), some (98, .d (i64 (0 + 1))), some (99, .d (.tup [i64 0, i64 (kvG LState.d next).length])), some (100, .d (i64 (kvG LState.d next).length)), none] ++ [(0, .d (boolsD (b0 :: r0))), (1, .d (phasesD l)), (5, .mp 900001), (7, .d (i64 s)), (8, .mp 43), (45, .it 45), (10, .ptr 10 0)], [(900001, .map (kvG LState.d m)), (43, .map (sel3 ls 4 6 (kvG LState.d next) (kvG LState.d next ++ [(LState.d ⟨false, k, (long + 1), first⟩, i64 0)]) (setVal (kvG LState.d next ++ [(LState.d ⟨false, k, (long + 1), first⟩, i64 0)]) (kvG LState.d next).length (i64 (0 + 1))))), (45, .mit (.mp 900001) m.length (todo.filter fun j => !Nat.beq j i) (some i)), (10, .box (.dd (LState.cells ⟨false, k, (long + 1), first⟩)))])) (by decide +kernel) ?_ ?_ ?_
            · exact Wk.sub ⟨rfl, rfl, rfl, rfl, rfl, rfl, rfl, trivial⟩ ⟨rfl, rfl, rfl, rfl, trivial⟩
            · conv => whnf
              repeat' (first
                | trivial
                | (refine And.intro ?_ ?_ <;> conv => whnf)
                | (refine findK.mk _ (g1) ?_; conv => whnf)
                | (refine findK.mk _ (g2) ?_; conv => whnf)
                | (refine arith_in (wrap_i64 (by omega)) ?_; conv => whnf)
                | (refine chk_i hB ?_; conv => whnf)
                | (refine Wk.sub ?_ ?_ <;> (repeat' (first | exact trivial | refine ⟨rfl, ?_⟩))))
            · conv => whnf
              refine ⟨(todo.filter fun j => !Nat.beq j i, (incM next ⟨false, k, (long + 1), first⟩, (c + 1, some i))), hlt, ⟨hcn2, by simp only; omega, hnx2⟩, Wk.sub ⟨rfl, rfl, rfl, rfl, rfl, rfl, trivial⟩ ⟨rfl, ?_, rfl, trivial⟩⟩
              exact congrArg (fun z => some (Obj.map z)) hfin
          | some v2 =>
            obtain ⟨j2, q0, q1, q2, q3, q4⟩ := findG_some (kd := LState.d) same_state hg 0
            have hvb := hcn.bd _ _ hg
            have g1 : findD (LState.d ⟨false, k, (long + 1), first⟩) (kvG LState.d next) 0 = some (some (j2, i64 v2)) := by rw [q1]; simp [i64]
            have g2 : findD (LState.d ⟨false, k, (long + 1), first⟩) (setKey (kvG LState.d next) j2 (LState.d ⟨false, k, (long + 1), first⟩)) 0 = some (some (j2, i64 v2)) := by rw [q3]; exact g1
            have hB : (decide ((0 : Int) ≤ (j2 : Int)) && decide ((j2 : Int) < ((setKey (kvG LState.d next) j2 (LState.d ⟨false, k, (long + 1), first⟩)).length : Int))) = true := by
              rw [q3, kvG_length]; simp; omega
            have hfin : setVal (setKey (kvG LState.d next) j2 (LState.d ⟨false, k, (long + 1), first⟩)) j2 (i64 (v2 + 1)) = kvG LState.d (incM next ⟨false, k, (long + 1), first⟩) := by
              rw [q3, show i64 (v2 + 1) = D.int .i64 (v2 + 1) from rfl, q4, incM, hg]; rfl
            refine RegionA_inv mixed tysOk [[], [], [0, 1], [2], [0, 1], [4], [0, 1, 2, 3, 4, 5]] (fun ls => (selE ls [some (95, .mp 43), some (96, .d (LState.d ⟨false, k, (long + 1), first⟩)), some (97, .d (i64 v2)), some (98, .d (i64 (v2 + 1))), some (99, .d (.tup [i64 v2, i64 j2])), some (100, .d (i64 j2)), none] ++ [(0, .d (boolsD (b0 :: r0))), (1, .d (phasesD l)), (5, .mp 900001), (7, .d (i64 s)), (8, .mp 43), (45, .it 45), (10, .ptr 10 0)], [(900001, .map (kvG LState.d m)), (43, .map (sel3 ls 4 6 (kvG LState.d next) (setKey (kvG LState.d next) j2 (LState.d ⟨false, k, (long + 1), first⟩)) (setVal (setKey (kvG LState.d next) j2 (LState.d ⟨false, k, (long + 1), first⟩)) j2 (i64 (v2 + 1))))), (45, .mit (.mp 900001) m.length (todo.filter fun j => !Nat.beq j i) (some i)), (10, .box (.dd (LState.cells ⟨false, k, (long + 1), first⟩)))])) (by decide +kernel) ?_ ?_ ?_
            · exact Wk.sub ⟨rfl, rfl, rfl, rfl, rfl, rfl, rfl, trivial⟩ ⟨rfl, rfl, rfl, rfl, trivial⟩
            · conv => whnf
              repeat' (first
                | trivial
                | (refine And.intro ?_ ?_ <;> conv => whnf)
                | (refine findK.mk _ (g1) ?_; conv => whnf)
                | (refine findK.mk _ (g2) ?_; conv => whnf)
                | (refine arith_in (wrap_i64 (by omega)) ?_; conv => whnf)
                | (refine chk_i hB ?_; conv => whnf)
                | (refine Wk.sub ?_ ?_ <;> (repeat' (first | exact trivial | refine ⟨rfl, ?_⟩))))
            · conv => whnf
              refine ⟨(todo.filter fun j => !Nat.beq j i, (incM next ⟨false, k, (long + 1), first⟩, (c + 1, some i))), hlt, ⟨hcn2, by simp only; omega, hnx2⟩, Wk.sub ⟨rfl, rfl, rfl, rfl, rfl, rfl, trivial⟩ ⟨rfl, ?_, rfl, trivial⟩⟩
              exact congrArg (fun z => some (Obj.map z)) hfin
        · have h3 : ¬ (long + 1) ≤ p.dark.hi := by simpa using h3
          rw [if_neg h3] at hS
          conv => whnf
          exact ⟨(todo.filter fun j => !Nat.beq j i, (next, (c, some i))), hlt, ⟨hcn, by simp only; omega, hnx.none hx hS⟩, (Wk.sub ⟨(by first | rfl | (simp only [List.length_map]; rfl) | simp [PX.get]), (by first | rfl | (simp only [List.length_map]; rfl) | simp [PX.get]), (by first | rfl | (simp only [List.length_map]; rfl) | simp [PX.get]), (by first | rfl | (simp only [List.length_map]; rfl) | simp [PX.get]), (by first | rfl | (simp only [List.length_map]; rfl) | simp [PX.get]), (by first | rfl | (simp only [List.length_map]; rfl) | simp [PX.get]), trivial⟩ ⟨(by first | rfl | (simp only [List.length_map]; rfl) | simp [PX.get]), (by first | rfl | (simp only [List.length_map]; rfl) | simp [PX.get]), (by first | rfl | (simp only [List.length_map]; rfl) | simp [PX.get]), trivial⟩)⟩
      | true =>
        rw [show (!(cb == pb)) = true from hch]
        rw [hch] at hnx
        cases first with
        | true =>
          have hS : stepS l true ⟨false, k, long, true⟩ = if 1 ≤ p2.flash.hi then some ⟨true, k2, 1, false⟩ else none := by simp [stepS, hsd, behindS, hk2e]
          conv => whnf
          refine CallA_v (FnV.cast (la118 false k (List.map LPhase.cells l).length (by omega) (by simp; omega)) (r' := .ifc 165 (i64 k2)) (by rw [← hk2]; rfl)) rfl rfl ?_
          conv => whnf
          refine InvA_b 139 (by decide +kernel) ?_
          refine DrawCall_v (la139 l k2 p2 hk20 hp2) rfl rfl ?_
          conv => whnf
          refine brk_i (fun h3 => ?_) (fun h3 => ?_)
          · have h3 : 1 ≤ p2.flash.hi := by simpa using h3
            rw [if_pos h3] at hS
            conv => whnf
            have hnx2 := hnx.some hx hS
            have hcn2 := hcn.inc ⟨true, k2, 1, false⟩
            cases hg : getM next ⟨true, k2, 1, false⟩ with
            | none =>
              have g1 := findG_none (kd := LState.d) same_state hg 0
              have g2 : findD (LState.d ⟨true, k2, 1, false⟩) (kvG LState.d next ++ [(LState.d ⟨true, k2, 1, false⟩, i64 0)]) 0 = some (some ((kvG LState.d next).length, i64 0)) := by
                rw [findG_last same_state hg 0]; simp
              have hB : (decide ((0 : Int) ≤ ((kvG LState.d next).length : Int)) && decide (((kvG LState.d next).length : Int) < ((kvG LState.d next ++ [(LState.d ⟨true, k2, 1, false⟩, i64 0)]).length : Int))) = true := by
                simp; omega
              have hfin : setVal (kvG LState.d next ++ [(LState.d ⟨true, k2, 1, false⟩, i64 0)]) (kvG LState.d next).length (i64 (0 + 1)) = kvG LState.d (incM next ⟨true, k2, 1, false⟩) := by
                rw [setVal_end]
                have := putG_none (kd := LState.d) 1 hg
                rw [show i64 (0 + 1) = D.int .i64 1 from rfl, this, incM, hg]; rfl
              refine RegionA_inv mixed tysOk [[], [], [0, 1], [2], [0, 1], [4], [0, 1, 2, 3, 4, 5]] (fun ls => (selE ls [some (95, .mp 43), some (96, .d (LState.d ⟨true, k2, 1, false⟩)), some (97, .d (i64 0)), some (98, .d (i64 (0 + 1))), some (99, .d (.tup [i64 0, i64 (kvG LState.d next).length])), some (100, .d (i64 (kvG LState.d next).length)), none] ++ [(0, .d (boolsD (b0 :: r0))), (1, .d (phasesD l)), (5, .mp 900001), (7, .d (i64 s)), (8, .mp 43), (45, .it 45), (10, .ptr 10 0)], [(900001, .map (kvG LState.d m)), (43, .map (sel3 ls 4 6 (kvG LState.d next) (kvG LState.d next ++ [(LState.d ⟨true, k2, 1, false⟩, i64 0)]) (setVal (kvG LState.d next ++ [(LState.d ⟨true, k2, 1, false⟩, i64 0)]) (kvG LState.d next).length (i64 (0 + 1))))), (45, .mit (.mp 900001) m.length (todo.filter fun j => !Nat.beq j i) (some i)), (10, .box (.dd (LState.cells ⟨true, k2, 1, false⟩)))])) (by decide +kernel) ?_ ?_ ?_
              · exact Wk.sub ⟨rfl, rfl, rfl, rfl, rfl, rfl, rfl, trivial⟩ ⟨rfl, rfl, rfl, rfl, trivial⟩
              · conv => whnf
                repeat' (first
                  | trivial
                  | (refine And.intro ?_ ?_ <;> conv => whnf)
                  | (refine findK.mk _ (g1) ?_; conv => whnf)
                  | (refine findK.mk _ (g2) ?_; conv => whnf)
                  | (refine arith_in (wrap_i64 (by omega)) ?_; conv => whnf)
                  | (refine chk_i hB ?_; conv => whnf)
                  | (refine Wk.sub ?_ ?_ <;> (repeat' (first | exact trivial | refine ⟨rfl, ?_⟩))))
              · conv => whnf
                refine ⟨(todo.filter fun j => !Nat.beq j i, (incM next ⟨true, k2, 1, false⟩, (c + 1, some i))), hlt, ⟨hcn2, by simp only; omega, hnx2⟩, Wk.sub ⟨rfl, rfl, rfl, rfl, rfl, rfl, trivial⟩ ⟨rfl, ?_, rfl, trivial⟩⟩
                exact congrArg (fun z => some (Obj.map z)) hfin
            | some v2 =>
              obtain ⟨j2, q0, q1, q2, q3, q4⟩ := findG_some (kd := LState.d) same_state hg 0
              have hvb := hcn.bd _ _ hg
              have g1 : findD (LState.d ⟨true, k2, 1, false⟩) (kvG LState.d next) 0 = some (some (j2, i64 v2)) := by rw [q1]; simp [i64]
              have g2 : findD (LState.d ⟨true, k2, 1, false⟩) (setKey (kvG LState.d next) j2 (LState.d ⟨true, k2, 1, false⟩)) 0 = some (some (j2, i64 v2)) := by rw [q3]; exact g1
              have hB : (decide ((0 : Int) ≤ (j2 : Int)) && decide ((j2 : Int) < ((setKey (kvG LState.d next) j2 (LState.d ⟨true, k2, 1, false⟩)).length : Int))) = true := by
                rw [q3, kvG_length]; simp; omega
              have hfin : setVal (setKey (kvG LState.d next) j2 (LState.d ⟨true, k2, 1, false⟩)) j2 (i64 (v2 + 1)) = kvG LState.d (incM next ⟨true, k2, 1, false⟩) := by
                rw [q3, show i64 (v2 + 1) = D.int .i64 (v2 + 1) from rfl, q4, incM, hg]; rfl
              refine RegionA_inv mixed tysOk [[], [], [0, 1], [2], [0, 1], [4], [0, 1, 2, 3, 4, 5]] (fun ls => (selE ls [some (95, .mp 43), some (96, .d (LState.d ⟨true, k2, 1, false⟩)), some (97, .d (i64 v2)), some (98, .d (i64 (v2 + 1))), some (99, .d (.tup [i64 v2, i64 j2])), some (100, .d (i64 j2)), none] ++ [(0, .d (boolsD (b0 :: r0))), (1, .d (phasesD l)), (5, .mp 900001), (7, .d (i64 s)), (8, .mp 43), (45, .it 45), (10, .ptr 10 0)], [(900001, .map (kvG LState.d m)), (43, .map (sel3 ls 4 6 (kvG LState.d next) (setKey (kvG LState.d next) j2 (LState.d ⟨true, k2, 1, false⟩)) (setVal (setKey (kvG LState.d next) j2 (LState.d ⟨true, k2, 1, false⟩)) j2 (i64 (v2 + 1))))), (45, .mit (.mp 900001) m.length (todo.filter fun j => !Nat.beq j i) (some i)), (10, .box (.dd (LState.cells ⟨true, k2, 1, false⟩)))])) (by decide +kernel) ?_ ?_ ?_
              · exact Wk.sub ⟨rfl, rfl, rfl, rfl, rfl, rfl, rfl, trivial⟩ ⟨rfl, rfl, rfl, rfl, trivial⟩
              · conv => whnf
                repeat' (first
                  | trivial
                  | (refine And.intro ?_ ?_ <;> conv => whnf)
                  | (refine findK.mk _ (g1) ?_; conv => whnf)
                  | (refine findK.mk _ (g2) ?_; conv => whnf)
                  | (refine arith_in (wrap_i64 (by omega)) ?_; conv => whnf)
                  | (refine chk_i hB ?_; conv => whnf)
                  | (refine Wk.sub ?_ ?_ <;> (repeat' (first | exact trivial | refine ⟨rfl, ?_⟩))))
              · conv => whnf
                refine ⟨(todo.filter fun j => !Nat.beq j i, (incM next ⟨true, k2, 1, false⟩, (c + 1, some i))), hlt, ⟨hcn2, by simp only; omega, hnx2⟩, Wk.sub ⟨rfl, rfl, rfl, rfl, rfl, rfl, trivial⟩ ⟨rfl, ?_, rfl, trivial⟩⟩
                exact congrArg (fun z => some (Obj.map z)) hfin
          · have h3 : ¬ 1 ≤ p2.flash.hi := by simpa using h3
            rw [if_neg h3] at hS
            conv => whnf
            exact ⟨(todo.filter fun j => !Nat.beq j i, (next, (c, some i))), hlt, ⟨hcn, by simp only; omega, hnx.none hx hS⟩, (Wk.sub ⟨(by first | rfl | (simp only [List.length_map]; rfl) | simp [PX.get]), (by first | rfl | (simp only [List.length_map]; rfl) | simp [PX.get]), (by first | rfl | (simp only [List.length_map]; rfl) | simp [PX.get]), (by first | rfl | (simp only [List.length_map]; rfl) | simp [PX.get]), (by first | rfl | (simp only [List.length_map]; rfl) | simp [PX.get]), (by first | rfl | (simp only [List.length_map]; rfl) | simp [PX.get]), trivial⟩ ⟨(by first | rfl | (simp only [List.length_map]; rfl) | simp [PX.get]), (by first | rfl | (simp only [List.length_map]; rfl) | simp [PX.get]), (by first | rfl | (simp only [List.length_map]; rfl) | simp [PX.get]), trivial⟩)⟩
        | false =>
          conv => whnf
          refine InvA_b 140 (by decide +kernel) ?_
          refine DrawCall_v (la140 l k p hk0 hp1) rfl rfl ?_
          conv => whnf
          refine brk_i (fun h2 => ?_) (fun h2 => ?_)
          · have h2 : long < p.dark.lo := by simpa using h2
            have hS : stepS l true ⟨false, k, long, false⟩ = none := by simp [stepS, hsp, h2]
            conv => whnf
            exact ⟨(todo.filter fun j => !Nat.beq j i, (next, (c, some i))), hlt, ⟨hcn, by simp only; omega, hnx.none hx hS⟩, (Wk.sub ⟨(by first | rfl | (simp only [List.length_map]; rfl) | simp [PX.get]), (by first | rfl | (simp only [List.length_map]; rfl) | simp [PX.get]), (by first | rfl | (simp only [List.length_map]; rfl) | simp [PX.get]), (by first | rfl | (simp only [List.length_map]; rfl) | simp [PX.get]), (by first | rfl | (simp only [List.length_map]; rfl) | simp [PX.get]), (by first | rfl | (simp only [List.length_map]; rfl) | simp [PX.get]), trivial⟩ ⟨(by first | rfl | (simp only [List.length_map]; rfl) | simp [PX.get]), (by first | rfl | (simp only [List.length_map]; rfl) | simp [PX.get]), (by first | rfl | (simp only [List.length_map]; rfl) | simp [PX.get]), trivial⟩)⟩
          · have h2 : ¬ long < p.dark.lo := by simpa using h2
            have hS : stepS l true ⟨false, k, long, false⟩ = if 1 ≤ p2.flash.hi then some ⟨true, k2, 1, false⟩ else none := by simp [stepS, hsp, hsd, behindS, h2, hk2e]
            conv => whnf
            refine CallA_v (FnV.cast (la118 false k (List.map LPhase.cells l).length (by omega) (by simp; omega)) (r' := .ifc 165 (i64 k2)) (by rw [← hk2]; rfl)) rfl rfl ?_
            conv => whnf
            refine InvA_b 139 (by decide +kernel) ?_
            refine DrawCall_v (la139 l k2 p2 hk20 hp2) rfl rfl ?_
            conv => whnf
            refine brk_i (fun h3 => ?_) (fun h3 => ?_)
            · have h3 : 1 ≤ p2.flash.hi := by simpa using h3
              rw [if_pos h3] at hS
              conv => whnf
              have hnx2 := hnx.some hx hS
              have hcn2 := hcn.inc ⟨true, k2, 1, false⟩
              cases hg : getM next ⟨true, k2, 1, false⟩ with
              | none =>
                have g1 := findG_none (kd := LState.d) same_state hg 0
                have g2 : findD (LState.d ⟨true, k2, 1, false⟩) (kvG LState.d next ++ [(LState.d ⟨true, k2, 1, false⟩, i64 0)]) 0 = some (some ((kvG LState.d next).length, i64 0)) := by
                  rw [findG_last same_state hg 0]; simp
                have hB : (decide ((0 : Int) ≤ ((kvG LState.d next).length : Int)) && decide (((kvG LState.d next).length : Int) < ((kvG LState.d next ++ [(LState.d ⟨true, k2, 1, false⟩, i64 0)]).length : Int))) = true := by
                  simp; omega
                have hfin : setVal (kvG LState.d next ++ [(LState.d ⟨true, k2, 1, false⟩, i64 0)]) (kvG LState.d next).length (i64 (0 + 1)) = kvG LState.d (incM next ⟨true, k2, 1, false⟩) := by
                  rw [setVal_end]
                  have := putG_none (kd := LState.d) 1 hg
                  rw [show i64 (0 + 1) = D.int .i64 1 from rfl, this, incM, hg]; rfl
                refine RegionA_inv mixed tysOk [[], [], [0, 1], [2], [0, 1], [4], [0, 1, 2, 3, 4, 5]] (fun ls => (selE ls [some (95, .mp 43), some (96, .d (LState.d ⟨true, k2, 1, false⟩)), some (97, .d (i64 0)), some (98, .d (i64 (0 + 1))), some (99, .d (.tup [i64 0, i64 (kvG LState.d next).length])), some (100, .d (i64 (kvG LState.d next).length)), none] ++ [(0, .d (boolsD (b0 :: r0))), (1, .d (phasesD l)), (5, .mp 900001), (7, .d (i64 s)), (8, .mp 43), (45, .it 45), (10, .ptr 10 0)], [(900001, .map (kvG LState.d m)), (43, .map (sel3 ls 4 6 (kvG LState.d next) (kvG LState.d next ++ [(LState.d ⟨true, k2, 1, false⟩, i64 0)]) (setVal (kvG LState.d next ++ [(LState.d ⟨true, k2, 1, false⟩, i64 0)]) (kvG LState.d next).length (i64 (0 + 1))))), (45, .mit (.mp 900001) m.length (todo.filter fun j => !Nat.beq j i) (some i)), (10, .box (.dd (LState.cells ⟨true, k2, 1, false⟩)))])) (by decide +kernel) ?_ ?_ ?_
                · exact Wk.sub ⟨rfl, rfl, rfl, rfl, rfl, rfl, rfl, trivial⟩ ⟨rfl, rfl, rfl, rfl, trivial⟩
                · conv => whnf
                  repeat' (first
                    | trivial
                    | (refine And.intro ?_ ?_ <;> conv => whnf)
                    | (refine findK.mk _ (g1) ?_; conv => whnf)
                    | (refine findK.mk _ (g2) ?_; conv => whnf)
                    | (refine arith_in (wrap_i64 (by omega)) ?_; conv => whnf)
                    | (refine chk_i hB ?_; conv => whnf)
                    | (refine Wk.sub ?_ ?_ <;> (repeat' (first | exact trivial | refine ⟨rfl, ?_⟩))))
                · conv => whnf
                  refine ⟨(todo.filter fun j => !Nat.beq j i, (incM next ⟨true, k2, 1, false⟩, (c + 1, some i))), hlt, ⟨hcn2, by simp only; omega, hnx2⟩, Wk.sub ⟨rfl, rfl, rfl, rfl, rfl, rfl, trivial⟩ ⟨rfl, ?_, rfl, trivial⟩⟩
                  exact congrArg (fun z => some (Obj.map z)) hfin
              | some v2 =>
                obtain ⟨j2, q0, q1, q2, q3, q4⟩ := findG_some (kd := LState.d) same_state hg 0
                have hvb := hcn.bd _ _ hg
                have g1 : findD (LState.d ⟨true, k2, 1, false⟩) (kvG LState.d next) 0 = some (some (j2, i64 v2)) := by rw [q1]; simp [i64]
                have g2 : findD (LState.d ⟨true, k2, 1, false⟩) (setKey (kvG LState.d next) j2 (LState.d ⟨true, k2, 1, false⟩)) 0 = some (some (j2, i64 v2)) := by rw [q3]; exact g1
                have hB : (decide ((0 : Int) ≤ (j2 : Int)) && decide ((j2 : Int) < ((setKey (kvG LState.d next) j2 (LState.d ⟨true, k2, 1, false⟩)).length : Int))) = true := by
                  rw [q3, kvG_length]; simp; omega
                have hfin : setVal (setKey (kvG LState.d next) j2 (LState.d ⟨true, k2, 1, false⟩)) j2 (i64 (v2 + 1)) = kvG LState.d (incM next ⟨true, k2, 1, false⟩) := by
                  rw [q3, show i64 (v2 + 1) = D.int .i64 (v2 + 1) from rfl, q4, incM, hg]; rfl
                refine RegionA_inv mixed tysOk [[], [], [0, 1], [2], [0, 1], [4], [0, 1, 2, 3, 4, 5]] (fun ls => (selE ls [some (95, .mp 43), some (96, .d (LState.d ⟨true, k2, 1, false⟩)), some (97, .d (i64 v2)), some (98, .d (i64 (v2 + 1))), some (99, .d (.tup [i64 v2, i64 j2])), some (100, .d (i64 j2)), none] ++ [(0, .d (boolsD (b0 :: r0))), (1, .d (phasesD l)), (5, .mp 900001), (7, .d (i64 s)), (8, .mp 43), (45, .it 45), (10, .ptr 10 0)], [(900001, .map (kvG LState.d m)), (43, .map (sel3 ls 4 6 (kvG LState.d next) (setKey (kvG LState.d next) j2 (LState.d ⟨true, k2, 1, false⟩)) (setVal (setKey (kvG LState.d next) j2 (LState.d ⟨true, k2, 1, false⟩)) j2 (i64 (v2 + 1))))), (45, .mit (.mp 900001) m.length (todo.filter fun j => !Nat.beq j i) (some i)), (10, .box (.dd (LState.cells ⟨true, k2, 1, false⟩)))])) (by decide +kernel) ?_ ?_ ?_
                · exact Wk.sub ⟨rfl, rfl, rfl, rfl, rfl, rfl, rfl, trivial⟩ ⟨rfl, rfl, rfl, rfl, trivial⟩
                · conv => whnf
                  repeat' (first
                    | trivial
                    | (refine And.intro ?_ ?_ <;> conv => whnf)
                    | (refine findK.mk _ (g1) ?_; conv => whnf)
                    | (refine findK.mk _ (g2) ?_; conv => whnf)
                    | (refine arith_in (wrap_i64 (by omega)) ?_; conv => whnf)
                    | (refine chk_i hB ?_; conv => whnf)
                    | (refine Wk.sub ?_ ?_ <;> (repeat' (first | exact trivial | refine ⟨rfl, ?_⟩))))
                · conv => whnf
                  refine ⟨(todo.filter fun j => !Nat.beq j i, (incM next ⟨true, k2, 1, false⟩, (c + 1, some i))), hlt, ⟨hcn2, by simp only; omega, hnx2⟩, Wk.sub ⟨rfl, rfl, rfl, rfl, rfl, rfl, trivial⟩ ⟨rfl, ?_, rfl, trivial⟩⟩
                  exact congrArg (fun z => some (Obj.map z)) hfin
            · have h3 : ¬ 1 ≤ p2.flash.hi := by simpa using h3
              rw [if_neg h3] at hS
              conv => whnf
              exact ⟨(todo.filter fun j => !Nat.beq j i, (next, (c, some i))), hlt, ⟨hcn, by simp only; omega, hnx.none hx hS⟩, (Wk.sub ⟨(by first | rfl | (simp only [List.length_map]; rfl) | simp [PX.get]), (by first | rfl | (simp only [List.length_map]; rfl) | simp [PX.get]), (by first | rfl | (simp only [List.length_map]; rfl) | simp [PX.get]), (by first | rfl | (simp only [List.length_map]; rfl) | simp [PX.get]), (by first | rfl | (simp only [List.length_map]; rfl) | simp [PX.get]), (by first | rfl | (simp only [List.length_map]; rfl) | simp [PX.get]), trivial⟩ ⟨(by first | rfl | (simp only [List.length_map]; rfl) | simp [PX.get]), (by first | rfl | (simp only [List.length_map]; rfl) | simp [PX.get]), (by first | rfl | (simp only [List.length_map]; rfl) | simp [PX.get]), trivial⟩)⟩
end Go.PX

namespace Go.PX
open Go.Proofs

/- Lamp: enter and Fails (the program). -/

def entrE (c : LCase) (l : List LLight) : Int := if (checkL c).2.2 = 0 then (lightsF l).2 else (checkL c).2.2

theorem la89 (c : LCase) (l : List LLight) : FnV Try.prog 89 [c.d, lightsD l] (i64 (entrE c l)) := by
  refine fnV_of mixed tysOk Try.func89 rfl (ft := ft89) 2 (by decide +kernel) (by rfl) fun {σ} Y st => ?_
  conv => whnf
  refine CallA_v (la15 c) rfl rfl ?_
  conv => whnf
  unfold entrE
  refine brk_i (fun h0 => ?_) (fun h0 => ?_)
  · have h0 : (checkL c).2.2 = 0 := by simpa using h0
    rw [if_pos h0]
    conv => whnf
    refine CallA_v (la17 l) rfl rfl ?_
    conv => whnf
    exact RetA_view 0 rfl ⟨⟨rfl, rfl⟩, rfl⟩
  · have h0 : ¬ (checkL c).2.2 = 0 := by simpa using h0
    rw [if_neg h0]
    conv => whnf
    exact RetA_view 0 rfl ⟨⟨rfl, rfl⟩, rfl⟩

theorem firstE_ok {α : Type} {f : List α → α → Int} : ∀ {l b : List α} {i : Int}, (firstE f b l i).2 = 0 → ∀ x ∈ l, ∃ b', f b' x = 0
  | [], _, _, _, x, hx => by cases hx
  | y :: r, b, i, h, x, hx => by
    rw [firstE] at h
    split at h
    · rename_i h1
      rcases List.mem_cons.1 hx with rfl | hx
      · exact ⟨b, h1⟩
      · exact firstE_ok h x hx
    · rename_i h1
      exact absurd h h1

/-- What is known of a good light. -/
structure LightR (x : LLight) : Prop where
  len : 1 ≤ x.phases.length ∧ x.phases.length ≤ 3
  phase : ∀ p ∈ x.phases, phaseIn p = true ∧ phaseUp p = false

theorem phasesF_ok {l : List LPhase} (h : phasesF l = 0) : (1 ≤ l.length ∧ l.length ≤ 3) ∧ ∀ p ∈ l, phaseIn p = true ∧ phaseUp p = false := by
  unfold phasesF at h
  split at h
  case isFalse => cases h
  rename_i h1
  rw [inB_iff] at h1
  split at h
  · cases h
  rename_i h2
  split at h
  · cases h
  rename_i h3
  refine ⟨by omega, fun p hp => ⟨?_, ?_⟩⟩
  · cases hq : phaseIn p with
    | true => rfl
    | false => exact absurd (List.any_eq_true.2 ⟨p, hp, by rw [hq]; rfl⟩) h2
  · cases hq : phaseUp p with
    | false => rfl
    | true => exact absurd (List.any_eq_true.2 ⟨p, hp, hq⟩) h3

theorem lightsF_ok {l : List LLight} (h : (lightsF l).2 = 0) : (1 ≤ l.length ∧ l.length ≤ 6) ∧ ∀ x ∈ l, LightR x := by
  unfold lightsF at h
  split at h
  case isFalse => cases h
  rename_i h1
  rw [inB_iff] at h1
  refine ⟨by omega, fun x hx => ?_⟩
  obtain ⟨b, hb⟩ := firstE_ok h x hx
  unfold lightF at hb
  split at hb
  case isFalse => cases hb
  split at hb
  · cases hb
  exact ⟨(phasesF_ok hb).1, (phasesF_ok hb).2⟩

theorem entr_ok {c : LCase} {l : List LLight} (h : entrE c l = 0) : (checkL c).2.2 = 0 ∧ ∀ x ∈ l, LightR x := by
  unfold entrE at h
  split at h
  · rename_i h1
    exact ⟨h1, (lightsF_ok h).2⟩
  · rename_i h1
    exact absurd h h1

theorem courseL_len {x : LLamp} {w : List Int} {t : LTruth} (h : LampR x) : courseL x w t ≠ [] ∧ (courseL x w t).length ≤ 200 ∧ (courseL x w t).length = x.night.toNat := by
  have hl : (courseL x w t).length = x.night.toNat := by unfold courseL; exact courseF_len
  have := h.night
  refine ⟨fun h0 => ?_, by omega, hl⟩
  rw [h0] at hl
  simp at hl
  omega

def failE (c : LCase) (l : LLight) (t : LTruth) : Int := if entrE c [l] = 0 then truthE c t else entrE c [l]
def failV (c : LCase) (l : LLight) (t : LTruth) : Int := if failE c l t = 0 then failsL (courseL c.lamp c.windings t) l.phases else 0

set_option maxHeartbeats 1000000 in
theorem la30 (c : LCase) (l : LLight) (t : LTruth) : FnV Try.prog 30 [c.d, l.d, t.d] (.tup [i64 (failV c l t), i64 (failE c l t)]) := by
  refine fnV_of mixed tysOk Try.func30 rfl (ft := ft30) 3 (by decide +kernel) (by rfl) fun {σ} Y st => ?_
  conv => whnf
  refine CallA_view (la89 c [l]) rfl 1 rfl ?_
  conv => whnf
  by_cases h0 : entrE c [l] = 0
  case neg =>
    have he : failE c l t = entrE c [l] := by unfold failE; rw [if_neg h0]
    have hv : failV c l t = 0 := by unfold failV; rw [he, if_neg h0]
    rw [he, hv]
    refine brk_i (fun h1 => absurd h1 (by simp [h0])) (fun _ => ?_)
    conv => whnf
    refine brk_i (fun _ => ?_) (fun h1 => absurd h1 (by simp [h0]))
    conv => whnf
    exact RetA_view 0 rfl ⟨⟨rfl, rfl⟩, rfl⟩
  obtain ⟨h00, hl⟩ := entr_ok h0
  have hR := checkL_ok h00
  have he : failE c l t = truthE c t := by unfold failE; rw [if_pos h0]
  refine brk_i (fun _ => ?_) (fun h1 => absurd h1 (by simp [h0]))
  conv => whnf
  refine CallA_v (la72 c t (by have := hR.winds; omega)) rfl rfl ?_
  conv => whnf
  rw [he]
  by_cases h1 : truthE c t = 0
  case neg =>
    have hv : failV c l t = 0 := by unfold failV; rw [he, if_neg h1]
    rw [hv]
    refine brk_i (fun _ => ?_) (fun h2 => absurd h2 (by simp [h1]))
    conv => whnf
    exact RetA_view 0 rfl ⟨⟨rfl, rfl⟩, rfl⟩
  have hv : failV c l t = failsL (courseL c.lamp c.windings t) l.phases := by unfold failV; rw [he, if_pos h1]
  rw [hv]
  have hT := truth_ok h1
  refine brk_i (fun h2 => absurd h2 (by simp [h1])) (fun _ => ?_)
  conv => whnf
  refine DrawCall_v (la73 c t hR.lamp hR.winds hT) rfl rfl ?_
  conv => whnf
  obtain ⟨k1, k2, _⟩ := courseL_len (w := c.windings) (t := t) hR.lamp
  refine DrawCall_v (la90 (courseL c.lamp c.windings t) l.phases k1 k2 (hl l (by simp)).len) rfl rfl ?_
  conv => whnf
  rw [h1]
  exact RetA_view 0 rfl ⟨⟨rfl, rfl⟩, rfl⟩
end Go.PX

/- PX: 'for x := range f' where f holds objects of the frame: they are lent to it. -/
namespace Go.PX
open Go.RowKit

def lentC (c1 n : Nat) (lt : List Nat) (caps : List V) (h0 : Heap) : Bool :=
  allB (fun i => Nat.ble 1000000 i && Nat.blt i 2000000 && !inRange c1 n i) lt && allB (inL lt) (namesOfL caps) && allB (inL lt) (heapNames h0) && (yfreeL caps && yfreeH h0)

/-- What is handed back: what was lent. -/
def backB (lt : List Nat) (h0 : Heap) : Bool := allB (inL lt) (heapNames h0) && yfreeH h0

theorem get_append {α : Type} : ∀ (A B : Tab α) (k : Nat) (o : α), get (A ++ B) k = some o → get A k = some o ∨ get B k = some o
  | [], _, _, _, h => .inr h
  | (i, p) :: A, B, k, o, h => by
    simp only [List.cons_append, get] at h ⊢
    split at h
    · exact .inl h
    · exact get_append A B k o h

theorem Backed_eq {L L' : Loc} {id : Nat} {o : Obj} (hk : L'.κ id = L.κ id) : Backed L' id o ↔ Backed L id o := by
  cases o <;> simp [Backed, hk]

section
variable {σ : Type} {cx : Cx σ} {L : Loc} {F : Nat → Nat} {s : σ} {w : World}

theorem HeapOk.subT {h h' : Heap} (hh : HeapOk cx L F h s w) (hs : SubT h' h) : HeapOk cx L F h' s w :=
  ⟨hh.hg, hh.csz, hh.fresh, fun id o hi => hh.obj id o (hs _ _ hi), fun id o hi => hh.own id o (hs _ _ hi), fun i j o p hi hj => hh.inj i j o p (hs _ _ hi) (hs _ _ hj)⟩

theorem HeapOk.app {A B : Heap} (ha : HeapOk cx L F A s w) (hb : HeapOk cx L F B s w) (hx : ∀ i o j p, get A i = some o → get B j = some p → Backed L i o → Backed L j p → L.ρ i ≠ L.ρ j) : HeapOk cx L F (A ++ B) s w := by
  refine ⟨ha.hg, ha.csz, ha.fresh, fun id o hi => (get_append A B id o hi).elim (ha.obj id o) (hb.obj id o), fun id o hi => (get_append A B id o hi).elim (ha.own id o) (hb.own id o), fun i j o p hi hj bi bj e => ?_⟩
  rcases get_append A B i o hi with h1 | h1 <;> rcases get_append A B j p hj with h2 | h2
  · exact ha.inj i j o p h1 h2 bi bj e
  · exact absurd e (hx i o j p h1 h2 bi bj)
  · exact absurd e.symm (hx j p i o h2 h1 bj bi)
  · exact hb.inj i j o p h1 h2 bi bj e
end

section
variable {P : Program} {T : Tys} {ft : FT} {α σ : Type} {Y : Hd σ}

theorem RangeA_genV (hT : TysOk P T) {g : Operand} {ps : Array Tmp} {a b : Code} (hDa : drawsOk P T ft a) (hDb : drawsOk P T ft b) {f : FuncId} {caps : List V} {e : Env} {h : Heap} {s : σ} {K : AExit → St σ → Prop} (hgv : opnd e g = some (.clo f caps))
    (lt : List Nat) (c1 c2 : Nat) (tb : List Nat) (I : α → Heap × σ) (x0 : α) (hck : rangeB c1 c2 tb e (cutL h lt) = true) (hlt : lentC c1 tb.length lt caps (keepT lt h) = true) (hI : I x0 = (renH (upR c1 tb) (cutL h lt), s)) (hok0 : okH c2 tb (I x0).1 = true)
    (hf : ∀ L, FnC P (liftY (rangeY P T ft Y I ps a b (renE (upR c1 tb) e) c2 tb)) f (.yld :: caps) (keepT lt h) (.go x0, L) fun v h' g => backB lt h' = true ∧ match g.1 with
      | .go x => K .normal ⟨e, renH (dnR c1 tb) (I x).1 ++ h', (I x).2⟩
      | .done ex hd s' => K ex ⟨e, renH (dnR c1 tb) hd ++ h', s'⟩) : RangeA P ft Y g ps a b ⟨e, h, s⟩ K := by
  constructor
  intro cx hY r m L F aa w hg hc
  simp only [codeOk, Bool.and_eq_true] at hc
  obtain ⟨⟨hps, hca⟩, hcb⟩ := hc
  have hps : ∀ p ∈ ps.toList, p < aa.tmps.size := fun p hp => of_decide_eq_true (List.all_eq_true.1 hps p hp)
  simp only [rangeB, Bool.and_eq_true] at hck
  obtain ⟨⟨⟨⟨⟨⟨⟨⟨k1, k2⟩, k3⟩, k4⟩, k5⟩, k6⟩, k7⟩, k8⟩, k9⟩ := hck
  have htb := nodupB_spec k1
  have htb6 : ∀ i ∈ tb, i < 1000000 := fun i hi => Nat.le_of_ble_eq_true (allB_spec k2 i hi)
  have k3 := Nat.le_of_ble_eq_true k3
  have k4 := Nat.le_of_ble_eq_true k4
  have k5 := Nat.le_of_ble_eq_true k5
  have k6 := Nat.le_of_ble_eq_true k6
  have k7 : ∀ k, k < tb.length → inRange c2 64 (c1 + k) = false := fun k hk => by
    have := allB_spec k7 k (List.mem_range.2 hk)
    simpa using this
  have k8 : ∀ i ∈ envNames e, i ∈ tb ∨ (pinned i ∧ inRange c1 tb.length i = false ∧ inRange c2 64 i = false) := by
    intro i hi
    have := allB_spec k8 i hi
    simp only [Bool.or_eq_true, Bool.and_eq_true, Bool.not_eq_true'] at this
    exact this.imp inL_iff.1 fun h => ⟨⟨Nat.le_of_ble_eq_true h.1.1.1, Nat.le_of_ble_eq_true h.1.1.2⟩, h.1.2, h.2⟩
  have k9 : ∀ i ∈ heapNames (cutL h lt), inRange c1 tb.length i = false := fun i hi => by simpa using allB_spec k9 i hi
  simp only [lentC, Bool.and_eq_true] at hlt
  obtain ⟨⟨⟨l1, l2⟩, l3⟩, l4, l5⟩ := hlt
  have l1 : ∀ i ∈ lt, pinned i ∧ inRange c1 tb.length i = false := fun i hi => by
    have := allB_spec l1 i hi
    simp only [Bool.and_eq_true, Bool.not_eq_true'] at this
    exact ⟨⟨Nat.le_of_ble_eq_true this.1.1, Nat.le_of_ble_eq_true this.1.2⟩, this.2⟩
  have l2 : ∀ i ∈ namesOfL caps, i ∈ lt := fun i hi => inL_iff.1 (allB_spec l2 i hi)
  have l3 : ∀ i ∈ heapNames (keepT lt h), i ∈ lt := fun i hi => inL_iff.1 (allB_spec l3 i hi)
  have hltb : ∀ i ∈ lt, i ∉ tb := fun i hi hm => by
    have h1 := (l1 i hi).1
    have h2 := htb6 i hm
    unfold pinned at h1; omega
  have hscut : SubT (cutL h lt) h := fun i o hi => by
    rw [get_cutL] at hi
    split at hi
    · cases hi
    · exact hi
  have hskeep : SubT (keepT lt h) h := sub_keepT lt h
  have htbr : ∀ i ∈ tb, inRange c1 tb.length i = false := fun i hi => by
    cases hr : inRange c1 tb.length i with
    | false => rfl
    | true => rw [inRange_iff] at hr; have := htb6 i hi; omega
  -- up and down
  have hdu : ∀ i, inRange c1 tb.length i = false → dnR c1 tb (upR c1 tb i) = i := by
    intro i hi
    by_cases hm : i ∈ tb
    · obtain ⟨k, hk⟩ := List.mem_iff_getElem?.1 hm
      rw [upR_in htb hk, dnR_in hk]
    · rw [upR_out hm, dnR_out hi]
  have hud : ∀ i, i ∉ tb → upR c1 tb (dnR c1 tb i) = i := by
    intro i hi
    cases hr : inRange c1 tb.length i with
    | false => rw [dnR_out hr, upR_out hi]
    | true =>
      rw [inRange_iff] at hr
      obtain ⟨k, hk⟩ : ∃ k, i = c1 + k := ⟨i - c1, by omega⟩
      obtain ⟨y, hy⟩ : ∃ y, tb[k]? = some y := ⟨_, List.getElem?_eq_getElem (by omega)⟩
      rw [hk, dnR_in hy, upR_in htb hy]
  have henv1 : ∀ i ∈ envNames e, inRange c1 tb.length i = false := fun i hi => (k8 i hi).elim (htbr i) (fun h => h.2.1)
  have hE : ∀ i ∈ envNames (renE (upR c1 tb) e), pinned i ∧ inRange c2 64 i = false := by
    have hren : ∀ (e : Env), ∀ i ∈ envNames (renE (upR c1 tb) e), ∃ j ∈ envNames e, i = upR c1 tb j := by
      intro e
      induction e with
      | nil => intro i hi; cases hi
      | cons kv r ih =>
        obtain ⟨k, v⟩ := kv
        intro i hi
        rcases List.mem_append.1 hi with hi | hi
        · obtain ⟨j, hj, rfl⟩ := namesOf_ren v i hi
          exact ⟨j, List.mem_append.2 (.inl hj), rfl⟩
        · obtain ⟨j, hj, rfl⟩ := ih i hi
          exact ⟨j, List.mem_append.2 (.inr hj), rfl⟩
    intro i hi
    obtain ⟨j, hj, rfl⟩ := hren e i hi
    rcases k8 j hj with hm | ⟨h1, h2, h3⟩
    · obtain ⟨k, hk⟩ := List.mem_iff_getElem?.1 hm
      have hlt := (List.getElem?_eq_some_iff.1 hk).1
      rw [upR_in htb hk]
      exact ⟨by unfold pinned; omega, k7 k hlt⟩
    · have : j ∉ tb := fun hm => by have := htb6 j hm; unfold pinned at h1; omega
      rw [upR_out this]; exact ⟨h1, h3⟩
  obtain ⟨lc, hev, hcap⟩ := hg.opnd hgv
  have hI1 : (I x0).1 = renH (upR c1 tb) (cutL h lt) := by rw [hI]
  have hI2 : (I x0).2 = s := by rw [hI]
  refine wpIn_rangeFunc fun fn _ => ?_
  -- the record is laid
  have enter : ∃ (base : Go.Loop) (l : Nat) (mk : List Nat) (W1 : World), (Instr.enterLoop fn aa.tmps ps a b r).run P w = .ok (l, mk.map mark) W1 ∧ (base.params = ps ∧ base.assign = a ∧ base.body = b ∧ base.tmps = aa.tmps ∧ base.state = .ready ∧ base.pending = none) ∧
      W1.heap[l]? = some (.loop base) ∧ w.heap.size ≤ l ∧ (∀ x, x < w.heap.size → W1.heap[x]? = w.heap[x]?) ∧ Tr F w F W1 ∧ w.heap.size ≤ W1.heap.size ∧ mk.Nodup ∧ ∀ x ∈ mk, w.heap.size ≤ x ∧ W1.heap[x]? = some (.deferred (some [])) := by
    cases r with
    | none =>
      refine ⟨{ state := .ready, pending := none, fn, tmps := aa.tmps, params := ps, assign := a, body := b, defers := w.heap.size }, _, [w.heap.size], _, run_enterLoop_outer fn aa.tmps ps a b, ⟨rfl, rfl, rfl, rfl, rfl, rfl⟩, ?_, by omega, fun x hx => ?_, Tr.trans (Tr.alloc hg.heap.fresh _) (Tr.alloc (fun b hb => hg.heap.fresh b (by simp at hb; omega)) _), by simp; omega, by simp, fun x hx => ?_⟩
      · have := World.alloc_heap_new (w.alloc (.deferred (some []))) (.loop { state := .ready, pending := none, fn, tmps := aa.tmps, params := ps, assign := a, body := b, defers := w.heap.size })
        rwa [World.size_alloc] at this
      · rw [heap_alloc_old _ _ (by simp; omega), heap_alloc_old _ _ hx]
      · rw [List.mem_singleton] at hx
        subst hx
        exact ⟨Nat.le_refl _, by rw [heap_alloc_old _ _ (by simp)]; exact World.alloc_heap_new w _⟩
    | some l0 =>
      obtain ⟨lp, ⟨q1, _⟩, _⟩ := hg.lk l0 rfl
      refine ⟨{ state := .ready, pending := none, fn, tmps := aa.tmps, params := ps, assign := a, body := b, defers := lp.defers }, _, [], _, run_enterLoop_inner q1 fn aa.tmps ps a b, ⟨rfl, rfl, rfl, rfl, rfl, rfl⟩, World.alloc_heap_new w _, Nat.le_refl _, fun x hx => heap_alloc_old _ _ hx, Tr.alloc hg.heap.fresh _, by simp, List.nodup_nil, fun x hx => by cases hx⟩
  obtain ⟨base, l, mk, W1, hent, ⟨hb1, hb2, hb3, hb4, hb5, hb6⟩, hl, hlw, hold, tr1, hsz1, hmn, hmk⟩ := enter
  have hg1 := hg.onward tr1 (fun x hx => ⟨hold x hx, rfl⟩) (fun x hx => hg.heap.fresh x (Nat.le_trans hsz1 hx))
  have hrl : r ≠ some l := by
    rintro rfl
    obtain ⟨lp, ⟨q1, _⟩, _⟩ := hg.lk l rfl
    have := block_lt q1; omega
  let L1 : Loc := ⟨fun j => L.ρ (dnR c1 tb j), fun j => L.κ (dnR c1 tb j)⟩
  have hL1 : ∀ i, inRange c1 tb.length i = false → L1.ρ (upR c1 tb i) = L.ρ i ∧ L1.κ (upR c1 tb i) = L.κ i := fun i hi => by
    show L.ρ (dnR c1 tb (upR c1 tb i)) = L.ρ i ∧ L.κ (dnR c1 tb (upR c1 tb i)) = L.κ i
    rw [hdu i hi]; exact ⟨rfl, rfl⟩
  have hnC : ∀ x, w.heap.size ≤ x → ¬ cx.C s x := fun x hx hC => by have := hg.heap.csz x hC; omega
  have hbase : recOf base (RS.go x0 : RS α σ) = base := by
    cases base; simp only at hb5 hb6; subst hb5; subst hb6; rfl
  have hLt : ∀ i ∈ lt, L1.ρ i = L.ρ i ∧ L1.κ i = L.κ i := fun i hi => by
    have := hL1 i (l1 i hi).2
    rw [upR_out (hltb i hi)] at this
    exact this
  have hHG : RInv cx I l (mk ++ m) r base (renE (upR c1 tb) e) aa.tmps c2 tb L1.ρ L1.κ F W1 (.go x0, L1) W1 F := by
    refine ⟨?_, ⟨by rw [hbase]; exact hl, by show ¬ cx.C (I x0).2 l; rw [hI2]; exact hnC l hlw⟩, fun x hx => ?_, fun l0 h0 => ?_, fun t v ht => ?_, fun _ _ => ⟨rfl, rfl⟩, Tr.refl F W1, hok0⟩
    · show HeapOk cx L1 F (I x0).1 (I x0).2 W1
      rw [hI1, hI2]
      exact (hg1.heap.subT hscut).ren fun i hi => hL1 i (k9 i hi)
    · show _ ∧ ¬ cx.C (I x0).2 x
      rw [hI2]
      rcases List.mem_append.1 hx with hx | hx
      · exact ⟨(hmk x hx).2, hnC x (hmk x hx).1⟩
      · exact hg1.mks x hx
    · show ∃ lp, _ ∧ ¬ cx.C (I x0).2 l0
      rw [hI2]
      exact hg1.lk l0 h0
    · simp only [renE, get_mapT] at ht
      cases h0 : get e t with
      | none => simp [h0] at ht
      | some v0 =>
        simp [h0] at ht
        subst ht
        obtain ⟨x, hx, hr⟩ := hg1.env t v0 h0
        exact ⟨x, hx, (RepV.ren (R := upR c1 tb) (L := L) (L' := L1) v0 x fun i hi => hL1 i (henv1 i (envNames_mem h0 hi))).2 hr⟩
  have hH0 : HeapOk (rangeCx cx I l (mk ++ m) r base (renE (upR c1 tb) e) aa.tmps c2 tb L1.ρ L1.κ F W1) L1 F (keepT lt h) (.go x0, L1) W1 := by
    refine ⟨hHG, fun x hx => ?_, hg1.heap.fresh, fun id o hi => ?_, fun id o hi hb => ?_, fun i j o p hi hj hbi hbj he => ?_⟩
    rotate_left
    · exact RepO.yfree o (yfreeH_spec l5 hi) (RepO.mono (Tr.refl F W1) id o (fun j hj => hLt j (l3 j ((heapNames_key hi).2 j (namesOfO_mem j o hj)))) (hLt id (l3 id (heapNames_key hi).1)) (fun _ => rfl) (hg1.heap.obj id o (hskeep _ _ hi)))
    · have hid := hLt id (l3 id (heapNames_key hi).1)
      have hbL := (Backed_eq (L := L) (L' := L1) hid.2).1 hb
      obtain ⟨q1, q2⟩ := hg1.heap.own id o (hskeep _ _ hi) hbL
      rw [hid.1]
      refine ⟨q1, ?_⟩
      rintro (hx | ⟨j, p, hj, hbj, hx⟩ | hx | hx | hx)
      · have hx : cx.C (I x0).2 (L.ρ id) := hx
        rw [hI2] at hx
        exact q2 hx
      · have hj : get (I x0).1 j = some p := hj
        rw [hI1] at hj
        obtain ⟨j', o1, h1, rfl, rfl⟩ := get_renH hj
        have hr := hL1 j' (k9 j' (heapNames_key h1).1)
        have hbj' := (Backed_ren (R := upR c1 tb) (L := L) (L' := L1) j' o1 hr.2).1 hbj
        have hx : L1.ρ (upR c1 tb j') = L.ρ id := hx
        rw [hr.1] at hx
        have := hg1.heap.inj j' id o1 o (hscut _ _ h1) (hskeep _ _ hi) hbj' hbL hx
        subst this
        rw [get_cutL, if_pos (l3 _ (heapNames_key hi).1)] at h1
        cases h1
      · exact (RepO.not_ctl (hg1.heap.obj id o (hskeep _ _ hi)) hbL (by rw [hx]; exact hl)).1 _ rfl
      · exact (RepO.not_ctl (hg1.heap.obj id o (hskeep _ _ hi)) hbL (hHG.mks _ hx).1).2 _ rfl
      · obtain ⟨lp, ⟨q1, _⟩, _⟩ := hHG.out _ hx
        exact (RepO.not_ctl (hg1.heap.obj id o (hskeep _ _ hi)) hbL q1).1 _ rfl
    · have h1 := hLt i (l3 i (heapNames_key hi).1)
      have h2 := hLt j (l3 j (heapNames_key hj).1)
      rw [h1.1, h2.1] at he
      exact hg1.heap.inj i j o p (hskeep _ _ hi) (hskeep _ _ hj) ((Backed_eq h1.2).1 hbi) ((Backed_eq h2.2).1 hbj) he
    rcases hx with hx | ⟨id, o, hi, hb, hx⟩ | hx | hx | hx
    · exact hHG.heap.csz x hx
    · rw [← hx]; exact (hHG.heap.obj id o hi).lt hb
    · rw [hx]; exact block_lt hl
    · exact block_lt (hHG.mks x hx).1
    · obtain ⟨lp, ⟨q1, _⟩, _⟩ := hHG.out x hx; exact block_lt q1
  have hcall := (hf L1).run _ (range_handles hT hDa hDb hY hrl hb1 hb2 hb3 hb4 ⟨hb5, hb6⟩ hps hg.tsz hca hcb ⟨k5, k6⟩ hE) L1 F (#[.func (.yield l) #[] #[]] ++ lc) W1 hH0 (by
    show RepVL (some l) L1 F W1 (.yld :: caps) _
    refine ⟨.func (.yield l) #[] #[], lc.toList, by simp, ⟨l, rfl, rfl⟩, RepVL.yfree _ _ l4 (RepVL.mono tr1 _ _ (fun i hi => hLt i (l2 i (namesOfL_mem i caps hi))) hcap)⟩)
  refine ⟨l, mk.map mark, W1, { target := .fn (.func f) lc, args := #[.func (.yield l) #[] #[]] }, W1, f, #[.func (.yield l) #[] #[]] ++ lc, W1, hent, ?_, fun _ _ => trivial, ?_, (fun h => by cases h), ?_⟩
  · simp only [resolve, hev]
    simp [go_sem]
  · simp [invoke, go_sem, (hf L1).enter]
  refine (callsIn_fr hcall).mono ?_
  rintro en w' ⟨x, rfl, v, h', gs, L', F', ⟨hbk, hK⟩, hH, hv, tr, pin⟩
  simp only [backB, Bool.and_eq_true] at hbk
  have b1 : ∀ i ∈ heapNames h', i ∈ lt := fun i hi => inL_iff.1 (allB_spec hbk.1 i hi)
  obtain ⟨gg, L2⟩ := gs
  obtain ⟨i1, i2, i3, i4, i5, i6, i7, i8⟩ := hH.hg
  have hnb : (recOf base gg).state ≠ .busy := by cases gg <;> (intro h; cases h)
  have hend := run_endLoop (P := P) i2.1 hnb
  -- the state behind the loop
  obtain ⟨W4, hW4⟩ : ∃ W4, W4 = w'.putObj l (.loop { recOf base gg with state := .exhausted }) := ⟨_, rfl⟩
  rw [← hW4] at hend
  have tr4 : Tr F' w' F' W4 := by rw [hW4]; exact Tr.ctl i2.1 (fun _ _ _ h => by cases h) (fun _ _ h => by cases h) (fun _ _ _ h => by cases h)
  have hk4 : ∀ y, y ≠ l → W4.heap[y]? = w'.heap[y]? := fun y hy => by rw [hW4]; exact World.putObj_heap_other hy
  have h4 := i1.keep tr4 (fun b hb => i1.fresh b (Nat.le_trans tr4.size hb)) (fun b hb => ⟨hk4 b (by rintro rfl; exact i2.2 hb), rfl⟩) (fun id o hi hb => ⟨hk4 _ (fun e => (RepO.not_ctl (i1.obj id o hi) hb (by rw [e]; exact i2.1)).1 _ rfl), rfl⟩)
  let L3 : Loc := ⟨fun i => if i ∈ tb then L2.ρ (upR c1 tb i) else if inRange c1 tb.length i then cx.pρ i else L2.ρ i, fun i => if i ∈ tb then L2.κ (upR c1 tb i) else if inRange c1 tb.length i then cx.pκ i else L2.κ i⟩
  have hL3 : ∀ i, inRange c1 tb.length i = false → L3.ρ i = L2.ρ (upR c1 tb i) ∧ L3.κ i = L2.κ (upR c1 tb i) := by
    intro i hi
    by_cases hm : i ∈ tb
    · simp [L3, hm]
    · simp [L3, hm, hi, upR_out hm]
  have hL3d : ∀ i, i ∉ tb → L3.ρ (dnR c1 tb i) = L2.ρ i ∧ L3.κ (dnR c1 tb i) = L2.κ i := by
    intro i hi
    have : inRange c1 tb.length (dnR c1 tb i) = false := by
      cases hr : inRange c1 tb.length i with
      | false => rw [dnR_out hr]; exact hr
      | true =>
        rw [inRange_iff] at hr
        obtain ⟨k, hk⟩ : ∃ k, i = c1 + k := ⟨i - c1, by omega⟩
        obtain ⟨y, hy⟩ : ∃ y, tb[k]? = some y := ⟨_, List.getElem?_eq_getElem (by omega)⟩
        rw [hk, dnR_in hy]; exact htbr y (List.mem_of_getElem? hy)
    obtain ⟨q1, q2⟩ := hL3 _ this
    rw [hud i hi] at q1 q2
    exact ⟨q1, q2⟩
  have hok' := okH_spec i8
  have hL3t : ∀ i ∈ lt, L3.ρ i = L'.ρ i ∧ L3.κ i = L'.κ i := fun i hi => by
    obtain ⟨q1, q2⟩ := hL3 i (l1 i hi).2
    rw [upR_out (hltb i hi)] at q1 q2
    obtain ⟨q3, q4⟩ := i6 i (l1 i hi).1
    obtain ⟨q5, q6⟩ := pin i (l1 i hi).1
    exact ⟨q1.trans (q3.trans q5.symm), q2.trans (q4.trans q6.symm)⟩
  have hB : HeapOk cx L3 F' h' (gg.st I) W4 := by
    refine ⟨h4.hg, h4.csz, h4.fresh, fun id o hi => ?_, fun id o hi hb => ?_, fun i j o p hi hj hbi hbj he => ?_⟩
    · refine RepO.mono tr4 id o (fun j hj => hL3t j (b1 j ((heapNames_key hi).2 j (namesOfO_mem j o hj)))) (hL3t id (b1 id (heapNames_key hi).1)) (fun hb => hk4 _ fun e => ?_) (RepO.yfree o (yfreeH_spec hbk.2 hi) (hH.obj id o hi))
      exact (hH.own id o hi hb).2 (.inr (.inr (.inl e)))
    · have h3 := hL3t id (b1 id (heapNames_key hi).1)
      have := hH.own id o hi ((Backed_eq h3.2).1 hb)
      rw [h3.1]
      exact ⟨this.1, fun h => this.2 (.inl h)⟩
    · have h1 := hL3t i (b1 i (heapNames_key hi).1)
      have h2 := hL3t j (b1 j (heapNames_key hj).1)
      rw [h1.1, h2.1] at he
      exact hH.inj i j o p hi hj ((Backed_eq h1.2).1 hbi) ((Backed_eq h2.2).1 hbj) he
  have hgood : Good cx r (mk ++ m) L3 F' ⟨e, renH (dnR c1 tb) (gg.heap I) ++ h', gg.st I⟩ { aa with defers := mk.map mark ++ aa.defers } W4 := by
    refine ⟨(h4.ren fun i hi => hL3d i (hok' i hi).2).app hB fun i o j p hi hj hbi hbj he => ?_, fun t v ht => ?_, ?_, fun x hx => ?_, ?_, fun l0 h0 => ?_, fun i hi => ?_, hg.tsz⟩
    · obtain ⟨i', o1, h1, rfl, rfl⟩ := get_renH hi
      have hr := hL3d i' (hok' i' (heapNames_key h1).1).2
      have hj3 := hL3t j (b1 j (heapNames_key hj).1)
      rw [hr.1, hj3.1] at he
      exact (hH.own j p hj ((Backed_eq hj3.2).1 hbj)).2 (.inr (.inl ⟨i', o1, h1, (Backed_ren (R := dnR c1 tb) (L := L2) (L' := L3) i' o1 hr.2).1 hbi, he⟩))
    · obtain ⟨x, hx, hr⟩ := i5 t (mapId (renF (upR c1 tb)) v) (by
        have ht : get e t = some v := ht
        simp only [renE, get_mapT, ht]; rfl)
      refine ⟨x, hx, RepV.mono tr4 v x (fun _ _ => ⟨rfl, rfl⟩) ((RepV.ren (R := upR c1 tb) (L := L3) (L' := L2) v x fun i hi => ?_).1 hr)⟩
      obtain ⟨q1, q2⟩ := hL3 i (henv1 i (envNames_mem ht hi))
      exact ⟨q1.symm, q2.symm⟩
    · show mk.map mark ++ aa.defers = (mk ++ m).map mark
      rw [hg.dfr, List.map_append]
    · obtain ⟨q1, q2⟩ := i3 x hx
      exact ⟨by rw [hk4 x (by rintro rfl; rw [i2.1] at q1; cases q1)]; exact q1, q2⟩
    · rw [List.nodup_append]
      refine ⟨hmn, hg.mnd, fun x hx y hy e => ?_⟩
      have h1 := (hmk x hx).1
      have h2 := block_lt (hg.mks y hy).1
      omega
    · obtain ⟨lp, ⟨q1, q2⟩, q3⟩ := i4 l0 h0
      exact ⟨lp, ⟨by rw [hk4 l0 (by rintro rfl; exact hrl h0)]; exact q1, q2⟩, q3⟩
    · have hm : i ∉ tb := fun hm => by have := htb6 i hm; unfold pinned at hi; omega
      cases hr : inRange c1 tb.length i with
      | true => simp [L3, hm, hr]
      | false =>
        obtain ⟨q1, q2⟩ := hL3 i hr
        rw [upR_out hm] at q1 q2
        obtain ⟨q3, q4⟩ := i6 i hi
        have q5 : L1.ρ i = L.ρ i ∧ L1.κ i = L.κ i := by
          show L.ρ (dnR c1 tb i) = L.ρ i ∧ L.κ (dnR c1 tb i) = L.κ i
          rw [dnR_out hr]; exact ⟨rfl, rfl⟩
        obtain ⟨q6, q7⟩ := hg.pin i hi
        exact ⟨q1.trans (q3.trans (q5.1.trans q6)), q2.trans (q4.trans (q5.2.trans q7))⟩
  have trw : Tr F w F' W4 := Tr.trans tr1 (Tr.trans tr tr4)
  refine ⟨_, W4, hend, ?_⟩
  cases gg with
  | go x =>
    show ∃ e' st' m' L' F', _
    exact ⟨.normal, _, mk ++ m, L3, F', rfl, hK, hgood, trw, rfl⟩
  | done ex hd s' =>
    cases ex with
    | normal => exact wpIn_skip ⟨.normal, _, mk ++ m, L3, F', rfl, hK, hgood, trw, rfl⟩
    | ret => exact wpIn_ret ⟨.ret, _, mk ++ m, L3, F', rfl, hK, hgood, trw, rfl⟩
    | exit i => exact wpIn_exit ⟨.exit i, _, mk ++ m, L3, F', rfl, hK, hgood, trw, rfl⟩
end
end Go.PX
