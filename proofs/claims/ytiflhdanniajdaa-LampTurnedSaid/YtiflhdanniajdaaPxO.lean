import Derived.Test.YtiflhdanniajdaaPxN
import Derived.Test.YtiflhdanniajdaaPxM
set_option linter.all false
set_option maxRecDepth 10000
namespace Go.PX
open Go.Proofs

/- Lamp: fails (the program). -/

def ft90b : FT := ((ft90.less 6).less 7).less 21

set_option maxHeartbeats 4000000 in
theorem la90 (lit : List Bool) (l : List LPhase) (hl0 : lit ≠ []) (hl : lit.length ≤ 200) (hp : 1 ≤ l.length ∧ l.length ≤ 3) : FnV Try.prog 90 [boolsD lit, phasesD l] (i64 (failsL lit l)) := by
  refine fnV_of mixed tysOk Try.func90 rfl (ft := ft90b) 2 (by decide +kernel) (by rfl) fun {σ} Y st => ?_
  conv => whnf
  obtain ⟨b0, r0, rfl⟩ : ∃ b r, lit = b :: r := by
    cases lit with
    | nil => exact absurd rfl hl0
    | cons b r => exact ⟨b, r, rfl⟩
  refine LoopA_i (T := tys) tysOk (by exact drawsB_spec mixed tysOk (by decide +kernel)) l (fun i (m : Ms) => ⟨[(0, .d (boolsD (b0 :: r0))), (1, .d (phasesD l)), (5, .mp 11), (13, .d (i64 l.length)), (14, .d (i64 i))], [(11, .map (kvG LState.d m))], st⟩)
    (fun i r m => Cnt m i ∧ ∀ y, (getM m y).isSome = true ↔ y ∈ initA b0 i) [] (Wk.sub ⟨(by first | rfl | (simp only [List.length_map]; rfl) | simp [PX.get]), (by first | rfl | (simp only [List.length_map]; rfl) | simp [PX.get]), (by first | rfl | (simp only [List.length_map]; rfl) | simp [PX.get]), (by first | rfl | (simp only [List.length_map]; rfl) | simp [PX.get]), (by first | rfl | (simp only [List.length_map]; rfl) | simp [PX.get]), trivial⟩ ⟨(by first | rfl | (simp only [List.length_map]; rfl) | simp [PX.get]), trivial⟩) ⟨⟨by simp, fun y v h => by cases h⟩, fun y => by simp [initA, getM]⟩ ?_ ?_
  · intro i p r m hx hi hr ⟨hc, hm⟩
    have hin : ∀ y, y ∈ initA b0 (i + 1) ↔ y = ⟨b0, i, 1, true⟩ ∨ y ∈ initA b0 i := by
      intro y
      unfold initA
      rw [List.range_succ, List.map_append, List.mem_append]
      simp [or_comm]
    conv => whnf
    refine brk_i (fun _ => ?_) (fun h => absurd hi (by simpa using h))
    conv => whnf
    cases b0 with
    | true =>
      have hg0 : getM m ⟨true, i, 1, true⟩ = none := by
        cases hg : getM m ⟨true, i, 1, true⟩ with
        | none => rfl
        | some v =>
          exfalso
          have := (hm ⟨true, i, 1, true⟩).1 (by rw [hg]; rfl)
          obtain ⟨j, hj, he⟩ := List.mem_map.1 this
          have hj := List.mem_range.1 hj
          have : (j : Int) = i := congrArg LState.k he
          omega
      have g1 := findG_none (kd := LState.d) same_state hg0 0
      have g2 : findD (LState.d ⟨true, i, 1, true⟩) (kvG LState.d m ++ [(LState.d ⟨true, i, 1, true⟩, i64 0)]) 0 = some (some ((kvG LState.d m).length, i64 0)) := by
        rw [findG_last same_state hg0 0]; simp
      have hB : (decide ((0 : Int) ≤ ((kvG LState.d m).length : Int)) && decide (((kvG LState.d m).length : Int) < ((kvG LState.d m ++ [(LState.d ⟨true, i, 1, true⟩, i64 0)]).length : Int))) = true := by
        simp; omega
      have hfin : setVal (kvG LState.d m ++ [(LState.d ⟨true, i, 1, true⟩, i64 0)]) (kvG LState.d m).length (i64 (0 + 1)) = kvG LState.d (incM m ⟨true, i, 1, true⟩) := by
        rw [setVal_end]
        have := putG_none (kd := LState.d) 1 hg0
        rw [show i64 (0 + 1) = D.int .i64 1 from rfl, this, incM, hg0]; rfl
      conv => whnf
      refine RegionA_inv mixed tysOk [[], [], [1], [2], [0, 3], [4], [0, 1, 2, 3], [6], [0, 1, 2, 3, 4, 5, 6, 7]] (fun ls => (selE ls [some (20, .mp 11), some (21, .d (i64 i)), some (22, .d (stageD true i)), some (23, .d (LState.d ⟨true, i, 1, true⟩)), some (24, .d (i64 0)), some (25, .d (i64 (0 + 1))), some (26, .d (.tup [i64 0, i64 (kvG LState.d m).length])), some (27, .d (i64 (kvG LState.d m).length)), none] ++ [(0, .d (boolsD (true :: r0))), (1, .d (phasesD l)), (5, .mp 11), (13, .d (i64 l.length)), (14, .d (i64 i)), (6, .d (i64 i))], [(11, .map (sel3 ls 6 8 (kvG LState.d m) (kvG LState.d m ++ [(LState.d ⟨true, i, 1, true⟩, i64 0)]) (setVal (kvG LState.d m ++ [(LState.d ⟨true, i, 1, true⟩, i64 0)]) (kvG LState.d m).length (i64 (0 + 1)))))])) (by decide +kernel) ?_ ?_ ?_
      · exact Wk.sub ⟨rfl, rfl, rfl, rfl, rfl, rfl, trivial⟩ ⟨rfl, trivial⟩
      · conv => whnf
        repeat' (first
          | trivial
          | (refine And.intro ?_ ?_ <;> conv => whnf)
          | (refine findK.mk _ (g1) ?_; conv => whnf)
          | (refine findK.mk _ (g2) ?_; conv => whnf)
          | (refine arith_in (wrap_i64 (by omega)) ?_; conv => whnf)
          | (refine chk_i hB ?_; conv => whnf)
          | (refine Wk.sub ?_ ?_ <;> (repeat' (first | exact trivial | refine ⟨rfl, ?_⟩))))
      · conv => whnf
        refine arith_in (wrap_i64 (by omega)) ?_
        conv => whnf
        refine ⟨incM m ⟨true, i, 1, true⟩, ⟨hc.inc _, fun u => by rw [inc_some, hin, hm]⟩, Wk.sub ⟨rfl, rfl, rfl, rfl, rfl, trivial⟩ ⟨?_, trivial⟩⟩
        exact congrArg (fun z => some (Obj.map z)) hfin
    | false =>
      have hg0 : getM m ⟨false, i, 1, true⟩ = none := by
        cases hg : getM m ⟨false, i, 1, true⟩ with
        | none => rfl
        | some v =>
          exfalso
          have := (hm ⟨false, i, 1, true⟩).1 (by rw [hg]; rfl)
          obtain ⟨j, hj, he⟩ := List.mem_map.1 this
          have hj := List.mem_range.1 hj
          have : (j : Int) = i := congrArg LState.k he
          omega
      have g1 := findG_none (kd := LState.d) same_state hg0 0
      have g2 : findD (LState.d ⟨false, i, 1, true⟩) (kvG LState.d m ++ [(LState.d ⟨false, i, 1, true⟩, i64 0)]) 0 = some (some ((kvG LState.d m).length, i64 0)) := by
        rw [findG_last same_state hg0 0]; simp
      have hB : (decide ((0 : Int) ≤ ((kvG LState.d m).length : Int)) && decide (((kvG LState.d m).length : Int) < ((kvG LState.d m ++ [(LState.d ⟨false, i, 1, true⟩, i64 0)]).length : Int))) = true := by
        simp; omega
      have hfin : setVal (kvG LState.d m ++ [(LState.d ⟨false, i, 1, true⟩, i64 0)]) (kvG LState.d m).length (i64 (0 + 1)) = kvG LState.d (incM m ⟨false, i, 1, true⟩) := by
        rw [setVal_end]
        have := putG_none (kd := LState.d) 1 hg0
        rw [show i64 (0 + 1) = D.int .i64 1 from rfl, this, incM, hg0]; rfl
      conv => whnf
      refine RegionA_inv mixed tysOk [[], [], [1], [2], [0, 3], [4], [0, 1, 2, 3], [6], [0, 1, 2, 3, 4, 5, 6, 7]] (fun ls => (selE ls [some (28, .mp 11), some (29, .d (i64 i)), some (30, .d (stageD false i)), some (31, .d (LState.d ⟨false, i, 1, true⟩)), some (32, .d (i64 0)), some (33, .d (i64 (0 + 1))), some (34, .d (.tup [i64 0, i64 (kvG LState.d m).length])), some (35, .d (i64 (kvG LState.d m).length)), none] ++ [(0, .d (boolsD (false :: r0))), (1, .d (phasesD l)), (5, .mp 11), (13, .d (i64 l.length)), (14, .d (i64 i)), (6, .d (i64 i))], [(11, .map (sel3 ls 6 8 (kvG LState.d m) (kvG LState.d m ++ [(LState.d ⟨false, i, 1, true⟩, i64 0)]) (setVal (kvG LState.d m ++ [(LState.d ⟨false, i, 1, true⟩, i64 0)]) (kvG LState.d m).length (i64 (0 + 1)))))])) (by decide +kernel) ?_ ?_ ?_
      · exact Wk.sub ⟨rfl, rfl, rfl, rfl, rfl, rfl, trivial⟩ ⟨rfl, trivial⟩
      · conv => whnf
        repeat' (first
          | trivial
          | (refine And.intro ?_ ?_ <;> conv => whnf)
          | (refine findK.mk _ (g1) ?_; conv => whnf)
          | (refine findK.mk _ (g2) ?_; conv => whnf)
          | (refine arith_in (wrap_i64 (by omega)) ?_; conv => whnf)
          | (refine chk_i hB ?_; conv => whnf)
          | (refine Wk.sub ?_ ?_ <;> (repeat' (first | exact trivial | refine ⟨rfl, ?_⟩))))
      · conv => whnf
        refine arith_in (wrap_i64 (by omega)) ?_
        conv => whnf
        refine ⟨incM m ⟨false, i, 1, true⟩, ⟨hc.inc _, fun u => by rw [inc_some, hin, hm]⟩, Wk.sub ⟨rfl, rfl, rfl, rfl, rfl, trivial⟩ ⟨?_, trivial⟩⟩
        exact congrArg (fun z => some (Obj.map z)) hfin
  intro m ⟨hc, hm⟩
  have hfl : failsL (b0 :: r0) l = failsF l r0 b0 (initA b0 l.length) 1 := rfl
  rw [hfl]
  have hini := init_ok (l := l) (b := b0)
  generalize initA b0 l.length = A at hm hfl hini
  conv => whnf
  refine brk_i (fun h => absurd h (by simp)) (fun _ => ?_)
  conv => whnf
  refine LoopA_p (T := tys) tysOk (by exact drawsB_spec mixed tysOk (by decide +kernel)) (α := Nat × (List LState × Ms))
    (fun p => ⟨[(0, .d (boolsD (b0 :: r0))), (1, .d (phasesD l)), (5, .mp 900001), (7, .d (i64 p.1))], [(900001, .map (kvG LState.d p.2.2))], st⟩)
    (fun p => 1 ≤ p.1 ∧ p.1 ≤ r0.length + 1 ∧ p.2.2.length ≤ 3 ∧ MapOf p.2.2 p.2.1 ∧ (∀ x ∈ p.2.1, StR l p.1 x) ∧ ∃ pb, (b0 :: r0)[p.1 - 1]? = some pb ∧ failsF l r0 b0 A 1 = failsF l (r0.drop (p.1 - 1)) pb p.2.1 p.1) (fun p => r0.length + 1 - p.1) (1, (A, m)) ?wk ?pr ?_
  case wk => exact (Wk.move 11 900001 rfl rfl).trans (Wk.sub ⟨(by first | rfl | (simp only [List.length_map]; rfl) | simp [PX.get]), (by first | rfl | (simp only [List.length_map]; rfl) | simp [PX.get]), (by first | rfl | (simp only [List.length_map]; rfl) | simp [PX.get]), (by first | rfl | (simp only [List.length_map]; rfl) | simp [PX.get]), trivial⟩ ⟨(by first | rfl | (simp only [List.length_map]; rfl) | simp [PX.get]), trivial⟩)
  case pr => exact ⟨Nat.le_refl _, by simp only; omega, by have := hc.len; simp only; omega, hm, by simpa using hini, b0, rfl, rfl⟩
  clear hc hm hini hfl
  rintro ⟨s, B, m⟩ ⟨hs1, hs2, hml, hm, hst, pb, hpb, hfl⟩
  simp only at hs1 hs2 hml hm hst hpb hfl
  rw [hfl]
  conv => whnf
  refine brk_i (fun h1 => ?_) (fun h1 => ?_)
  case refine_2 =>
    have h1 : ¬ s < r0.length + 1 := by have := of_decide_eq_false h1; simp at this; omega
    rw [List.drop_eq_nil_of_le (by omega), failsF]
    conv => whnf
    exact RetA_view 0 rfl ⟨⟨rfl, rfl⟩, rfl⟩
  have h1 : s < r0.length + 1 := by have := of_decide_eq_true h1; simp at this; omega
  have hs200 : (s : Int) ≤ 199 := by
    have : (b0 :: r0).length = r0.length + 1 := rfl
    omega
  obtain ⟨cb, hcb⟩ : ∃ cb, (b0 :: r0)[s]? = some cb := ⟨_, List.getElem?_eq_getElem (by simpa using h1)⟩
  have hdr : r0.drop (s - 1) = cb :: r0.drop s := by
    obtain ⟨s', rfl⟩ : ∃ s', s = s' + 1 := ⟨s - 1, by omega⟩
    rw [List.getElem?_cons_succ] at hcb
    have hlt := (List.getElem?_eq_some_iff.1 hcb).1
    rw [Nat.add_sub_cancel, List.drop_eq_getElem_cons hlt]
    rw [List.getElem?_eq_getElem hlt] at hcb
    rw [Option.some.inj hcb]
  rw [hdr, failsF]
  have hcg : (List.map (fun b => [D.bool b]) (b0 :: r0))[((s : Nat) : Int).toNat]? = some [.bool cb] := by
    rw [Int.toNat_natCast, List.getElem?_map, hcb]; rfl
  have hpg : (List.map (fun b => [D.bool b]) (b0 :: r0))[((s : Int) - 1).toNat]? = some [.bool pb] := by
    rw [show ((s : Int) - 1).toNat = s - 1 by omega, List.getElem?_map, hpb]; rfl
  have hlen3 : m.length ≤ 3 := hml
  conv => whnf
  refine LoopA_p (T := tys) tysOk (by exact drawsB_spec mixed tysOk (by decide +kernel)) (α := List Nat × (Ms × (Nat × Option Nat)))
    (fun p => ⟨[(0, .d (boolsD (b0 :: r0))), (1, .d (phasesD l)), (5, .mp 900001), (7, .d (i64 s)), (8, .mp 43), (45, .it 45)], [(900001, .map (kvG LState.d m)), (43, .map (kvG LState.d p.2.1)), (45, .mit (.mp 900001) m.length p.1 p.2.2.2)], st⟩)
    (fun p => Cnt p.2.1 p.2.2.1 ∧ p.2.2.1 + p.1.length ≤ m.length ∧ Nxt l (cb != pb) m p.1 p.2.1) (fun p => p.1.length) (List.range m.length, ([], (0, none))) ?wk2 ?pr2 ?_
  case wk2 =>
    refine Wk.sub ⟨rfl, rfl, rfl, rfl, rfl, rfl, trivial⟩ ⟨rfl, rfl, ?_, trivial⟩
    show some (Obj.mit (V.mp 900001) (kvG LState.d m).length (List.range (kvG LState.d m).length) none) = _
    rw [kvG_length]
  case pr2 =>
    refine ⟨⟨Nat.le_refl _, fun y v h => by cases h⟩, by simp, fun y => ?_⟩
    constructor
    · intro h; cases h
    · rintro ⟨j, x, v, h1, h2, _⟩
      have := (List.getElem?_eq_some_iff.1 h2).1
      exact absurd (List.mem_range.2 this) h1
  rintro ⟨todo, next, c, cur⟩ ⟨hcn, hct, hnx⟩
  simp only at hcn hct hnx
  conv => whnf
  refine ⟨by simp [kvG_length], fun h0 => ?_, fun i kv hi hkv => ?_⟩
  · have h0 : todo = [] := h0
    subst h0
    have hfin := Nxt.fin hm hnx
    have hnl : next.length ≤ 3 := by have := hcn.len; simp only [List.length_nil] at hct; omega
    conv => whnf
    refine brk_i (fun h2 => ?_) (fun h2 => ?_)
    · have h2 : next.length = 0 := by
        have := of_decide_eq_true h2
        rw [kvG_length] at this
        exact Int.ofNat.inj this
      rw [if_pos (hfin.empty.1 h2)]
      conv => whnf
      exact RetA_view 0 rfl ⟨⟨rfl, rfl⟩, rfl⟩
    · have h2 : ¬ next.length = 0 := by
        have := of_decide_eq_false h2
        rw [kvG_length] at this
        exact fun e => this (congrArg Int.ofNat e)
      rw [if_neg (fun h => h2 (hfin.empty.2 h))]
      conv => whnf
      refine arith_to (((s + 1 : Nat) : Int)) (by (try dsimp only); omega) (wrap_i64 (by (try dsimp only); omega)) ?_
      conv => whnf
      refine ⟨(s + 1, (B.filterMap (stepS l (cb != pb)), next)), by simp only; omega, ⟨by simp only; omega, by simp only; omega, hnl, hfin, ?_, cb, ?_, ?_⟩, (Wk.move 43 900001 rfl rfl).trans (Wk.sub ⟨(by first | rfl | (simp only [List.length_map]; rfl) | simp [PX.get]), (by first | rfl | (simp only [List.length_map]; rfl) | simp [PX.get]), (by first | rfl | (simp only [List.length_map]; rfl) | simp [PX.get]), (by first | rfl | (simp only [List.length_map]; rfl) | simp [PX.get]), trivial⟩ ⟨(by first | rfl | (simp only [List.length_map]; rfl) | simp [PX.get]), trivial⟩)⟩
      · intro y hy
        obtain ⟨x, hx, hxy⟩ := List.mem_filterMap.1 hy
        exact step_ok hp.1 (by omega) (hst x hx) hxy
      · exact hcb
      · rfl
  · obtain ⟨x, v, hx, rfl⟩ := kvG_get hkv
    have hi : i ∈ todo := hi
    have hlt := filter_lt hi
    have hxB := hm.get hx
    obtain ⟨⟨hk0, hk1⟩, hlo⟩ := hst x hxB
    conv => whnf
    obtain ⟨fl, k, long, first⟩ := x
    simp only at hk0 hk1 hlo
    obtain ⟨p, hp1⟩ : ∃ p, l[k.toNat]? = some p := ⟨_, List.getElem?_eq_getElem (by omega)⟩
    have hls : long ≤ 200 := by omega
    cases fl with
    | true =>
      have hsp : ∀ f n, spanOf l ⟨true, k, n, f⟩ = p.flash := fun f n => by simp [spanOf, hp1]
      have hsd : ∀ f n, spanOf l ⟨false, k, n, f⟩ = p.dark := fun f n => by simp [spanOf, hp1]
      refine ⟨by simp [kvG_length], (.agg [.ifc 165 (i64 k), i64 long, .bool first], i64 v), hkv, ?_⟩
      conv => whnf
      refine arith_in (wrap_i64 (by (try dsimp only); omega)) ?_
      conv => whnf
      refine elemK_i _ ⟨by omega, hcg⟩ ?_
      conv => whnf
      refine arith_in (wrap_i64 (by (try dsimp only); omega)) ?_
      conv => whnf
      refine elemK_i _ ⟨by omega, hpg⟩ ?_
      conv => whnf
      cases hch : (cb != pb) with
      | false =>
        rw [show (!(cb == pb)) = false from hch]
        rw [hch] at hnx
        have hS : stepS l false ⟨true, k, long, first⟩ = if long + 1 ≤ p.flash.hi then some ⟨true, k, long + 1, first⟩ else none := by simp [stepS, hsp]
        conv => whnf
        refine InvA_b 139 (by decide +kernel) ?_
        refine DrawCall_v (la139 l k p hk0 hp1) rfl rfl ?_
        conv => whnf
        refine brk_i (fun h3 => ?_) (fun h3 => ?_)
        · have h3 : (long + 1) ≤ p.flash.hi := by simpa using h3
          rw [if_pos h3] at hS
          conv => whnf
          have hnx2 := hnx.some hx hS
          have hcn2 := hcn.inc ⟨true, k, (long + 1), first⟩
          cases hg : getM next ⟨true, k, (long + 1), first⟩ with
          | none =>
            have g1 := findG_none (kd := LState.d) same_state hg 0
            have g2 : findD (LState.d ⟨true, k, (long + 1), first⟩) (kvG LState.d next ++ [(LState.d ⟨true, k, (long + 1), first⟩, i64 0)]) 0 = some (some ((kvG LState.d next).length, i64 0)) := by
              rw [findG_last same_state hg 0]; simp
            have hB : (decide ((0 : Int) ≤ ((kvG LState.d next).length : Int)) && decide (((kvG LState.d next).length : Int) < ((kvG LState.d next ++ [(LState.d ⟨true, k, (long + 1), first⟩, i64 0)]).length : Int))) = true := by
              simp; omega
            have hfin : setVal (kvG LState.d next ++ [(LState.d ⟨true, k, (long + 1), first⟩, i64 0)]) (kvG LState.d next).length (i64 (0 + 1)) = kvG LState.d (incM next ⟨true, k, (long + 1), first⟩) := by
              rw [setVal_end]
              have := putG_none (kd := LState.d) 1 hg
              rw [show i64 (0 + 1) = D.int .i64 1 from rfl, this, incM, hg]; rfl
            refine RegionA_inv mixed tysOk [[], [], [0, 1], [2], [0, 1], [4], [0, 1, 2, 3, 4, 5]] (fun ls => (selE ls [some (95, .mp 43), some (96, .d (LState.d ⟨true, k, (long + 1), first⟩)), some (97, .d (i64 0)), some (98, .d (i64 (0 + 1))), some (99, .d (.tup [i64 0, i64 (kvG LState.d next).length])), some (100, .d (i64 (kvG LState.d next).length)), none] ++ [(0, .d (boolsD (b0 :: r0))), (1, .d (phasesD l)), (5, .mp 900001), (7, .d (i64 s)), (8, .mp 43), (45, .it 45), (10, .ptr 10 0)], [(900001, .map (kvG LState.d m)), (43, .map (sel3 ls 4 6 (kvG LState.d next) (kvG LState.d next ++ [(LState.d ⟨true, k, (long + 1), first⟩, i64 0)]) (setVal (kvG LState.d next ++ [(LState.d ⟨true, k, (long + 1), first⟩, i64 0)]) (kvG LState.d next).length (i64 (0 + 1))))), (45, .mit (.mp 900001) m.length (todo.filter fun j => !Nat.beq j i) (some i)), (10, .box (.dd (LState.cells ⟨true, k, (long + 1), first⟩)))])) (by decide +kernel) ?_ ?_ ?_
            · exact Wk.sub ⟨rfl, rfl, rfl, rfl, rfl, rfl, rfl, trivial⟩ ⟨rfl, rfl, rfl, rfl, trivial⟩
            · conv => whnf
              repeat' (first
                | trivial
                | (refine And.intro ?_ ?_ <;> conv => whnf)
                | (refine findK.mk _ (g1) ?_; conv => whnf)
                | (refine findK.mk _ (g2) ?_; conv => whnf)
                | (refine arith_in (wrap_i64 (by omega)) ?_; conv => whnf)
                | (refine chk_i hB ?_; conv => whnf)
                | (refine Wk.sub ?_ ?_ <;> (repeat' (first | exact trivial | refine ⟨rfl, ?_⟩))))
            · conv => whnf
              refine ⟨(todo.filter fun j => !Nat.beq j i, (incM next ⟨true, k, (long + 1), first⟩, (c + 1, some i))), hlt, ⟨hcn2, by simp only; omega, hnx2⟩, Wk.sub ⟨rfl, rfl, rfl, rfl, rfl, rfl, trivial⟩ ⟨rfl, ?_, rfl, trivial⟩⟩
              exact congrArg (fun z => some (Obj.map z)) hfin
          | some v2 =>
            obtain ⟨j2, q0, q1, q2, q3, q4⟩ := findG_some (kd := LState.d) same_state hg 0
            have hvb := hcn.bd _ _ hg
            have g1 : findD (LState.d ⟨true, k, (long + 1), first⟩) (kvG LState.d next) 0 = some (some (j2, i64 v2)) := by rw [q1]; simp [i64]
            have g2 : findD (LState.d ⟨true, k, (long + 1), first⟩) (setKey (kvG LState.d next) j2 (LState.d ⟨true, k, (long + 1), first⟩)) 0 = some (some (j2, i64 v2)) := by rw [q3]; exact g1
            have hB : (decide ((0 : Int) ≤ (j2 : Int)) && decide ((j2 : Int) < ((setKey (kvG LState.d next) j2 (LState.d ⟨true, k, (long + 1), first⟩)).length : Int))) = true := by
              rw [q3, kvG_length]; simp; omega
            have hfin : setVal (setKey (kvG LState.d next) j2 (LState.d ⟨true, k, (long + 1), first⟩)) j2 (i64 (v2 + 1)) = kvG LState.d (incM next ⟨true, k, (long + 1), first⟩) := by
              rw [q3, show i64 (v2 + 1) = D.int .i64 (v2 + 1) from rfl, q4, incM, hg]; rfl
            refine RegionA_inv mixed tysOk [[], [], [0, 1], [2], [0, 1], [4], [0, 1, 2, 3, 4, 5]] (fun ls => (selE ls [some (95, .mp 43), some (96, .d (LState.d ⟨true, k, (long + 1), first⟩)), some (97, .d (i64 v2)), some (98, .d (i64 (v2 + 1))), some (99, .d (.tup [i64 v2, i64 j2])), some (100, .d (i64 j2)), none] ++ [(0, .d (boolsD (b0 :: r0))), (1, .d (phasesD l)), (5, .mp 900001), (7, .d (i64 s)), (8, .mp 43), (45, .it 45), (10, .ptr 10 0)], [(900001, .map (kvG LState.d m)), (43, .map (sel3 ls 4 6 (kvG LState.d next) (setKey (kvG LState.d next) j2 (LState.d ⟨true, k, (long + 1), first⟩)) (setVal (setKey (kvG LState.d next) j2 (LState.d ⟨true, k, (long + 1), first⟩)) j2 (i64 (v2 + 1))))), (45, .mit (.mp 900001) m.length (todo.filter fun j => !Nat.beq j i) (some i)), (10, .box (.dd (LState.cells ⟨true, k, (long + 1), first⟩)))])) (by decide +kernel) ?_ ?_ ?_
            · exact Wk.sub ⟨rfl, rfl, rfl, rfl, rfl, rfl, rfl, trivial⟩ ⟨rfl, rfl, rfl, rfl, trivial⟩
            · conv => whnf
              repeat' (first
                | trivial
                | (refine And.intro ?_ ?_ <;> conv => whnf)
                | (refine findK.mk _ (g1) ?_; conv => whnf)
                | (refine findK.mk _ (g2) ?_; conv => whnf)
                | (refine arith_in (wrap_i64 (by omega)) ?_; conv => whnf)
                | (refine chk_i hB ?_; conv => whnf)
                | (refine Wk.sub ?_ ?_ <;> (repeat' (first | exact trivial | refine ⟨rfl, ?_⟩))))
            · conv => whnf
              refine ⟨(todo.filter fun j => !Nat.beq j i, (incM next ⟨true, k, (long + 1), first⟩, (c + 1, some i))), hlt, ⟨hcn2, by simp only; omega, hnx2⟩, Wk.sub ⟨rfl, rfl, rfl, rfl, rfl, rfl, trivial⟩ ⟨rfl, ?_, rfl, trivial⟩⟩
              exact congrArg (fun z => some (Obj.map z)) hfin
        · have h3 : ¬ (long + 1) ≤ p.flash.hi := by simpa using h3
          rw [if_neg h3] at hS
          conv => whnf
          exact ⟨(todo.filter fun j => !Nat.beq j i, (next, (c, some i))), hlt, ⟨hcn, by simp only; omega, hnx.none hx hS⟩, (Wk.sub ⟨(by first | rfl | (simp only [List.length_map]; rfl) | simp [PX.get]), (by first | rfl | (simp only [List.length_map]; rfl) | simp [PX.get]), (by first | rfl | (simp only [List.length_map]; rfl) | simp [PX.get]), (by first | rfl | (simp only [List.length_map]; rfl) | simp [PX.get]), (by first | rfl | (simp only [List.length_map]; rfl) | simp [PX.get]), (by first | rfl | (simp only [List.length_map]; rfl) | simp [PX.get]), trivial⟩ ⟨(by first | rfl | (simp only [List.length_map]; rfl) | simp [PX.get]), (by first | rfl | (simp only [List.length_map]; rfl) | simp [PX.get]), (by first | rfl | (simp only [List.length_map]; rfl) | simp [PX.get]), trivial⟩)⟩
      | true =>
        rw [show (!(cb == pb)) = true from hch]
        rw [hch] at hnx
        cases first with
        | true =>
          have hS : stepS l true ⟨true, k, long, true⟩ = if 1 ≤ p.dark.hi then some ⟨false, k, 1, false⟩ else none := by simp [stepS, hsd, behindS]
          conv => whnf
          refine CallA_v (la118 true k (List.map LPhase.cells l).length (by omega) (by simp; omega)) rfl rfl ?_
          conv => whnf
          conv => whnf
          refine InvA_b 140 (by decide +kernel) ?_
          refine DrawCall_v (la140 l k p hk0 hp1) rfl rfl ?_
          conv => whnf
          refine brk_i (fun h3 => ?_) (fun h3 => ?_)
          · have h3 : 1 ≤ p.dark.hi := by simpa using h3
            rw [if_pos h3] at hS
            conv => whnf
            have hnx2 := hnx.some hx hS
            have hcn2 := hcn.inc ⟨false, k, 1, false⟩
            cases hg : getM next ⟨false, k, 1, false⟩ with
            | none =>
              have g1 := findG_none (kd := LState.d) same_state hg 0
              have g2 : findD (LState.d ⟨false, k, 1, false⟩) (kvG LState.d next ++ [(LState.d ⟨false, k, 1, false⟩, i64 0)]) 0 = some (some ((kvG LState.d next).length, i64 0)) := by
                rw [findG_last same_state hg 0]; simp
              have hB : (decide ((0 : Int) ≤ ((kvG LState.d next).length : Int)) && decide (((kvG LState.d next).length : Int) < ((kvG LState.d next ++ [(LState.d ⟨false, k, 1, false⟩, i64 0)]).length : Int))) = true := by
                simp; omega
              have hfin : setVal (kvG LState.d next ++ [(LState.d ⟨false, k, 1, false⟩, i64 0)]) (kvG LState.d next).length (i64 (0 + 1)) = kvG LState.d (incM next ⟨false, k, 1, false⟩) := by
                rw [setVal_end]
                have := putG_none (kd := LState.d) 1 hg
                rw [show i64 (0 + 1) = D.int .i64 1 from rfl, this, incM, hg]; rfl
              refine RegionA_inv mixed tysOk [[], [], [0, 1], [2], [0, 1], [4], [0, 1, 2, 3, 4, 5]] (fun ls => (selE ls [some (95, .mp 43), some (96, .d (LState.d ⟨false, k, 1, false⟩)), some (97, .d (i64 0)), some (98, .d (i64 (0 + 1))), some (99, .d (.tup [i64 0, i64 (kvG LState.d next).length])), some (100, .d (i64 (kvG LState.d next).length)), none] ++ [(0, .d (boolsD (b0 :: r0))), (1, .d (phasesD l)), (5, .mp 900001), (7, .d (i64 s)), (8, .mp 43), (45, .it 45), (10, .ptr 10 0)], [(900001, .map (kvG LState.d m)), (43, .map (sel3 ls 4 6 (kvG LState.d next) (kvG LState.d next ++ [(LState.d ⟨false, k, 1, false⟩, i64 0)]) (setVal (kvG LState.d next ++ [(LState.d ⟨false, k, 1, false⟩, i64 0)]) (kvG LState.d next).length (i64 (0 + 1))))), (45, .mit (.mp 900001) m.length (todo.filter fun j => !Nat.beq j i) (some i)), (10, .box (.dd (LState.cells ⟨false, k, 1, false⟩)))])) (by decide +kernel) ?_ ?_ ?_
              · exact Wk.sub ⟨rfl, rfl, rfl, rfl, rfl, rfl, rfl, trivial⟩ ⟨rfl, rfl, rfl, rfl, trivial⟩
              · conv => whnf
                repeat' (first
                  | trivial
                  | (refine And.intro ?_ ?_ <;> conv => whnf)
                  | (refine findK.mk _ (g1) ?_; conv => whnf)
                  | (refine findK.mk _ (g2) ?_; conv => whnf)
                  | (refine arith_in (wrap_i64 (by omega)) ?_; conv => whnf)
                  | (refine chk_i hB ?_; conv => whnf)
                  | (refine Wk.sub ?_ ?_ <;> (repeat' (first | exact trivial | refine ⟨rfl, ?_⟩))))
              · conv => whnf
                refine ⟨(todo.filter fun j => !Nat.beq j i, (incM next ⟨false, k, 1, false⟩, (c + 1, some i))), hlt, ⟨hcn2, by simp only; omega, hnx2⟩, Wk.sub ⟨rfl, rfl, rfl, rfl, rfl, rfl, trivial⟩ ⟨rfl, ?_, rfl, trivial⟩⟩
                exact congrArg (fun z => some (Obj.map z)) hfin
            | some v2 =>
              obtain ⟨j2, q0, q1, q2, q3, q4⟩ := findG_some (kd := LState.d) same_state hg 0
              have hvb := hcn.bd _ _ hg
              have g1 : findD (LState.d ⟨false, k, 1, false⟩) (kvG LState.d next) 0 = some (some (j2, i64 v2)) := by rw [q1]; simp [i64]
              have g2 : findD (LState.d ⟨false, k, 1, false⟩) (setKey (kvG LState.d next) j2 (LState.d ⟨false, k, 1, false⟩)) 0 = some (some (j2, i64 v2)) := by rw [q3]; exact g1
              have hB : (decide ((0 : Int) ≤ (j2 : Int)) && decide ((j2 : Int) < ((setKey (kvG LState.d next) j2 (LState.d ⟨false, k, 1, false⟩)).length : Int))) = true := by
                rw [q3, kvG_length]; simp; omega
              have hfin : setVal (setKey (kvG LState.d next) j2 (LState.d ⟨false, k, 1, false⟩)) j2 (i64 (v2 + 1)) = kvG LState.d (incM next ⟨false, k, 1, false⟩) := by
                rw [q3, show i64 (v2 + 1) = D.int .i64 (v2 + 1) from rfl, q4, incM, hg]; rfl
              refine RegionA_inv mixed tysOk [[], [], [0, 1], [2], [0, 1], [4], [0, 1, 2, 3, 4, 5]] (fun ls => (selE ls [some (95, .mp 43), some (96, .d (LState.d ⟨false, k, 1, false⟩)), some (97, .d (i64 v2)), some (98, .d (i64 (v2 + 1))), some (99, .d (.tup [i64 v2, i64 j2])), some (100, .d (i64 j2)), none] ++ [(0, .d (boolsD (b0 :: r0))), (1, .d (phasesD l)), (5, .mp 900001), (7, .d (i64 s)), (8, .mp 43), (45, .it 45), (10, .ptr 10 0)], [(900001, .map (kvG LState.d m)), (43, .map (sel3 ls 4 6 (kvG LState.d next) (setKey (kvG LState.d next) j2 (LState.d ⟨false, k, 1, false⟩)) (setVal (setKey (kvG LState.d next) j2 (LState.d ⟨false, k, 1, false⟩)) j2 (i64 (v2 + 1))))), (45, .mit (.mp 900001) m.length (todo.filter fun j => !Nat.beq j i) (some i)), (10, .box (.dd (LState.cells ⟨false, k, 1, false⟩)))])) (by decide +kernel) ?_ ?_ ?_
              · exact Wk.sub ⟨rfl, rfl, rfl, rfl, rfl, rfl, rfl, trivial⟩ ⟨rfl, rfl, rfl, rfl, trivial⟩
              · conv => whnf
                repeat' (first
                  | trivial
                  | (refine And.intro ?_ ?_ <;> conv => whnf)
                  | (refine findK.mk _ (g1) ?_; conv => whnf)
                  | (refine findK.mk _ (g2) ?_; conv => whnf)
                  | (refine arith_in (wrap_i64 (by omega)) ?_; conv => whnf)
                  | (refine chk_i hB ?_; conv => whnf)
                  | (refine Wk.sub ?_ ?_ <;> (repeat' (first | exact trivial | refine ⟨rfl, ?_⟩))))
              · conv => whnf
                refine ⟨(todo.filter fun j => !Nat.beq j i, (incM next ⟨false, k, 1, false⟩, (c + 1, some i))), hlt, ⟨hcn2, by simp only; omega, hnx2⟩, Wk.sub ⟨rfl, rfl, rfl, rfl, rfl, rfl, trivial⟩ ⟨rfl, ?_, rfl, trivial⟩⟩
                exact congrArg (fun z => some (Obj.map z)) hfin
          · have h3 : ¬ 1 ≤ p.dark.hi := by simpa using h3
            rw [if_neg h3] at hS
            conv => whnf
            exact ⟨(todo.filter fun j => !Nat.beq j i, (next, (c, some i))), hlt, ⟨hcn, by simp only; omega, hnx.none hx hS⟩, (Wk.sub ⟨(by first | rfl | (simp only [List.length_map]; rfl) | simp [PX.get]), (by first | rfl | (simp only [List.length_map]; rfl) | simp [PX.get]), (by first | rfl | (simp only [List.length_map]; rfl) | simp [PX.get]), (by first | rfl | (simp only [List.length_map]; rfl) | simp [PX.get]), (by first | rfl | (simp only [List.length_map]; rfl) | simp [PX.get]), (by first | rfl | (simp only [List.length_map]; rfl) | simp [PX.get]), trivial⟩ ⟨(by first | rfl | (simp only [List.length_map]; rfl) | simp [PX.get]), (by first | rfl | (simp only [List.length_map]; rfl) | simp [PX.get]), (by first | rfl | (simp only [List.length_map]; rfl) | simp [PX.get]), trivial⟩)⟩
        | false =>
          conv => whnf
          refine InvA_b 139 (by decide +kernel) ?_
          refine DrawCall_v (la139 l k p hk0 hp1) rfl rfl ?_
          conv => whnf
          refine brk_i (fun h2 => ?_) (fun h2 => ?_)
          · have h2 : long < p.flash.lo := by simpa using h2
            have hS : stepS l true ⟨true, k, long, false⟩ = none := by simp [stepS, hsp, h2]
            conv => whnf
            exact ⟨(todo.filter fun j => !Nat.beq j i, (next, (c, some i))), hlt, ⟨hcn, by simp only; omega, hnx.none hx hS⟩, (Wk.sub ⟨(by first | rfl | (simp only [List.length_map]; rfl) | simp [PX.get]), (by first | rfl | (simp only [List.length_map]; rfl) | simp [PX.get]), (by first | rfl | (simp only [List.length_map]; rfl) | simp [PX.get]), (by first | rfl | (simp only [List.length_map]; rfl) | simp [PX.get]), (by first | rfl | (simp only [List.length_map]; rfl) | simp [PX.get]), (by first | rfl | (simp only [List.length_map]; rfl) | simp [PX.get]), trivial⟩ ⟨(by first | rfl | (simp only [List.length_map]; rfl) | simp [PX.get]), (by first | rfl | (simp only [List.length_map]; rfl) | simp [PX.get]), (by first | rfl | (simp only [List.length_map]; rfl) | simp [PX.get]), trivial⟩)⟩
          · have h2 : ¬ long < p.flash.lo := by simpa using h2
            have hS : stepS l true ⟨true, k, long, false⟩ = if 1 ≤ p.dark.hi then some ⟨false, k, 1, false⟩ else none := by simp [stepS, hsp, hsd, behindS, h2]
            conv => whnf
            refine CallA_v (la118 true k (List.map LPhase.cells l).length (by omega) (by simp; omega)) rfl rfl ?_
            conv => whnf
            conv => whnf
            refine InvA_b 140 (by decide +kernel) ?_
            refine DrawCall_v (la140 l k p hk0 hp1) rfl rfl ?_
            conv => whnf
            refine brk_i (fun h3 => ?_) (fun h3 => ?_)
            · have h3 : 1 ≤ p.dark.hi := by simpa using h3
              rw [if_pos h3] at hS
              conv => whnf
              have hnx2 := hnx.some hx hS
              have hcn2 := hcn.inc ⟨false, k, 1, false⟩
              cases hg : getM next ⟨false, k, 1, false⟩ with
              | none =>
                have g1 := findG_none (kd := LState.d) same_state hg 0
                have g2 : findD (LState.d ⟨false, k, 1, false⟩) (kvG LState.d next ++ [(LState.d ⟨false, k, 1, false⟩, i64 0)]) 0 = some (some ((kvG LState.d next).length, i64 0)) := by
                  rw [findG_last same_state hg 0]; simp
                have hB : (decide ((0 : Int) ≤ ((kvG LState.d next).length : Int)) && decide (((kvG LState.d next).length : Int) < ((kvG LState.d next ++ [(LState.d ⟨false, k, 1, false⟩, i64 0)]).length : Int))) = true := by
                  simp; omega
                have hfin : setVal (kvG LState.d next ++ [(LState.d ⟨false, k, 1, false⟩, i64 0)]) (kvG LState.d next).length (i64 (0 + 1)) = kvG LState.d (incM next ⟨false, k, 1, false⟩) := by
                  rw [setVal_end]
                  have := putG_none (kd := LState.d) 1 hg
                  rw [show i64 (0 + 1) = D.int .i64 1 from rfl, this, incM, hg]; rfl
                refine RegionA_inv mixed tysOk [[], [], [0, 1], [2], [0, 1], [4], [0, 1, 2, 3, 4, 5]] (fun ls => (selE ls [some (95, .mp 43), some (96, .d (LState.d ⟨false, k, 1, false⟩)), some (97, .d (i64 0)), some (98, .d (i64 (0 + 1))), some (99, .d (.tup [i64 0, i64 (kvG LState.d next).length])), some (100, .d (i64 (kvG LState.d next).length)), none] ++ [(0, .d (boolsD (b0 :: r0))), (1, .d (phasesD l)), (5, .mp 900001), (7, .d (i64 s)), (8, .mp 43), (45, .it 45), (10, .ptr 10 0)], [(900001, .map (kvG LState.d m)), (43, .map (sel3 ls 4 6 (kvG LState.d next) (kvG LState.d next ++ [(LState.d ⟨false, k, 1, false⟩, i64 0)]) (setVal (kvG LState.d next ++ [(LState.d ⟨false, k, 1, false⟩, i64 0)]) (kvG LState.d next).length (i64 (0 + 1))))), (45, .mit (.mp 900001) m.length (todo.filter fun j => !Nat.beq j i) (some i)), (10, .box (.dd (LState.cells ⟨false, k, 1, false⟩)))])) (by decide +kernel) ?_ ?_ ?_
                · exact Wk.sub ⟨rfl, rfl, rfl, rfl, rfl, rfl, rfl, trivial⟩ ⟨rfl, rfl, rfl, rfl, trivial⟩
                · conv => whnf
                  repeat' (first
                    | trivial
                    | (refine And.intro ?_ ?_ <;> conv => whnf)
                    | (refine findK.mk _ (g1) ?_; conv => whnf)
                    | (refine findK.mk _ (g2) ?_; conv => whnf)
                    | (refine arith_in (wrap_i64 (by omega)) ?_; conv => whnf)
                    | (refine chk_i hB ?_; conv => whnf)
                    | (refine Wk.sub ?_ ?_ <;> (repeat' (first | exact trivial | refine ⟨rfl, ?_⟩))))
                · conv => whnf
                  refine ⟨(todo.filter fun j => !Nat.beq j i, (incM next ⟨false, k, 1, false⟩, (c + 1, some i))), hlt, ⟨hcn2, by simp only; omega, hnx2⟩, Wk.sub ⟨rfl, rfl, rfl, rfl, rfl, rfl, trivial⟩ ⟨rfl, ?_, rfl, trivial⟩⟩
                  exact congrArg (fun z => some (Obj.map z)) hfin
              | some v2 =>
                obtain ⟨j2, q0, q1, q2, q3, q4⟩ := findG_some (kd := LState.d) same_state hg 0
                have hvb := hcn.bd _ _ hg
                have g1 : findD (LState.d ⟨false, k, 1, false⟩) (kvG LState.d next) 0 = some (some (j2, i64 v2)) := by rw [q1]; simp [i64]
                have g2 : findD (LState.d ⟨false, k, 1, false⟩) (setKey (kvG LState.d next) j2 (LState.d ⟨false, k, 1, false⟩)) 0 = some (some (j2, i64 v2)) := by rw [q3]; exact g1
                have hB : (decide ((0 : Int) ≤ (j2 : Int)) && decide ((j2 : Int) < ((setKey (kvG LState.d next) j2 (LState.d ⟨false, k, 1, false⟩)).length : Int))) = true := by
                  rw [q3, kvG_length]; simp; omega
                have hfin : setVal (setKey (kvG LState.d next) j2 (LState.d ⟨false, k, 1, false⟩)) j2 (i64 (v2 + 1)) = kvG LState.d (incM next ⟨false, k, 1, false⟩) := by
                  rw [q3, show i64 (v2 + 1) = D.int .i64 (v2 + 1) from rfl, q4, incM, hg]; rfl
                refine RegionA_inv mixed tysOk [[], [], [0, 1], [2], [0, 1], [4], [0, 1, 2, 3, 4, 5]] (fun ls => (selE ls [some (95, .mp 43), some (96, .d (LState.d ⟨false, k, 1, false⟩)), some (97, .d (i64 v2)), some (98, .d (i64 (v2 + 1))), some (99, .d (.tup [i64 v2, i64 j2])), some (100, .d (i64 j2)), none] ++ [(0, .d (boolsD (b0 :: r0))), (1, .d (phasesD l)), (5, .mp 900001), (7, .d (i64 s)), (8, .mp 43), (45, .it 45), (10, .ptr 10 0)], [(900001, .map (kvG LState.d m)), (43, .map (sel3 ls 4 6 (kvG LState.d next) (setKey (kvG LState.d next) j2 (LState.d ⟨false, k, 1, false⟩)) (setVal (setKey (kvG LState.d next) j2 (LState.d ⟨false, k, 1, false⟩)) j2 (i64 (v2 + 1))))), (45, .mit (.mp 900001) m.length (todo.filter fun j => !Nat.beq j i) (some i)), (10, .box (.dd (LState.cells ⟨false, k, 1, false⟩)))])) (by decide +kernel) ?_ ?_ ?_
                · exact Wk.sub ⟨rfl, rfl, rfl, rfl, rfl, rfl, rfl, trivial⟩ ⟨rfl, rfl, rfl, rfl, trivial⟩
                · conv => whnf
                  repeat' (first
                    | trivial
                    | (refine And.intro ?_ ?_ <;> conv => whnf)
                    | (refine findK.mk _ (g1) ?_; conv => whnf)
                    | (refine findK.mk _ (g2) ?_; conv => whnf)
                    | (refine arith_in (wrap_i64 (by omega)) ?_; conv => whnf)
                    | (refine chk_i hB ?_; conv => whnf)
                    | (refine Wk.sub ?_ ?_ <;> (repeat' (first | exact trivial | refine ⟨rfl, ?_⟩))))
                · conv => whnf
                  refine ⟨(todo.filter fun j => !Nat.beq j i, (incM next ⟨false, k, 1, false⟩, (c + 1, some i))), hlt, ⟨hcn2, by simp only; omega, hnx2⟩, Wk.sub ⟨rfl, rfl, rfl, rfl, rfl, rfl, trivial⟩ ⟨rfl, ?_, rfl, trivial⟩⟩
                  exact congrArg (fun z => some (Obj.map z)) hfin
            · have h3 : ¬ 1 ≤ p.dark.hi := by simpa using h3
              rw [if_neg h3] at hS
              conv => whnf
              exact ⟨(todo.filter fun j => !Nat.beq j i, (next, (c, some i))), hlt, ⟨hcn, by simp only; omega, hnx.none hx hS⟩, (Wk.sub ⟨(by first | rfl | (simp only [List.length_map]; rfl) | simp [PX.get]), (by first | rfl | (simp only [List.length_map]; rfl) | simp [PX.get]), (by first | rfl | (simp only [List.length_map]; rfl) | simp [PX.get]), (by first | rfl | (simp only [List.length_map]; rfl) | simp [PX.get]), (by first | rfl | (simp only [List.length_map]; rfl) | simp [PX.get]), (by first | rfl | (simp only [List.length_map]; rfl) | simp [PX.get]), trivial⟩ ⟨(by first | rfl | (simp only [List.length_map]; rfl) | simp [PX.get]), (by first | rfl | (simp only [List.length_map]; rfl) | simp [PX.get]), (by first | rfl | (simp only [List.length_map]; rfl) | simp [PX.get]), trivial⟩)⟩
    | false =>
      have hsp : ∀ f n, spanOf l ⟨false, k, n, f⟩ = p.dark := fun f n => by simp [spanOf, hp1]
      obtain ⟨k2, hk2⟩ : ∃ k2, k2 = (k + 1) % ((List.map LPhase.cells l).length : Int) := ⟨_, rfl⟩
      have hk2e : (k + 1) % (l.length : Int) = k2 := by rw [hk2, List.length_map]
      have hk20 : 0 ≤ k2 := by rw [← hk2e]; exact Int.emod_nonneg _ (by omega)
      have hk21 : k2 < l.length := by rw [← hk2e]; exact Int.emod_lt_of_pos _ (by omega)
      obtain ⟨p2, hp2⟩ : ∃ p, l[k2.toNat]? = some p := ⟨_, List.getElem?_eq_getElem (by omega)⟩
      have hsd : ∀ f n, spanOf l ⟨true, k2, n, f⟩ = p2.flash := fun f n => by simp [spanOf, hp2]
      refine ⟨by simp [kvG_length], (.agg [.ifc 170 (i64 k), i64 long, .bool first], i64 v), hkv, ?_⟩
      conv => whnf
      refine arith_in (wrap_i64 (by (try dsimp only); omega)) ?_
      conv => whnf
      refine elemK_i _ ⟨by omega, hcg⟩ ?_
      conv => whnf
      refine arith_in (wrap_i64 (by (try dsimp only); omega)) ?_
      conv => whnf
      refine elemK_i _ ⟨by omega, hpg⟩ ?_
      conv => whnf
      cases hch : (cb != pb) with
      | false =>
        rw [show (!(cb == pb)) = false from hch]
        rw [hch] at hnx
        have hS : stepS l false ⟨false, k, long, first⟩ = if long + 1 ≤ p.dark.hi then some ⟨false, k, long + 1, first⟩ else none := by simp [stepS, hsp]
        conv => whnf
        refine InvA_b 140 (by decide +kernel) ?_
        refine DrawCall_v (la140 l k p hk0 hp1) rfl rfl ?_
        conv => whnf
        refine brk_i (fun h3 => ?_) (fun h3 => ?_)
        · have h3 : (long + 1) ≤ p.dark.hi := by simpa using h3
          rw [if_pos h3] at hS
          conv => whnf
          have hnx2 := hnx.some hx hS
          have hcn2 := hcn.inc ⟨false, k, (long + 1), first⟩
          cases hg : getM next ⟨false, k, (long + 1), first⟩ with
          | none =>
            have g1 := findG_none (kd := LState.d) same_state hg 0
            have g2 : findD (LState.d ⟨false, k, (long + 1), first⟩) (kvG LState.d next ++ [(LState.d ⟨false, k, (long + 1), first⟩, i64 0)]) 0 = some (some ((kvG LState.d next).length, i64 0)) := by
              rw [findG_last same_state hg 0]; simp
            have hB : (decide ((0 : Int) ≤ ((kvG LState.d next).length : Int)) && decide (((kvG LState.d next).length : Int) < ((kvG LState.d next ++ [(LState.d ⟨false, k, (long + 1), first⟩, i64 0)]).length : Int))) = true := by
              simp; omega
            have hfin : setVal (kvG LState.d next ++ [(LState.d ⟨false, k, (long + 1), first⟩, i64 0)]) (kvG LState.d next).length (i64 (0 + 1)) = kvG LState.d (incM next ⟨false, k, (long + 1), first⟩) := by
              rw [setVal_end]
              have := putG_none (kd := LState.d) 1 hg
              rw [show i64 (0 + 1) = D.int .i64 1 from rfl, this, incM, hg]; rfl
            refine RegionA_inv mixed tysOk [[], [], [0, 1], [2], [0, 1], [4], [0, 1, 2, 3, 4, 5]] (fun ls => (selE ls [some (95, .mp 43), some (96, .d (LState.d ⟨false, k, (long + 1), first⟩)), some (97, .d (i64 0)), some (98, .d (i64 (0 + 1))), some (99, .d (.tup [i64 0, i64 (kvG LState.d next).length])), some (100, .d (i64 (kvG LState.d next).length)), none] ++ [(0, .d (boolsD (b0 :: r0))), (1, .d (phasesD l)), (5, .mp 900001), (7, .d (i64 s)), (8, .mp 43), (45, .it 45), (10, .ptr 10 0)], [(900001, .map (kvG LState.d m)), (43, .map (sel3 ls 4 6 (kvG LState.d next) (kvG LState.d next ++ [(LState.d ⟨false, k, (long + 1), first⟩, i64 0)]) (setVal (kvG LState.d next ++ [(LState.d ⟨false, k, (long + 1), first⟩, i64 0)]) (kvG LState.d next).length (i64 (0 + 1))))), (45, .mit (.mp 900001) m.length (todo.filter fun j => !Nat.beq j i) (some i)), (10, .box (.dd (LState.cells ⟨false, k, (long + 1), first⟩)))])) (by decide +kernel) ?_ ?_ ?_
            · exact Wk.sub ⟨rfl, rfl, rfl, rfl, rfl, rfl, rfl, trivial⟩ ⟨rfl, rfl, rfl, rfl, trivial⟩
            · conv => whnf
              repeat' (first
                | trivial
                | (refine And.intro ?_ ?_ <;> conv => whnf)
                | (refine findK.mk _ (g1) ?_; conv => whnf)
                | (refine findK.mk _ (g2) ?_; conv => whnf)
                | (refine arith_in (wrap_i64 (by omega)) ?_; conv => whnf)
                | (refine chk_i hB ?_; conv => whnf)
                | (refine Wk.sub ?_ ?_ <;> (repeat' (first | exact trivial | refine ⟨rfl, ?_⟩))))
            · conv => whnf
              refine ⟨(todo.filter fun j => !Nat.beq j i, (incM next ⟨false, k, (long + 1), first⟩, (c + 1, some i))), hlt, ⟨hcn2, by simp only; omega, hnx2⟩, Wk.sub ⟨rfl, rfl, rfl, rfl, rfl, rfl, trivial⟩ ⟨rfl, ?_, rfl, trivial⟩⟩
              exact congrArg (fun z => some (Obj.map z)) hfin
          | some v2 =>
            obtain ⟨j2, q0, q1, q2, q3, q4⟩ := findG_some (kd := LState.d) same_state hg 0
            have hvb := hcn.bd _ _ hg
            have g1 : findD (LState.d ⟨false, k, (long + 1), first⟩) (kvG LState.d next) 0 = some (some (j2, i64 v2)) := by rw [q1]; simp [i64]
            have g2 : findD (LState.d ⟨false, k, (long + 1), first⟩) (setKey (kvG LState.d next) j2 (LState.d ⟨false, k, (long + 1), first⟩)) 0 = some (some (j2, i64 v2)) := by rw [q3]; exact g1
            have hB : (decide ((0 : Int) ≤ (j2 : Int)) && decide ((j2 : Int) < ((setKey (kvG LState.d next) j2 (LState.d ⟨false, k, (long + 1), first⟩)).length : Int))) = true := by
              rw [q3, kvG_length]; simp; omega
            have hfin : setVal (setKey (kvG LState.d next) j2 (LState.d ⟨false, k, (long + 1), first⟩)) j2 (i64 (v2 + 1)) = kvG LState.d (incM next ⟨false, k, (long + 1), first⟩) := by
              rw [q3, show i64 (v2 + 1) = D.int .i64 (v2 + 1) from rfl, q4, incM, hg]; rfl
            refine RegionA_inv mixed tysOk [[], [], [0, 1], [2], [0, 1], [4], [0, 1, 2, 3, 4, 5]] (fun ls => (selE ls [some (95, .mp 43), some (96, .d (LState.d ⟨false, k, (long + 1), first⟩)), some (97, .d (i64 v2)), some (98, .d (i64 (v2 + 1))), some (99, .d (.tup [i64 v2, i64 j2])), some (100, .d (i64 j2)), none] ++ [(0, .d (boolsD (b0 :: r0))), (1, .d (phasesD l)), (5, .mp 900001), (7, .d (i64 s)), (8, .mp 43), (45, .it 45), (10, .ptr 10 0)], [(900001, .map (kvG LState.d m)), (43, .map (sel3 ls 4 6 (kvG LState.d next) (setKey (kvG LState.d next) j2 (LState.d ⟨false, k, (long + 1), first⟩)) (setVal (setKey (kvG LState.d next) j2 (LState.d ⟨false, k, (long + 1), first⟩)) j2 (i64 (v2 + 1))))), (45, .mit (.mp 900001) m.length (todo.filter fun j => !Nat.beq j i) (some i)), (10, .box (.dd (LState.cells ⟨false, k, (long + 1), first⟩)))])) (by decide +kernel) ?_ ?_ ?_
            · exact Wk.sub ⟨rfl, rfl, rfl, rfl, rfl, rfl, rfl, trivial⟩ ⟨rfl, rfl, rfl, rfl, trivial⟩
            · conv => whnf
              repeat' (first
                | trivial
                | (refine And.intro ?_ ?_ <;> conv => whnf)
                | (refine findK.mk _ (g1) ?_; conv => whnf)
                | (refine findK.mk _ (g2) ?_; conv => whnf)
                | (refine arith_in (wrap_i64 (by omega)) ?_; conv => whnf)
                | (refine chk_i hB ?_; conv => whnf)
                | (refine Wk.sub ?_ ?_ <;> (repeat' (first | exact trivial | refine ⟨rfl, ?_⟩))))
            · conv => whnf
              refine ⟨(todo.filter fun j => !Nat.beq j i, (incM next ⟨false, k, (long + 1), first⟩, (c + 1, some i))), hlt, ⟨hcn2, by simp only; omega, hnx2⟩, Wk.sub ⟨rfl, rfl, rfl, rfl, rfl, rfl, trivial⟩ ⟨rfl, ?_, rfl, trivial⟩⟩
              exact congrArg (fun z => some (Obj.map z)) hfin
        · have h3 : ¬ (long + 1) ≤ p.dark.hi := by simpa using h3
          rw [if_neg h3] at hS
          conv => whnf
          exact ⟨(todo.filter fun j => !Nat.beq j i, (next, (c, some i))), hlt, ⟨hcn, by simp only; omega, hnx.none hx hS⟩, (Wk.sub ⟨(by first | rfl | (simp only [List.length_map]; rfl) | simp [PX.get]), (by first | rfl | (simp only [List.length_map]; rfl) | simp [PX.get]), (by first | rfl | (simp only [List.length_map]; rfl) | simp [PX.get]), (by first | rfl | (simp only [List.length_map]; rfl) | simp [PX.get]), (by first | rfl | (simp only [List.length_map]; rfl) | simp [PX.get]), (by first | rfl | (simp only [List.length_map]; rfl) | simp [PX.get]), trivial⟩ ⟨(by first | rfl | (simp only [List.length_map]; rfl) | simp [PX.get]), (by first | rfl | (simp only [List.length_map]; rfl) | simp [PX.get]), (by first | rfl | (simp only [List.length_map]; rfl) | simp [PX.get]), trivial⟩)⟩
      | true =>
        rw [show (!(cb == pb)) = true from hch]
        rw [hch] at hnx
        cases first with
        | true =>
          have hS : stepS l true ⟨false, k, long, true⟩ = if 1 ≤ p2.flash.hi then some ⟨true, k2, 1, false⟩ else none := by simp [stepS, hsd, behindS, hk2e]
          conv => whnf
          refine CallA_v (FnV.cast (la118 false k (List.map LPhase.cells l).length (by omega) (by simp; omega)) (r' := .ifc 165 (i64 k2)) (by rw [← hk2]; rfl)) rfl rfl ?_
          conv => whnf
          refine InvA_b 139 (by decide +kernel) ?_
          refine DrawCall_v (la139 l k2 p2 hk20 hp2) rfl rfl ?_
          conv => whnf
          refine brk_i (fun h3 => ?_) (fun h3 => ?_)
          · have h3 : 1 ≤ p2.flash.hi := by simpa using h3
            rw [if_pos h3] at hS
            conv => whnf
            have hnx2 := hnx.some hx hS
            have hcn2 := hcn.inc ⟨true, k2, 1, false⟩
            cases hg : getM next ⟨true, k2, 1, false⟩ with
            | none =>
              have g1 := findG_none (kd := LState.d) same_state hg 0
              have g2 : findD (LState.d ⟨true, k2, 1, false⟩) (kvG LState.d next ++ [(LState.d ⟨true, k2, 1, false⟩, i64 0)]) 0 = some (some ((kvG LState.d next).length, i64 0)) := by
                rw [findG_last same_state hg 0]; simp
              have hB : (decide ((0 : Int) ≤ ((kvG LState.d next).length : Int)) && decide (((kvG LState.d next).length : Int) < ((kvG LState.d next ++ [(LState.d ⟨true, k2, 1, false⟩, i64 0)]).length : Int))) = true := by
                simp; omega
              have hfin : setVal (kvG LState.d next ++ [(LState.d ⟨true, k2, 1, false⟩, i64 0)]) (kvG LState.d next).length (i64 (0 + 1)) = kvG LState.d (incM next ⟨true, k2, 1, false⟩) := by
                rw [setVal_end]
                have := putG_none (kd := LState.d) 1 hg
                rw [show i64 (0 + 1) = D.int .i64 1 from rfl, this, incM, hg]; rfl
              refine RegionA_inv mixed tysOk [[], [], [0, 1], [2], [0, 1], [4], [0, 1, 2, 3, 4, 5]] (fun ls => (selE ls [some (95, .mp 43), some (96, .d (LState.d ⟨true, k2, 1, false⟩)), some (97, .d (i64 0)), some (98, .d (i64 (0 + 1))), some (99, .d (.tup [i64 0, i64 (kvG LState.d next).length])), some (100, .d (i64 (kvG LState.d next).length)), none] ++ [(0, .d (boolsD (b0 :: r0))), (1, .d (phasesD l)), (5, .mp 900001), (7, .d (i64 s)), (8, .mp 43), (45, .it 45), (10, .ptr 10 0)], [(900001, .map (kvG LState.d m)), (43, .map (sel3 ls 4 6 (kvG LState.d next) (kvG LState.d next ++ [(LState.d ⟨true, k2, 1, false⟩, i64 0)]) (setVal (kvG LState.d next ++ [(LState.d ⟨true, k2, 1, false⟩, i64 0)]) (kvG LState.d next).length (i64 (0 + 1))))), (45, .mit (.mp 900001) m.length (todo.filter fun j => !Nat.beq j i) (some i)), (10, .box (.dd (LState.cells ⟨true, k2, 1, false⟩)))])) (by decide +kernel) ?_ ?_ ?_
              · exact Wk.sub ⟨rfl, rfl, rfl, rfl, rfl, rfl, rfl, trivial⟩ ⟨rfl, rfl, rfl, rfl, trivial⟩
              · conv => whnf
                repeat' (first
                  | trivial
                  | (refine And.intro ?_ ?_ <;> conv => whnf)
                  | (refine findK.mk _ (g1) ?_; conv => whnf)
                  | (refine findK.mk _ (g2) ?_; conv => whnf)
                  | (refine arith_in (wrap_i64 (by omega)) ?_; conv => whnf)
                  | (refine chk_i hB ?_; conv => whnf)
                  | (refine Wk.sub ?_ ?_ <;> (repeat' (first | exact trivial | refine ⟨rfl, ?_⟩))))
              · conv => whnf
                refine ⟨(todo.filter fun j => !Nat.beq j i, (incM next ⟨true, k2, 1, false⟩, (c + 1, some i))), hlt, ⟨hcn2, by simp only; omega, hnx2⟩, Wk.sub ⟨rfl, rfl, rfl, rfl, rfl, rfl, trivial⟩ ⟨rfl, ?_, rfl, trivial⟩⟩
                exact congrArg (fun z => some (Obj.map z)) hfin
            | some v2 =>
              obtain ⟨j2, q0, q1, q2, q3, q4⟩ := findG_some (kd := LState.d) same_state hg 0
              have hvb := hcn.bd _ _ hg
              have g1 : findD (LState.d ⟨true, k2, 1, false⟩) (kvG LState.d next) 0 = some (some (j2, i64 v2)) := by rw [q1]; simp [i64]
              have g2 : findD (LState.d ⟨true, k2, 1, false⟩) (setKey (kvG LState.d next) j2 (LState.d ⟨true, k2, 1, false⟩)) 0 = some (some (j2, i64 v2)) := by rw [q3]; exact g1
              have hB : (decide ((0 : Int) ≤ (j2 : Int)) && decide ((j2 : Int) < ((setKey (kvG LState.d next) j2 (LState.d ⟨true, k2, 1, false⟩)).length : Int))) = true := by
                rw [q3, kvG_length]; simp; omega
              have hfin : setVal (setKey (kvG LState.d next) j2 (LState.d ⟨true, k2, 1, false⟩)) j2 (i64 (v2 + 1)) = kvG LState.d (incM next ⟨true, k2, 1, false⟩) := by
                rw [q3, show i64 (v2 + 1) = D.int .i64 (v2 + 1) from rfl, q4, incM, hg]; rfl
              refine RegionA_inv mixed tysOk [[], [], [0, 1], [2], [0, 1], [4], [0, 1, 2, 3, 4, 5]] (fun ls => (selE ls [some (95, .mp 43), some (96, .d (LState.d ⟨true, k2, 1, false⟩)), some (97, .d (i64 v2)), some (98, .d (i64 (v2 + 1))), some (99, .d (.tup [i64 v2, i64 j2])), some (100, .d (i64 j2)), none] ++ [(0, .d (boolsD (b0 :: r0))), (1, .d (phasesD l)), (5, .mp 900001), (7, .d (i64 s)), (8, .mp 43), (45, .it 45), (10, .ptr 10 0)], [(900001, .map (kvG LState.d m)), (43, .map (sel3 ls 4 6 (kvG LState.d next) (setKey (kvG LState.d next) j2 (LState.d ⟨true, k2, 1, false⟩)) (setVal (setKey (kvG LState.d next) j2 (LState.d ⟨true, k2, 1, false⟩)) j2 (i64 (v2 + 1))))), (45, .mit (.mp 900001) m.length (todo.filter fun j => !Nat.beq j i) (some i)), (10, .box (.dd (LState.cells ⟨true, k2, 1, false⟩)))])) (by decide +kernel) ?_ ?_ ?_
              · exact Wk.sub ⟨rfl, rfl, rfl, rfl, rfl, rfl, rfl, trivial⟩ ⟨rfl, rfl, rfl, rfl, trivial⟩
              · conv => whnf
                repeat' (first
                  | trivial
                  | (refine And.intro ?_ ?_ <;> conv => whnf)
                  | (refine findK.mk _ (g1) ?_; conv => whnf)
                  | (refine findK.mk _ (g2) ?_; conv => whnf)
                  | (refine arith_in (wrap_i64 (by omega)) ?_; conv => whnf)
                  | (refine chk_i hB ?_; conv => whnf)
                  | (refine Wk.sub ?_ ?_ <;> (repeat' (first | exact trivial | refine ⟨rfl, ?_⟩))))
              · conv => whnf
                refine ⟨(todo.filter fun j => !Nat.beq j i, (incM next ⟨true, k2, 1, false⟩, (c + 1, some i))), hlt, ⟨hcn2, by simp only; omega, hnx2⟩, Wk.sub ⟨rfl, rfl, rfl, rfl, rfl, rfl, trivial⟩ ⟨rfl, ?_, rfl, trivial⟩⟩
                exact congrArg (fun z => some (Obj.map z)) hfin
          · have h3 : ¬ 1 ≤ p2.flash.hi := by simpa using h3
            rw [if_neg h3] at hS
            conv => whnf
            exact ⟨(todo.filter fun j => !Nat.beq j i, (next, (c, some i))), hlt, ⟨hcn, by simp only; omega, hnx.none hx hS⟩, (Wk.sub ⟨(by first | rfl | (simp only [List.length_map]; rfl) | simp [PX.get]), (by first | rfl | (simp only [List.length_map]; rfl) | simp [PX.get]), (by first | rfl | (simp only [List.length_map]; rfl) | simp [PX.get]), (by first | rfl | (simp only [List.length_map]; rfl) | simp [PX.get]), (by first | rfl | (simp only [List.length_map]; rfl) | simp [PX.get]), (by first | rfl | (simp only [List.length_map]; rfl) | simp [PX.get]), trivial⟩ ⟨(by first | rfl | (simp only [List.length_map]; rfl) | simp [PX.get]), (by first | rfl | (simp only [List.length_map]; rfl) | simp [PX.get]), (by first | rfl | (simp only [List.length_map]; rfl) | simp [PX.get]), trivial⟩)⟩
        | false =>
          conv => whnf
          refine InvA_b 140 (by decide +kernel) ?_
          refine DrawCall_v (la140 l k p hk0 hp1) rfl rfl ?_
          conv => whnf
          refine brk_i (fun h2 => ?_) (fun h2 => ?_)
          · have h2 : long < p.dark.lo := by simpa using h2
            have hS : stepS l true ⟨false, k, long, false⟩ = none := by simp [stepS, hsp, h2]
            conv => whnf
            exact ⟨(todo.filter fun j => !Nat.beq j i, (next, (c, some i))), hlt, ⟨hcn, by simp only; omega, hnx.none hx hS⟩, (Wk.sub ⟨(by first | rfl | (simp only [List.length_map]; rfl) | simp [PX.get]), (by first | rfl | (simp only [List.length_map]; rfl) | simp [PX.get]), (by first | rfl | (simp only [List.length_map]; rfl) | simp [PX.get]), (by first | rfl | (simp only [List.length_map]; rfl) | simp [PX.get]), (by first | rfl | (simp only [List.length_map]; rfl) | simp [PX.get]), (by first | rfl | (simp only [List.length_map]; rfl) | simp [PX.get]), trivial⟩ ⟨(by first | rfl | (simp only [List.length_map]; rfl) | simp [PX.get]), (by first | rfl | (simp only [List.length_map]; rfl) | simp [PX.get]), (by first | rfl | (simp only [List.length_map]; rfl) | simp [PX.get]), trivial⟩)⟩
          · have h2 : ¬ long < p.dark.lo := by simpa using h2
            have hS : stepS l true ⟨false, k, long, false⟩ = if 1 ≤ p2.flash.hi then some ⟨true, k2, 1, false⟩ else none := by simp [stepS, hsp, hsd, behindS, h2, hk2e]
            conv => whnf
            refine CallA_v (FnV.cast (la118 false k (List.map LPhase.cells l).length (by omega) (by simp; omega)) (r' := .ifc 165 (i64 k2)) (by rw [← hk2]; rfl)) rfl rfl ?_
            conv => whnf
            refine InvA_b 139 (by decide +kernel) ?_
            refine DrawCall_v (la139 l k2 p2 hk20 hp2) rfl rfl ?_
            conv => whnf
            refine brk_i (fun h3 => ?_) (fun h3 => ?_)
            · have h3 : 1 ≤ p2.flash.hi := by simpa using h3
              rw [if_pos h3] at hS
              conv => whnf
              have hnx2 := hnx.some hx hS
              have hcn2 := hcn.inc ⟨true, k2, 1, false⟩
              cases hg : getM next ⟨true, k2, 1, false⟩ with
              | none =>
                have g1 := findG_none (kd := LState.d) same_state hg 0
                have g2 : findD (LState.d ⟨true, k2, 1, false⟩) (kvG LState.d next ++ [(LState.d ⟨true, k2, 1, false⟩, i64 0)]) 0 = some (some ((kvG LState.d next).length, i64 0)) := by
                  rw [findG_last same_state hg 0]; simp
                have hB : (decide ((0 : Int) ≤ ((kvG LState.d next).length : Int)) && decide (((kvG LState.d next).length : Int) < ((kvG LState.d next ++ [(LState.d ⟨true, k2, 1, false⟩, i64 0)]).length : Int))) = true := by
                  simp; omega
                have hfin : setVal (kvG LState.d next ++ [(LState.d ⟨true, k2, 1, false⟩, i64 0)]) (kvG LState.d next).length (i64 (0 + 1)) = kvG LState.d (incM next ⟨true, k2, 1, false⟩) := by
                  rw [setVal_end]
                  have := putG_none (kd := LState.d) 1 hg
                  rw [show i64 (0 + 1) = D.int .i64 1 from rfl, this, incM, hg]; rfl
                refine RegionA_inv mixed tysOk [[], [], [0, 1], [2], [0, 1], [4], [0, 1, 2, 3, 4, 5]] (fun ls => (selE ls [some (95, .mp 43), some (96, .d (LState.d ⟨true, k2, 1, false⟩)), some (97, .d (i64 0)), some (98, .d (i64 (0 + 1))), some (99, .d (.tup [i64 0, i64 (kvG LState.d next).length])), some (100, .d (i64 (kvG LState.d next).length)), none] ++ [(0, .d (boolsD (b0 :: r0))), (1, .d (phasesD l)), (5, .mp 900001), (7, .d (i64 s)), (8, .mp 43), (45, .it 45), (10, .ptr 10 0)], [(900001, .map (kvG LState.d m)), (43, .map (sel3 ls 4 6 (kvG LState.d next) (kvG LState.d next ++ [(LState.d ⟨true, k2, 1, false⟩, i64 0)]) (setVal (kvG LState.d next ++ [(LState.d ⟨true, k2, 1, false⟩, i64 0)]) (kvG LState.d next).length (i64 (0 + 1))))), (45, .mit (.mp 900001) m.length (todo.filter fun j => !Nat.beq j i) (some i)), (10, .box (.dd (LState.cells ⟨true, k2, 1, false⟩)))])) (by decide +kernel) ?_ ?_ ?_
                · exact Wk.sub ⟨rfl, rfl, rfl, rfl, rfl, rfl, rfl, trivial⟩ ⟨rfl, rfl, rfl, rfl, trivial⟩
                · conv => whnf
                  repeat' (first
                    | trivial
                    | (refine And.intro ?_ ?_ <;> conv => whnf)
                    | (refine findK.mk _ (g1) ?_; conv => whnf)
                    | (refine findK.mk _ (g2) ?_; conv => whnf)
                    | (refine arith_in (wrap_i64 (by omega)) ?_; conv => whnf)
                    | (refine chk_i hB ?_; conv => whnf)
                    | (refine Wk.sub ?_ ?_ <;> (repeat' (first | exact trivial | refine ⟨rfl, ?_⟩))))
                · conv => whnf
                  refine ⟨(todo.filter fun j => !Nat.beq j i, (incM next ⟨true, k2, 1, false⟩, (c + 1, some i))), hlt, ⟨hcn2, by simp only; omega, hnx2⟩, Wk.sub ⟨rfl, rfl, rfl, rfl, rfl, rfl, trivial⟩ ⟨rfl, ?_, rfl, trivial⟩⟩
                  exact congrArg (fun z => some (Obj.map z)) hfin
              | some v2 =>
                obtain ⟨j2, q0, q1, q2, q3, q4⟩ := findG_some (kd := LState.d) same_state hg 0
                have hvb := hcn.bd _ _ hg
                have g1 : findD (LState.d ⟨true, k2, 1, false⟩) (kvG LState.d next) 0 = some (some (j2, i64 v2)) := by rw [q1]; simp [i64]
                have g2 : findD (LState.d ⟨true, k2, 1, false⟩) (setKey (kvG LState.d next) j2 (LState.d ⟨true, k2, 1, false⟩)) 0 = some (some (j2, i64 v2)) := by rw [q3]; exact g1
                have hB : (decide ((0 : Int) ≤ (j2 : Int)) && decide ((j2 : Int) < ((setKey (kvG LState.d next) j2 (LState.d ⟨true, k2, 1, false⟩)).length : Int))) = true := by
                  rw [q3, kvG_length]; simp; omega
                have hfin : setVal (setKey (kvG LState.d next) j2 (LState.d ⟨true, k2, 1, false⟩)) j2 (i64 (v2 + 1)) = kvG LState.d (incM next ⟨true, k2, 1, false⟩) := by
                  rw [q3, show i64 (v2 + 1) = D.int .i64 (v2 + 1) from rfl, q4, incM, hg]; rfl
                refine RegionA_inv mixed tysOk [[], [], [0, 1], [2], [0, 1], [4], [0, 1, 2, 3, 4, 5]] (fun ls => (selE ls [some (95, .mp 43), some (96, .d (LState.d ⟨true, k2, 1, false⟩)), some (97, .d (i64 v2)), some (98, .d (i64 (v2 + 1))), some (99, .d (.tup [i64 v2, i64 j2])), some (100, .d (i64 j2)), none] ++ [(0, .d (boolsD (b0 :: r0))), (1, .d (phasesD l)), (5, .mp 900001), (7, .d (i64 s)), (8, .mp 43), (45, .it 45), (10, .ptr 10 0)], [(900001, .map (kvG LState.d m)), (43, .map (sel3 ls 4 6 (kvG LState.d next) (setKey (kvG LState.d next) j2 (LState.d ⟨true, k2, 1, false⟩)) (setVal (setKey (kvG LState.d next) j2 (LState.d ⟨true, k2, 1, false⟩)) j2 (i64 (v2 + 1))))), (45, .mit (.mp 900001) m.length (todo.filter fun j => !Nat.beq j i) (some i)), (10, .box (.dd (LState.cells ⟨true, k2, 1, false⟩)))])) (by decide +kernel) ?_ ?_ ?_
                · exact Wk.sub ⟨rfl, rfl, rfl, rfl, rfl, rfl, rfl, trivial⟩ ⟨rfl, rfl, rfl, rfl, trivial⟩
                · conv => whnf
                  repeat' (first
                    | trivial
                    | (refine And.intro ?_ ?_ <;> conv => whnf)
                    | (refine findK.mk _ (g1) ?_; conv => whnf)
                    | (refine findK.mk _ (g2) ?_; conv => whnf)
                    | (refine arith_in (wrap_i64 (by omega)) ?_; conv => whnf)
                    | (refine chk_i hB ?_; conv => whnf)
                    | (refine Wk.sub ?_ ?_ <;> (repeat' (first | exact trivial | refine ⟨rfl, ?_⟩))))
                · conv => whnf
                  refine ⟨(todo.filter fun j => !Nat.beq j i, (incM next ⟨true, k2, 1, false⟩, (c + 1, some i))), hlt, ⟨hcn2, by simp only; omega, hnx2⟩, Wk.sub ⟨rfl, rfl, rfl, rfl, rfl, rfl, trivial⟩ ⟨rfl, ?_, rfl, trivial⟩⟩
                  exact congrArg (fun z => some (Obj.map z)) hfin
            · have h3 : ¬ 1 ≤ p2.flash.hi := by simpa using h3
              rw [if_neg h3] at hS
              conv => whnf
              exact ⟨(todo.filter fun j => !Nat.beq j i, (next, (c, some i))), hlt, ⟨hcn, by simp only; omega, hnx.none hx hS⟩, (Wk.sub ⟨(by first | rfl | (simp only [List.length_map]; rfl) | simp [PX.get]), (by first | rfl | (simp only [List.length_map]; rfl) | simp [PX.get]), (by first | rfl | (simp only [List.length_map]; rfl) | simp [PX.get]), (by first | rfl | (simp only [List.length_map]; rfl) | simp [PX.get]), (by first | rfl | (simp only [List.length_map]; rfl) | simp [PX.get]), (by first | rfl | (simp only [List.length_map]; rfl) | simp [PX.get]), trivial⟩ ⟨(by first | rfl | (simp only [List.length_map]; rfl) | simp [PX.get]), (by first | rfl | (simp only [List.length_map]; rfl) | simp [PX.get]), (by first | rfl | (simp only [List.length_map]; rfl) | simp [PX.get]), trivial⟩)⟩
end Go.PX

namespace Go.PX
open Go.Proofs

/- Lamp: enter and Fails (the program). -/

def entrE (c : LCase) (l : List LLight) : Int := if (checkL c).2.2 = 0 then (lightsF l).2 else (checkL c).2.2

theorem la89 (c : LCase) (l : List LLight) : FnV Try.prog 89 [c.d, lightsD l] (i64 (entrE c l)) := by
  refine fnV_of mixed tysOk Try.func89 rfl (ft := ft89) 2 (by decide +kernel) (by rfl) fun {σ} Y st => ?_
  conv => whnf
  refine CallA_v (la15 c) rfl rfl ?_
  conv => whnf
  unfold entrE
  refine brk_i (fun h0 => ?_) (fun h0 => ?_)
  · have h0 : (checkL c).2.2 = 0 := by simpa using h0
    rw [if_pos h0]
    conv => whnf
    refine CallA_v (la17 l) rfl rfl ?_
    conv => whnf
    exact RetA_view 0 rfl ⟨⟨rfl, rfl⟩, rfl⟩
  · have h0 : ¬ (checkL c).2.2 = 0 := by simpa using h0
    rw [if_neg h0]
    conv => whnf
    exact RetA_view 0 rfl ⟨⟨rfl, rfl⟩, rfl⟩

theorem firstE_ok {α : Type} {f : List α → α → Int} : ∀ {l b : List α} {i : Int}, (firstE f b l i).2 = 0 → ∀ x ∈ l, ∃ b', f b' x = 0
  | [], _, _, _, x, hx => by cases hx
  | y :: r, b, i, h, x, hx => by
    rw [firstE] at h
    split at h
    · rename_i h1
      rcases List.mem_cons.1 hx with rfl | hx
      · exact ⟨b, h1⟩
      · exact firstE_ok h x hx
    · rename_i h1
      exact absurd h h1

/-- What is known of a good light. -/
structure LightR (x : LLight) : Prop where
  len : 1 ≤ x.phases.length ∧ x.phases.length ≤ 3
  phase : ∀ p ∈ x.phases, phaseIn p = true ∧ phaseUp p = false

theorem phasesF_ok {l : List LPhase} (h : phasesF l = 0) : (1 ≤ l.length ∧ l.length ≤ 3) ∧ ∀ p ∈ l, phaseIn p = true ∧ phaseUp p = false := by
  unfold phasesF at h
  split at h
  case isFalse => cases h
  rename_i h1
  rw [inB_iff] at h1
  split at h
  · cases h
  rename_i h2
  split at h
  · cases h
  rename_i h3
  refine ⟨by omega, fun p hp => ⟨?_, ?_⟩⟩
  · cases hq : phaseIn p with
    | true => rfl
    | false => exact absurd (List.any_eq_true.2 ⟨p, hp, by rw [hq]; rfl⟩) h2
  · cases hq : phaseUp p with
    | false => rfl
    | true => exact absurd (List.any_eq_true.2 ⟨p, hp, hq⟩) h3

theorem lightsF_ok {l : List LLight} (h : (lightsF l).2 = 0) : (1 ≤ l.length ∧ l.length ≤ 6) ∧ ∀ x ∈ l, LightR x := by
  unfold lightsF at h
  split at h
  case isFalse => cases h
  rename_i h1
  rw [inB_iff] at h1
  refine ⟨by omega, fun x hx => ?_⟩
  obtain ⟨b, hb⟩ := firstE_ok h x hx
  unfold lightF at hb
  split at hb
  case isFalse => cases hb
  split at hb
  · cases hb
  exact ⟨(phasesF_ok hb).1, (phasesF_ok hb).2⟩

theorem entr_ok {c : LCase} {l : List LLight} (h : entrE c l = 0) : (checkL c).2.2 = 0 ∧ ∀ x ∈ l, LightR x := by
  unfold entrE at h
  split at h
  · rename_i h1
    exact ⟨h1, (lightsF_ok h).2⟩
  · rename_i h1
    exact absurd h h1

theorem courseL_len {x : LLamp} {w : List Int} {t : LTruth} (h : LampR x) : courseL x w t ≠ [] ∧ (courseL x w t).length ≤ 200 ∧ (courseL x w t).length = x.night.toNat := by
  have hl : (courseL x w t).length = x.night.toNat := by unfold courseL; exact courseF_len
  have := h.night
  refine ⟨fun h0 => ?_, by omega, hl⟩
  rw [h0] at hl
  simp at hl
  omega

def failE (c : LCase) (l : LLight) (t : LTruth) : Int := if entrE c [l] = 0 then truthE c t else entrE c [l]
def failV (c : LCase) (l : LLight) (t : LTruth) : Int := if failE c l t = 0 then failsL (courseL c.lamp c.windings t) l.phases else 0

set_option maxHeartbeats 1000000 in
theorem la30 (c : LCase) (l : LLight) (t : LTruth) : FnV Try.prog 30 [c.d, l.d, t.d] (.tup [i64 (failV c l t), i64 (failE c l t)]) := by
  refine fnV_of mixed tysOk Try.func30 rfl (ft := ft30) 3 (by decide +kernel) (by rfl) fun {σ} Y st => ?_
  conv => whnf
  refine CallA_view (la89 c [l]) rfl 1 rfl ?_
  conv => whnf
  by_cases h0 : entrE c [l] = 0
  case neg =>
    have he : failE c l t = entrE c [l] := by unfold failE; rw [if_neg h0]
    have hv : failV c l t = 0 := by unfold failV; rw [he, if_neg h0]
    rw [he, hv]
    refine brk_i (fun h1 => absurd h1 (by simp [h0])) (fun _ => ?_)
    conv => whnf
    refine brk_i (fun _ => ?_) (fun h1 => absurd h1 (by simp [h0]))
    conv => whnf
    exact RetA_view 0 rfl ⟨⟨rfl, rfl⟩, rfl⟩
  obtain ⟨h00, hl⟩ := entr_ok h0
  have hR := checkL_ok h00
  have he : failE c l t = truthE c t := by unfold failE; rw [if_pos h0]
  refine brk_i (fun _ => ?_) (fun h1 => absurd h1 (by simp [h0]))
  conv => whnf
  refine CallA_v (la72 c t (by have := hR.winds; omega)) rfl rfl ?_
  conv => whnf
  rw [he]
  by_cases h1 : truthE c t = 0
  case neg =>
    have hv : failV c l t = 0 := by unfold failV; rw [he, if_neg h1]
    rw [hv]
    refine brk_i (fun _ => ?_) (fun h2 => absurd h2 (by simp [h1]))
    conv => whnf
    exact RetA_view 0 rfl ⟨⟨rfl, rfl⟩, rfl⟩
  have hv : failV c l t = failsL (courseL c.lamp c.windings t) l.phases := by unfold failV; rw [he, if_pos h1]
  rw [hv]
  have hT := truth_ok h1
  refine brk_i (fun h2 => absurd h2 (by simp [h1])) (fun _ => ?_)
  conv => whnf
  refine DrawCall_v (la73 c t hR.lamp hR.winds hT) rfl rfl ?_
  conv => whnf
  obtain ⟨k1, k2, _⟩ := courseL_len (w := c.windings) (t := t) hR.lamp
  refine DrawCall_v (la90 (courseL c.lamp c.windings t) l.phases k1 k2 (hl l (by simp)).len) rfl rfl ?_
  conv => whnf
  rw [h1]
  exact RetA_view 0 rfl ⟨⟨rfl, rfl⟩, rfl⟩
end Go.PX

namespace Go.PX
open Go.Proofs

/- Lamp: the reference: Truth, asked, bright, Course. -/

theorem la56 (c : LCase) (t : LTruth) (hw : c.windings.length ≤ 1000) : FnV Try.prog 56 [c.d, t.d] (i64 (truthE c t)) := by
  refine fnV_of mixed tysOk Try.func56 rfl (ft := ft56) 2 (by decide +kernel) (by rfl) fun {σ} Y st => ?_
  conv => whnf
  refine arith_in (wrap_i64 (by simp only [List.length_map]; omega)) ?_
  conv => whnf
  unfold truthE
  refine brk_i (fun h1 => ?_) (fun h1 => ?_)
  · have h1 : ¬ t.speeds.length = c.windings.length + 1 := by
      simp at h1; omega
    conv => whnf
    rw [if_neg h1]
    exact RetA_view 0 rfl ⟨⟨rfl, rfl⟩, rfl⟩
  have h1 : t.speeds.length = c.windings.length + 1 := by simp at h1; omega
  rw [if_pos h1]
  conv => whnf
  refine CallA_v (fn55 t.start c.lamp.start.lo c.lamp.start.hi) rfl rfl ?_
  conv => whnf
  by_cases h2 : inB t.start c.lamp.start.lo c.lamp.start.hi = true
  case neg =>
    have h2 : inB t.start c.lamp.start.lo c.lamp.start.hi = false := by simpa using h2
    rw [h2]
    conv => whnf
    exact RetA_view 0 rfl ⟨⟨rfl, rfl⟩, rfl⟩
  rw [h2, Bool.true_and]
  conv => whnf
  refine LoopA_i (T := tys) tysOk (by exact drawsB_spec mixed tysOk (by decide +kernel)) t.speeds (fun i (_ : Unit) => ⟨[(2, .ptr 2 0), (3, .ptr 3 0), (5, .d (i64 i))], [(2, .box (.dd c.cells)), (3, .box (.dd t.cells))], st⟩)
    (fun i r _ => (t.speeds.all fun s => inB s c.lamp.speed.lo c.lamp.speed.hi) = r.all fun s => inB s c.lamp.speed.lo c.lamp.speed.hi) () (Wk.sub ⟨(by first | rfl | (simp only [List.length_map]; rfl) | simp [PX.get]), (by first | rfl | (simp only [List.length_map]; rfl) | simp [PX.get]), (by first | rfl | (simp only [List.length_map]; rfl) | simp [PX.get]), trivial⟩ ⟨(by first | rfl | (simp only [List.length_map]; rfl) | simp [PX.get]), (by first | rfl | (simp only [List.length_map]; rfl) | simp [PX.get]), trivial⟩) rfl ?_ ?_
  · intro i s r _ hx hi hr he
    rw [List.all_cons] at he
    conv => whnf
    refine brk_i (fun _ => ?_) (fun h => absurd hi (by simpa using h))
    conv => whnf
    refine elemK_nat hx ?_
    conv => whnf
    refine DrawCall_v (fn55 s c.lamp.speed.lo c.lamp.speed.hi) rfl rfl ?_
    conv => whnf
    cases h3 : inB s c.lamp.speed.lo c.lamp.speed.hi with
    | true =>
      rw [h3, Bool.true_and] at he
      conv => whnf
      refine arith_in (wrap_i64 (by (try dsimp only); omega)) ?_
      conv => whnf
      exact ⟨(), he, (Wk.sub ⟨(by first | rfl | (simp only [List.length_map]; rfl) | simp [PX.get]), (by first | rfl | (simp only [List.length_map]; rfl) | simp [PX.get]), (by first | rfl | (simp only [List.length_map]; rfl) | simp [PX.get]), trivial⟩ ⟨(by first | rfl | (simp only [List.length_map]; rfl) | simp [PX.get]), (by first | rfl | (simp only [List.length_map]; rfl) | simp [PX.get]), trivial⟩)⟩
    | false =>
      rw [h3, Bool.false_and] at he
      conv => whnf
      rw [he]
      exact RetA_view 0 rfl ⟨⟨rfl, rfl⟩, rfl⟩
  · intro _ he
    rw [List.all_nil] at he
    rw [he]
    conv => whnf
    refine brk_i (fun h => absurd h (by simp)) (fun _ => ?_)
    conv => whnf
    exact RetA_view 0 rfl ⟨⟨rfl, rfl⟩, rfl⟩

def askE (c : LCase) (t : LTruth) (e : Int) : Int := if e = 0 then truthE c t else e

theorem la74 (c : LCase) (t : LTruth) (e : Int) (hw : e = 0 → c.windings.length ≤ 1000) : FnV Try.prog 74 [c.d, t.d, i64 e] (i64 (askE c t e)) := by
  refine fnV_of mixed tysOk Try.func74 rfl (ft := ft74) 3 (by decide +kernel) (by rfl) fun {σ} Y st => ?_
  conv => whnf
  unfold askE
  refine brk_i (fun h0 => ?_) (fun h0 => ?_)
  · have h0 : e = 0 := by simpa using h0
    rw [if_pos h0]
    conv => whnf
    refine CallA_v (la56 c t (hw h0)) rfl rfl ?_
    conv => whnf
    exact RetA_view 0 rfl ⟨⟨rfl, rfl⟩, rfl⟩
  · have h0 : ¬ e = 0 := by simpa using h0
    rw [if_neg h0]
    conv => whnf
    exact RetA_view 0 rfl ⟨⟨rfl, rfl⟩, rfl⟩

theorem la98 (x : LLamp) (a : Int) (hl : x.lit.length ≤ 1000) : FnV Try.prog 98 [x.d, i64 a] (.bool (openB x a)) := by
  refine fnV_of mixed tysOk Try.func98 rfl (ft := ft98) 2 (by decide +kernel) (by rfl) fun {σ} Y st => ?_
  conv => whnf
  unfold openB
  refine LoopA_i (T := tys) tysOk (by exact drawsB_spec mixed tysOk (by decide +kernel)) x.lit (fun i (_ : Unit) => ⟨[(1, .d (i64 a)), (2, .ptr 2 0), (5, .d (i64 i))], [(2, .box (.dd x.cells))], st⟩)
    (fun i r _ => (x.lit.any fun s => inB a s.lo s.hi) = r.any fun s => inB a s.lo s.hi) () (Wk.sub ⟨(by first | rfl | (simp only [List.length_map]; rfl) | simp [PX.get]), (by first | rfl | (simp only [List.length_map]; rfl) | simp [PX.get]), (by first | rfl | (simp only [List.length_map]; rfl) | simp [PX.get]), trivial⟩ ⟨(by first | rfl | (simp only [List.length_map]; rfl) | simp [PX.get]), trivial⟩) rfl ?_ ?_
  · intro i s r _ hx hi hr he
    rw [List.any_cons] at he
    conv => whnf
    refine brk_i (fun _ => ?_) (fun h => absurd hi (by simpa using h))
    conv => whnf
    refine elemK_nat hx ?_
    conv => whnf
    refine elemK_nat hx ?_
    conv => whnf
    refine DrawCall_v (fn55 a s.lo s.hi) rfl rfl ?_
    conv => whnf
    cases h3 : inB a s.lo s.hi with
    | false =>
      rw [h3, Bool.false_or] at he
      conv => whnf
      refine arith_in (wrap_i64 (by (try dsimp only); omega)) ?_
      conv => whnf
      exact ⟨(), he, (Wk.sub ⟨(by first | rfl | (simp only [List.length_map]; rfl) | simp [PX.get]), (by first | rfl | (simp only [List.length_map]; rfl) | simp [PX.get]), (by first | rfl | (simp only [List.length_map]; rfl) | simp [PX.get]), trivial⟩ ⟨(by first | rfl | (simp only [List.length_map]; rfl) | simp [PX.get]), trivial⟩)⟩
    | true =>
      rw [h3, Bool.true_or] at he
      conv => whnf
      rw [he]
      exact RetA_view 0 rfl ⟨⟨rfl, rfl⟩, rfl⟩
  · intro _ he
    rw [List.any_nil] at he
    rw [he]
    conv => whnf
    refine brk_i (fun h => absurd h (by simp)) (fun _ => ?_)
    conv => whnf
    exact RetA_view 0 rfl ⟨⟨rfl, rfl⟩, rfl⟩
end Go.PX

namespace Go.PX
open Go.Proofs

/- Lamp: the reference: Course. -/

/-- What is asked of what a course is made of. -/
structure CrsR (x : LLamp) (w : List Int) (t : LTruth) : Prop where
  lamp : LampR x
  winds : w.length ≤ 2
  start : 0 ≤ t.start ∧ t.start < x.drum
  len : t.speeds.length = w.length + 1
  speed : ∀ s ∈ t.speeds, 1 ≤ s ∧ s ≤ 40

theorem CrsR.of {c : LCase} {t : LTruth} (hR : CaseL c) (hT : TruthR c t) : CrsR c.lamp c.windings t := by
  have h1 := hR.lamp.start
  have h2 := hT.start
  refine ⟨hR.lamp, hR.winds, by omega, hT.len, fun s hs => ?_⟩
  have h3 := hT.speed s hs
  have h4 := hR.lamp.speed
  omega

set_option maxHeartbeats 1000000 in
theorem la50 (x : LLamp) (w : List Int) (t : LTruth) (hr : CrsR x w t) : FnV Try.prog 50 [x.d, intsD w, t.d] (boolsD (courseL x w t)) := by
  refine fnV_of mixed tysOk Try.func50 rfl (ft := ft50) 3 (by decide +kernel) (by rfl) fun {σ} Y st => ?_
  conv => whnf
  have hR := hr.lamp
  have hd := hR.drum
  have hn := hR.night
  have hst := hr.start
  have hsl := hR.slow
  have hw := hr.winds
  refine LoopA_p (T := tys) tysOk (by exact drawsB_spec mixed tysOk (by decide +kernel)) (α := Nat × (Int × (Int × (Nat × List Bool))))
    (fun p => ⟨[(1, .d (intsD w)), (3, .ptr 3 0), (5, .ptr 5 0), (7, .sl 40 1 0 p.2.2.2.2.length), (8, .d (i64 p.2.1)), (9, .d (i64 p.2.2.2.1)), (10, .d (i64 p.2.2.1)), (11, .d (i64 p.1))], [(3, .box (.dd x.cells)), (5, .box (.dd t.cells)), (40, .arr 1 (.dd (p.2.2.2.2.map fun b => [D.bool b])))], st⟩)
    (fun p => (p.1 : Int) ≤ x.night ∧ (0 ≤ p.2.1 ∧ p.2.1 < x.drum) ∧ (0 ≤ p.2.2.1 ∧ p.2.2.1 ≤ p.1) ∧ p.2.2.2.1 ≤ w.length ∧ p.2.2.2.2.length = p.1 ∧ courseL x w t = p.2.2.2.2 ++ courseF x w t.speeds (x.night.toNat - p.1) p.1 p.2.1 p.2.2.1 p.2.2.2.1)
    (fun p => x.night.toNat - p.1) (0, (t.start, (0, (0, [])))) ?wk ?pr ?_
  case wk => exact ((Wk.born 7 40 1 rfl rfl rfl).trans (Wk.sub ⟨(by first | rfl | (simp only [List.length_map]; rfl) | simp [PX.get]), (by first | rfl | (simp only [List.length_map]; rfl) | simp [PX.get]), (by first | rfl | (simp only [List.length_map]; rfl) | simp [PX.get]), (by first | rfl | (simp only [List.length_map]; rfl) | simp [PX.get]), (by first | rfl | (simp only [List.length_map]; rfl) | simp [PX.get]), (by first | rfl | (simp only [List.length_map]; rfl) | simp [PX.get]), (by first | rfl | (simp only [List.length_map]; rfl) | simp [PX.get]), (by first | rfl | (simp only [List.length_map]; rfl) | simp [PX.get]), trivial⟩ ⟨(by first | rfl | (simp only [List.length_map]; rfl) | simp [PX.get]), (by first | rfl | (simp only [List.length_map]; rfl) | simp [PX.get]), (by first | rfl | (simp only [List.length_map]; rfl) | simp [PX.get]), trivial⟩))
  case pr =>
    refine ⟨by simp only; omega, by simp only; omega, by simp only; omega, Nat.zero_le _, rfl, ?_⟩
    simp only [courseL, List.nil_append, Nat.sub_zero]; rfl
  rintro ⟨s, a, b, n, acc⟩ ⟨h1, h2, h3, h4, h5, h6⟩
  simp only at h1 h2 h3 h4 h5 h6
  have hslen := hr.len
  have hspn : ∀ m : Nat, m ≤ w.length → 1 ≤ t.speeds.getD m 0 ∧ t.speeds.getD m 0 ≤ 40 := by
    intro m hm
    have hml : m < t.speeds.length := by omega
    have e : t.speeds.getD m 0 = t.speeds[m] := by simp [List.getD_eq_getElem?_getD, hml]
    have := hr.speed _ (List.getElem_mem hml)
    rw [e]; omega
  have hspg : ∀ m : Nat, m ≤ w.length → (t.speeds.map fun n => [i64 n])[m]? = some [i64 (t.speeds.getD m 0)] := by
    intro m hm
    have hml : m < t.speeds.length := by omega
    simp [List.getD_eq_getElem?_getD, hml]
  conv => whnf
  refine brk_i (fun h7 => ?_) (fun h7 => ?_)
  case refine_2 =>
    have h7 : ¬ (s : Int) < x.night := by have := of_decide_eq_false h7; simpa using this
    rw [show x.night.toNat - s = 0 by omega, courseF, List.append_nil] at h6
    conv => whnf
    rw [h6]
    exact RetA_sl rfl (by simp) ⟨⟨rfl, rfl⟩, rfl⟩
  have h7 : (s : Int) < x.night := by have := of_decide_eq_true h7; simpa using this
  obtain ⟨k, hk⟩ : ∃ k, x.night.toNat - s = k + 1 := ⟨x.night.toNat - s - 1, by omega⟩
  have hk2 : x.night.toNat - (s + 1) = k := by omega
  rw [hk, courseF] at h6
  have hs1 : ((s : Int) + 1) = ((s + 1 : Nat) : Int) := by omega
  conv => whnf
  refine brk_i (fun h8 => ?_) (fun h8 => ?_)
  · have h8 : n < w.length := by have := of_decide_eq_true h8; simp at this; omega
    conv => whnf
    refine elemK_i [i64 w[n]] ⟨by omega, by simp [h8]⟩ ?_
    conv => whnf
    refine brk_i (fun h9 => ?_) (fun h9 => ?_)
    · have h9 : w[n] = s := by simpa using h9
      rw [if_pos (by simp [h8, h9])] at h6
      conv => whnf
      refine arith_to (((n + 1 : Nat) : Int)) (by (try dsimp only); omega) (wrap_i64 (by (try dsimp only); omega)) ?_
      conv => whnf
      refine CallA_v (la98 x a (by have := hR.lits; omega)) rfl rfl ?_
      conv => whnf
      refine ownK_whole rfl ?_
      conv => whnf
      refine ownK_whole (by simp [Els.len]) ?_
      conv => whnf
      refine chk_i (decide_eq_true (by
        show ((acc.map fun b => [D.bool b]).length + 1) * 1 ≤ 140737488355328
        rw [List.length_map]; omega)) ?_
      conv => whnf
      refine elemK_i [i64 (t.speeds.getD (n + 1) 0)] ⟨by omega, hspg (n + 1) (by omega)⟩ ?_
      conv => whnf
      refine arith_to (0) (by first | omega | (dsimp only; done) | (dsimp only; omega)) (wrap_i64 (by (try dsimp only); omega)) ?_
      conv => whnf
      refine chk_i (by simp; omega) ?_
      conv => whnf
      have e1 : (0 : Int).tdiv x.slow = (0) / x.slow := Int.tdiv_eq_ediv_of_nonneg (by omega)
      have b1 : 0 ≤ (0 : Int) / x.slow ∧ (0 : Int) / x.slow ≤ 0 := ⟨Int.ediv_nonneg (by omega) (by omega), Int.ediv_le_self _ (by omega)⟩
      have hsp1 := hspn (n + 1) (by omega)
      have e2 : (a + max 0 (t.speeds.getD (n + 1) 0 - (0 : Int) / x.slow)).tmod x.drum = nextF x a (t.speeds.getD (n + 1) 0) (0) := Int.tmod_eq_emod_of_nonneg (by omega)
      refine arith_in (wrap_i64 (by rw [e1]; omega)) ?_
      conv => whnf
      rw [e1]
      refine arith_in (wrap_i64 (by (try dsimp only); omega)) ?_
      conv => whnf
      refine arith_in (wrap_i64 (by (try dsimp only); omega)) ?_
      conv => whnf
      refine chk_i (by simp; omega) ?_
      conv => whnf
      rw [e2]
      refine arith_to ((s + 1 : Nat) : Int) (by omega) (wrap_i64 (by omega)) ?_
      conv => whnf
      refine ⟨(s + 1, (nextF x a (t.speeds.getD (n + 1) 0) (0), ((s : Int), (n + 1, acc ++ [openB x a])))), by simp only; omega, ⟨by simp only; omega, nextF_bd hR _ _ _, by simp only; omega, by simp only; omega, by simp [h5], ?_⟩, Wk.sub ⟨rfl, rfl, rfl, ?_, rfl, rfl, rfl, rfl, trivial⟩ ⟨rfl, rfl, ?_, trivial⟩⟩
      · simp only [hk2]
        rw [h6, List.append_assoc]
        rfl
      · simp [PX.get, Els.len]
      · simp [PX.get, Els.app]
    · have h9 : ¬ w[n] = s := by simpa using h9
      rw [if_neg (by simp [h8, h9])] at h6
      conv => whnf
      refine CallA_v (la98 x a (by have := hR.lits; omega)) rfl rfl ?_
      conv => whnf
      refine ownK_whole rfl ?_
      conv => whnf
      refine ownK_whole (by simp [Els.len]) ?_
      conv => whnf
      refine chk_i (decide_eq_true (by
        show ((acc.map fun b => [D.bool b]).length + 1) * 1 ≤ 140737488355328
        rw [List.length_map]; omega)) ?_
      conv => whnf
      refine elemK_i [i64 (t.speeds.getD (n) 0)] ⟨by omega, hspg (n) (by omega)⟩ ?_
      conv => whnf
      refine arith_to (s - b) (by first | omega | (dsimp only; done) | (dsimp only; omega)) (wrap_i64 (by (try dsimp only); omega)) ?_
      conv => whnf
      refine chk_i (by simp; omega) ?_
      conv => whnf
      have e1 : (s - b : Int).tdiv x.slow = (s - b) / x.slow := Int.tdiv_eq_ediv_of_nonneg (by omega)
      have b1 : 0 ≤ (s - b : Int) / x.slow ∧ (s - b : Int) / x.slow ≤ s - b := ⟨Int.ediv_nonneg (by omega) (by omega), Int.ediv_le_self _ (by omega)⟩
      have hsp1 := hspn (n) (by omega)
      have e2 : (a + max 0 (t.speeds.getD (n) 0 - (s - b : Int) / x.slow)).tmod x.drum = nextF x a (t.speeds.getD (n) 0) (s - b) := Int.tmod_eq_emod_of_nonneg (by omega)
      refine arith_in (wrap_i64 (by rw [e1]; omega)) ?_
      conv => whnf
      rw [e1]
      refine arith_in (wrap_i64 (by (try dsimp only); omega)) ?_
      conv => whnf
      refine arith_in (wrap_i64 (by (try dsimp only); omega)) ?_
      conv => whnf
      refine chk_i (by simp; omega) ?_
      conv => whnf
      rw [e2]
      refine arith_to ((s + 1 : Nat) : Int) (by omega) (wrap_i64 (by omega)) ?_
      conv => whnf
      refine ⟨(s + 1, (nextF x a (t.speeds.getD (n) 0) (s - b), (b, (n, acc ++ [openB x a])))), by simp only; omega, ⟨by simp only; omega, nextF_bd hR _ _ _, by simp only; omega, by simp only; omega, by simp [h5], ?_⟩, Wk.sub ⟨rfl, rfl, rfl, ?_, rfl, rfl, rfl, rfl, trivial⟩ ⟨rfl, rfl, ?_, trivial⟩⟩
      · simp only [hk2]
        rw [h6, List.append_assoc]
        rfl
      · simp [PX.get, Els.len]
      · simp [PX.get, Els.app]
  · have h8 : ¬ n < w.length := by have := of_decide_eq_false h8; simp at this; omega
    rw [if_neg (by rw [List.getElem?_eq_none (by omega)]; simp)] at h6
    conv => whnf
    refine CallA_v (la98 x a (by have := hR.lits; omega)) rfl rfl ?_
    conv => whnf
    refine ownK_whole rfl ?_
    conv => whnf
    refine ownK_whole (by simp [Els.len]) ?_
    conv => whnf
    refine chk_i (decide_eq_true (by
      show ((acc.map fun b => [D.bool b]).length + 1) * 1 ≤ 140737488355328
      rw [List.length_map]; omega)) ?_
    conv => whnf
    refine elemK_i [i64 (t.speeds.getD (n) 0)] ⟨by omega, hspg (n) (by omega)⟩ ?_
    conv => whnf
    refine arith_to (s - b) (by first | omega | (dsimp only; done) | (dsimp only; omega)) (wrap_i64 (by (try dsimp only); omega)) ?_
    conv => whnf
    refine chk_i (by simp; omega) ?_
    conv => whnf
    have e1 : (s - b : Int).tdiv x.slow = (s - b) / x.slow := Int.tdiv_eq_ediv_of_nonneg (by omega)
    have b1 : 0 ≤ (s - b : Int) / x.slow ∧ (s - b : Int) / x.slow ≤ s - b := ⟨Int.ediv_nonneg (by omega) (by omega), Int.ediv_le_self _ (by omega)⟩
    have hsp1 := hspn (n) (by omega)
    have e2 : (a + max 0 (t.speeds.getD (n) 0 - (s - b : Int) / x.slow)).tmod x.drum = nextF x a (t.speeds.getD (n) 0) (s - b) := Int.tmod_eq_emod_of_nonneg (by omega)
    refine arith_in (wrap_i64 (by rw [e1]; omega)) ?_
    conv => whnf
    rw [e1]
    refine arith_in (wrap_i64 (by (try dsimp only); omega)) ?_
    conv => whnf
    refine arith_in (wrap_i64 (by (try dsimp only); omega)) ?_
    conv => whnf
    refine chk_i (by simp; omega) ?_
    conv => whnf
    rw [e2]
    refine arith_to ((s + 1 : Nat) : Int) (by omega) (wrap_i64 (by omega)) ?_
    conv => whnf
    refine ⟨(s + 1, (nextF x a (t.speeds.getD (n) 0) (s - b), (b, (n, acc ++ [openB x a])))), by simp only; omega, ⟨by simp only; omega, nextF_bd hR _ _ _, by simp only; omega, by simp only; omega, by simp [h5], ?_⟩, Wk.sub ⟨rfl, rfl, rfl, ?_, rfl, rfl, rfl, rfl, trivial⟩ ⟨rfl, rfl, ?_, trivial⟩⟩
    · simp only [hk2]
      rw [h6, List.append_assoc]
      rfl
    · simp [PX.get, Els.len]
    · simp [PX.get, Els.app]
end Go.PX
