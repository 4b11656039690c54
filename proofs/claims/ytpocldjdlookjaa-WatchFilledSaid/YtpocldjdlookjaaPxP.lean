import Derived.Test.YtpocldjdlookjaaPxO
import Derived.Test.YtpocldjdlookjaaPxJ
set_option linter.all false
set_option maxRecDepth 10000
namespace Go.PX
open Go.Proofs

/- Watch: cases that are alike: a rota of the one goes on in the other. -/

theorem why_of {c : WCase} {set : Int} {t : Tired} {s : Slot} {p : List Int} (h1 : (p.length : Int) = s.men) (h2 : ∃ m ∈ p, (manAt c m).kind ≥ s.least) (h3 : ∀ m ∈ p, inSet set m = true ∧ t.slot ∉ (manAt c m).no) (h4 : ∀ m ∈ p, t.get m.toNat < c.run) (h5 : ∀ m ∈ p, 0 ≤ t.get m.toNat) : (whyF c set t s p).1 = 0 := by
  unfold whyF
  rw [if_neg (by simpa using h1)]
  have e2 : (p.any fun m => decide ((manAt c m).kind ≥ s.least)) = true := by
    obtain ⟨m, hm, hk⟩ := h2
    exact List.any_eq_true.2 ⟨m, hm, decide_eq_true hk⟩
  rw [e2, if_neg (by simp)]
  have e3 : p.find? (fun m => !inSet set m || decide (t.slot ∈ (manAt c m).no)) = none := List.find?_eq_none.2 fun m hm => by
    obtain ⟨a, b⟩ := h3 m hm
    simp [a, b]
  have e4 : p.find? (fun m => decide (t.get m.toNat ≥ c.run)) = none := List.find?_eq_none.2 fun m hm => by
    have := h4 m hm
    simp; omega
  have e5 : p.find? (fun m => decide (t.get m.toNat < 0)) = none := List.find?_eq_none.2 fun m hm => by
    have := h5 m hm
    simp; omega
  rw [e3, e4, e5]

theorem sim_dead {c c' : WCase} {set set' : Int} (R : Tired → Tired → Prop) (hs : ∀ t t', R t t' → ∀ u ∈ succF c set t, ∃ u' ∈ succF c' set' t', R u u') : ∀ (n : Nat) (t t' : Tired), R t t' → deadN c' set' n t' → deadN c set n t ∧ hgtN c set n t ≤ hgtN c' set' n t'
  | 0, t, t', _, h => h.elim
  | n + 1, t, t', hr, h => by
    refine ⟨fun u hu => ?_, ?_⟩
    · obtain ⟨u', hu', hr'⟩ := hs t t' hr u hu
      exact (sim_dead R hs n u u' hr' (h u' hu')).1
    · rw [hgtN]
      refine (foldl_max_bd (by omega) (hgt_bd (c := c') (set := set') (n + 1) t').1 fun u hu => ?_).2
      obtain ⟨u', hu', hr'⟩ := hs t t' hr u hu
      have h1 := (sim_dead R hs n u u' hr' (h u' hu')).2
      have h2 := max_le (f := fun u => hgtN c' set' n u) (y := 0) hu'
      rw [hgtN]
      omega

theorem sim_alive {c c' : WCase} {set set' : Int} (R : Tired → Tired → Prop) (hs : ∀ t t', R t t' → ∀ u ∈ succF c set t, ∃ u' ∈ succF c' set' t', R u u') {t t' : Tired} (hr : R t t') (h : alive c set t) : alive c' set' t' :=
  fun n hd => h n (sim_dead R hs n t t' hr hd).1

/-- The same rows stand in both cases. -/
def SameRows (c c' : WCase) (set set' : Int) (R : Tired → Tired → Prop) : Prop :=
  ∀ t t' g, R t t' → ascF c.men.length (-1) g = 0 → (whyT c set t g).1 = 0 → ascF c'.men.length (-1) g = 0 ∧ (whyT c' set' t' g).1 = 0 ∧ R (behindF c t g) (behindF c' t' g)

theorem SameRows.group {c c' : WCase} {set set' : Int} {R : Tired → Tired → Prop} (h : SameRows c c' set set' R) {t t' : Tired} (hr : R t t') {x : List Int × Tired} (hx : x ∈ groupsF c set t) : (x.1, behindF c' t' x.1) ∈ groupsF c' set' t' ∧ R x.2 (behindF c' t' x.1) := by
  obtain ⟨hw, hu⟩ := group_why hx
  obtain ⟨h1, h2, h3⟩ := h t t' x.1 hr (group_asc hx) hw
  rw [hu]
  exact ⟨group_mem' h1 h2, h3⟩

theorem SameRows.succ {c c' : WCase} {set set' : Int} {R : Tired → Tired → Prop} (h : SameRows c c' set set' R) : ∀ t t', R t t' → ∀ u ∈ succF c set t, ∃ u' ∈ succF c' set' t', R u u' := by
  intro t t' hr u hu
  obtain ⟨x, hx, rfl⟩ := List.mem_map.1 hu
  obtain ⟨h1, h2⟩ := h.group hr hx
  exact ⟨_, List.mem_map.2 ⟨_, h1, rfl⟩, h2⟩

theorem SameRows.walk {c c' : WCase} {set set' : Int} {R : Tired → Tired → Prop} (h : SameRows c c' set set' R) : ∀ {l : List (List Int)} {t t' : Tired} {i : Int}, 0 ≤ i → R t t' → (walkF c set t l i).1.1 = -1 → (∀ r ∈ l, ascF c.men.length (-1) r = 0) → walkF c' set' t' l i = ((-1, 0, 0), (walkF c' set' t' l i).2) ∧ R (walkF c set t l i).2 (walkF c' set' t' l i).2 ∧ ∀ r ∈ l, ascF c'.men.length (-1) r = 0
  | [], t, t', i, _, hr, _, _ => ⟨rfl, hr, fun r h => by cases h⟩
  | g :: l, t, t', i, hi, hr, hw, ha => by
    rw [walkF] at hw
    split at hw
    · rename_i h1
      obtain ⟨h2, h3, h4⟩ := h t t' g hr (ha g (by simp)) h1
      rw [walkF, walkF, if_pos h3, if_pos h1]
      obtain ⟨a, b, d⟩ := h.walk (l := l) (by omega) h4 hw fun r hr => ha r (by simp [hr])
      refine ⟨a, b, fun r hr => ?_⟩
      rcases List.mem_cons.1 hr with rfl | hr
      · exact h2
      · exact d r hr
    · simp only at hw; omega

theorem SameRows.rota {c c' : WCase} {R : Tired → Tired → Prop} (h : SameRows c c' (allMen c) (allMen c') R) (h0 : R .zero .zero) {rota : List (List Int)} (hg : GoodR c rota) : GoodR c' rota ∧ R (endT c rota) (endT c' rota) := by
  obtain ⟨a, b, d⟩ := h.walk (Int.le_refl 0) h0 hg.good hg.asc
  exact ⟨⟨by unfold goodW; rw [a], d⟩, b⟩

theorem SameRows.next {c c' : WCase} (hR : WR c) (hR' : WR c') {R : Tired → Tired → Prop} (h : SameRows c c' (allMen c) (allMen c') R) (h0 : R .zero .zero) {rota : List (List Int)} (hg : GoodR c rota) : ∀ g ∈ nextL c rota, g ∈ nextL c' rota := by
  intro g hm
  obtain ⟨u, hu, ha⟩ := next_mem hm
  obtain ⟨hg', hr⟩ := h.rota h0 hg
  obtain ⟨h1, h2⟩ := h.group hr hu
  have hi := groups_InU hR (hg.InU hR) hu
  have hi' := groups_InU hR' (hg'.InU hR') h1
  have ha' := (endB_iff hR' hi').2 (sim_alive R h.succ h2 ((endB_iff hR hi).1 ha))
  exact List.mem_map.2 ⟨_, List.mem_filter.2 ⟨h1, ha'⟩, rfl⟩

theorem asc_more {a b : Int} (hab : a ≤ b) : ∀ {l : List Int} {last : Int}, ascF a last l = 0 → ascF b last l = 0
  | [], _, _ => rfl
  | x :: l, last, h => by
    rw [ascF] at h ⊢
    split at h
    case isFalse => cases h
    rename_i h1
    split at h
    · cases h
    rename_i h2
    rw [inB_iff] at h1
    rw [if_pos (by rw [inB_iff]; omega), if_neg h2]
    exact asc_more hab h

/-- One more man, behind all others. -/
def plusM (c : WCase) (m : Man) : WCase := { c with men := c.men ++ [m] }

def AsTired (n : Nat) (t t' : Tired) : Prop := t.slot = t'.slot ∧ ∀ j, j < n → t.get j = t'.get j

theorem plus_same {c : WCase} {m : Man} (hR : WR c) (hR' : WR (plusM c m)) : SameRows c (plusM c m) (allMen c) (allMen (plusM c m)) (AsTired c.men.length) := by
  intro t t' g hr ha hw
  have hm := hR.men
  have hm' := hR'.men
  have hlen : (plusM c m).men.length = c.men.length + 1 := by simp [plusM]
  have hin := asc_in ha
  have hin' : RowIn (plusM c m) g := fun x hx => by have := hin x hx; rw [hlen]; omega
  have hman : ∀ x ∈ g, manAt (plusM c m) x = manAt c x := by
    intro x hx
    have := hin x hx
    unfold manAt plusM
    simp only
    rw [List.getElem?_append_left (by omega)]
  obtain ⟨h1, ⟨x, hx, h2⟩, h3, h4, h5⟩ := why_zero hw
  have hsl : slotAt (plusM c m) t' = slotAt c t := by unfold slotAt; rw [hr.1]; rfl
  have hget : ∀ x ∈ g, t'.get x.toNat = t.get x.toNat := fun x hx => (hr.2 _ (by have := hin x hx; omega)).symm
  refine ⟨asc_more (by rw [hlen]; omega) ha, ?_, ?_, ?_⟩
  · unfold whyT
    rw [hsl]
    refine why_of h1 ⟨x, hx, by rw [hman x hx]; exact h2⟩ (fun y hy => ⟨inSet_all hR' (hin' y hy), ?_⟩) (fun y hy => ?_) (fun y hy => ?_)
    · rw [hman y hy, ← hr.1]; exact (h3 y hy).2
    · rw [hget y hy]; exact h4 y hy
    · rw [hget y hy]; exact h5 y hy
  · show (behindF c t g).slot = (behindF (plusM c m) t' g).slot
    unfold behindF
    rw [tireTo_slot, tireTo_slot]
    show (t.slot + 1).tmod _ = (t'.slot + 1).tmod _
    rw [hr.1]; rfl
  · intro j hj
    rw [behind_get hR (by omega), behind_get hR' (by omega), if_pos hj, if_pos (by rw [hlen]; omega), hr.2 j hj]
    rfl
end Go.PX

namespace Go.PX
open Go.Proofs

/- Watch: Gapped, has. -/

structure GapX where
  rota : List Int
  rows : Int
  empty : Int

def GapX.cells (x : GapX) : List D := [bytesD x.rota, .int .u8 x.rows, .int .u16 x.empty]
def GapX.d (x : GapX) : D := .agg x.cells

structure GapX.Ok (x : GapX) : Prop where
  rota : ∀ b ∈ x.rota, 0 ≤ b ∧ b ≤ 255
  rows : 0 ≤ x.rows ∧ x.rows ≤ 255
  empty : 0 ≤ x.empty ∧ x.empty ≤ 65535

def fullF (c : WCase) (x : GapX) : List (List Int) := anyF c x.rota (x.rows.toNat % 13) []
def bitE (e : Int) (i : Nat) : Bool := decide ((e.fdiv (2 ^ min (i : Int).toNat IntKind.u16.bits)).tmod 2 = 1)
def gapsD (e : Int) : Nat → List (List Int) → List (List D)
  | _, [] => []
  | i, r :: l => (if bitE e i then [.nils] else [intsD r]) :: gapsD e (i + 1) l
def gapsF (e : Int) : Nat → List (List Int) → List (List Int)
  | _, [] => []
  | i, r :: l => (if bitE e i then [] else r) :: gapsF e (i + 1) l

theorem gapsD_len (e : Int) : ∀ (l : List (List Int)) (i : Nat), (gapsD e i l).length = l.length
  | [], _ => rfl
  | r :: l, i => by rw [gapsD, List.length_cons, gapsD_len e l, List.length_cons]

theorem relax_ints (r : List Int) : relax (intsD r) = intsD r := by
  show D.vs (relaxE (r.map fun n => [i64 n])) = _
  congr 1
  induction r with
  | nil => rfl
  | cons x r ih =>
    show relaxL [i64 x] :: relaxE (r.map fun n => [i64 n]) = _
    rw [ih]; rfl

theorem relax_rota (l : List (List Int)) : relax (rotaD l) = rotaD l := by
  show D.vs (relaxE (l.map fun r => [intsD r])) = _
  congr 1
  induction l with
  | nil => rfl
  | cons x r ih =>
    show relaxL [intsD x] :: relaxE (r.map fun r => [intsD r]) = _
    rw [ih]
    show [relax (intsD x)] :: _ = _
    rw [relax_ints]; rfl

theorem relax_gaps (e : Int) : ∀ (l : List (List Int)) (i : Nat), relaxE (gapsD e i l) = (gapsF e i l).map fun r => [intsD r]
  | [], _ => rfl
  | r :: l, i => by
    rw [gapsD, gapsF]
    show relaxL _ :: relaxE (gapsD e (i + 1) l) = _
    rw [relax_gaps e l, List.map_cons]
    congr 1
    split
    · rfl
    · show [relax (intsD r)] = _
      rw [relax_ints]

theorem wa51 (c : WCase) (hR : WR c) (x : GapX) (hx : x.Ok) : FnV Try.prog 51 [c.d, x.d] (.tup [rotaD (fullF c x), rotaD (gapsF x.empty 0 (fullF c x))]) := by
  refine FnV.relax (r := .tup [rotaD (fullF c x), .vs (gapsD x.empty 0 (fullF c x))]) ?_ ?_
  · refine fnV_of mixed tysOk Try.func51 rfl (ft := ft51) 2 (by decide +kernel) (by rfl) fun {σ} Y st => ?_
    conv => whnf
    obtain ⟨hb, hr, he⟩ := hx
    refine arith_in (wrap_i64 (by (try dsimp only); omega)) ?_
    conv => whnf
    refine CallA_nil1 ?_
    have hrt : (x.rows.tmod 13) = ((x.rows.toNat % 13 : Nat) : Int) := by
      rw [Int.tmod_eq_emod_of_nonneg (by omega)]; omega
    rw [hrt]
    refine CallA_v (ds := [c.d, rotaD [], bytesD x.rota, i64 (x.rows.toNat % 13 : Nat)]) (wa47 c hR x.rota hb [] (by simp) (fun r h => by cases h) (x.rows.toNat % 13) (by omega)) rfl rfl ?_
    have hfl : fullF c x = anyF c x.rota (x.rows.toNat % 13 - 0) [] := rfl
    have hl : (fullF c x).length ≤ 13 := by
      have := (any_good hR (x := x.rota) (k := x.rows.toNat % 13) (GoodR.nil c)).2.1
      unfold fullF
      simp only [List.length_nil] at this
      omega
    rw [show ([] : List (List Int)).length = 0 from rfl, ← hfl]
    generalize fullF c x = full at hl ⊢
    clear hfl
    conv => whnf
    generalize hM : gapsD x.empty 0 full = M
    have hML : M.length ≤ 13 := by rw [← hM, gapsD_len]; exact hl
    refine LoopA_i (T := tys) tysOk (by exact drawsB_spec mixed tysOk (by decide +kernel)) full (fun i (acc : List (List D)) => ⟨[(3, .ptr 3 0), (6, .d (rotaD full)), (7, .sl 900000 1 0 acc.length), (8, .d (i64 i))], [(3, .box (.dd x.cells)), (900000, .arr 1 (.dd acc))], st⟩)
      (fun i r acc => acc.length ≤ i ∧ M = acc ++ gapsD x.empty i r) [] ((Wk.born 7 900000 1 rfl rfl rfl).trans (Wk.sub ⟨(by first | rfl | (simp only [List.length_map]; rfl) | simp [PX.get]), (by first | rfl | (simp only [List.length_map]; rfl) | simp [PX.get]), (by first | rfl | (simp only [List.length_map]; rfl) | simp [PX.get]), (by first | rfl | (simp only [List.length_map]; rfl) | simp [PX.get]), trivial⟩ ⟨(by first | rfl | (simp only [List.length_map]; rfl) | simp [PX.get]), (by first | rfl | (simp only [List.length_map]; rfl) | simp [PX.get]), trivial⟩)) ⟨by simp, hM.symm⟩ ?_ ?_
    · rintro i y r acc hy hi hr2 ⟨hal, hg⟩
      rw [gapsD] at hg
      conv => whnf
      refine brk_i (fun _ => ?_) (fun h => absurd hi (by have := of_decide_eq_false h; simp at this; omega))
      conv => whnf
      refine brk_i (fun h1 => ?_) (fun h1 => ?_)
      · have h1 : bitE x.empty i = true := h1
        rw [h1] at hg
        simp only [if_true] at hg
        conv => whnf
        refine ownK_whole rfl ?_
        conv => whnf
        refine ownK_whole (by simp [Els.len]) ?_
        conv => whnf
        refine chk_i (decide_eq_true (by
          show (acc.length + 1) * 24 ≤ 140737488355328
          omega)) ?_
        conv => whnf
        refine arith_in (wrap_i64 (by (try dsimp only); omega)) ?_
        conv => whnf
        refine ⟨acc ++ [[.nils]], ⟨by simp; omega, by rw [hg]; simp⟩, (Wk.move 31 900000 rfl rfl).trans (Wk.sub ⟨rfl, rfl, ?_, rfl, trivial⟩ ⟨rfl, rfl, trivial⟩)⟩
        show some (V.sl 900000 1 0 (acc.length + 1)) = _
        simp
      · have h1 : bitE x.empty i = false := h1
        rw [h1] at hg
        simp only [Bool.false_eq_true, if_false] at hg
        conv => whnf
        refine elemK_nat hy ?_
        conv => whnf
        refine ownK_whole rfl ?_
        conv => whnf
        refine ownK_whole (by simp [Els.len]) ?_
        conv => whnf
        refine chk_i (decide_eq_true (by
          show (acc.length + 1) * 24 ≤ 140737488355328
          omega)) ?_
        conv => whnf
        refine arith_in (wrap_i64 (by (try dsimp only); omega)) ?_
        conv => whnf
        refine ⟨acc ++ [[intsD y]], ⟨by simp; omega, by rw [hg]; simp⟩, (Wk.move 38 900000 rfl rfl).trans (Wk.sub ⟨rfl, rfl, ?_, rfl, trivial⟩ ⟨rfl, rfl, trivial⟩)⟩
        show some (V.sl 900000 1 0 (acc.length + 1)) = _
        simp
    · rintro acc ⟨_, hf⟩
      have hf : M = acc := by simpa [gapsD] using hf
      rw [hf]
      conv => whnf
      refine brk_i (fun h => absurd h (by simp)) (fun _ => ?_)
      conv => whnf
      refine RetA_view 1 (ds := [rotaD full, .vs acc]) ?_ ⟨⟨rfl, rfl⟩, rfl⟩
      exact viewL_cons rfl (viewL_cons (viewV_sl rfl rfl) rfl)
  · show D.tup [relax (rotaD _), D.vs (relaxE _)] = _
    rw [relax_rota, relax_gaps]; rfl

theorem wa54 (l : List (List Int)) (row : List Int) (hl : l.length < 1000000) (hr : ∀ r ∈ l, r.length < 1000000) : FnV Try.prog 54 [rotaD l, intsD row] (.bool (decide (row ∈ l))) := by
  refine fnV_of mixed tysOk Try.func54 rfl (ft := ft54) 2 (by decide +kernel) (by rfl) fun {σ} Y st => ?_
  conv => whnf
  refine LoopA_i (T := tys) tysOk (by exact drawsB_spec mixed tysOk (by decide +kernel)) l (fun i (_ : Unit) => ⟨[(0, .d (rotaD l)), (1, .d (intsD row)), (4, .d (.bool false)), (5, .d (i64 i))], [], st⟩)
    (fun i r _ => decide (row ∈ l) = decide (row ∈ r)) () (Wk.sub ⟨(by first | rfl | (simp only [List.length_map]; rfl) | simp [PX.get]), (by first | rfl | (simp only [List.length_map]; rfl) | simp [PX.get]), (by first | rfl | (simp only [List.length_map]; rfl) | simp [PX.get]), (by first | rfl | (simp only [List.length_map]; rfl) | simp [PX.get]), trivial⟩ trivial) rfl ?_ ?_
  · intro i x r _ hx hi hr' he
    have hxr := hr x (List.mem_of_getElem? hx)
    conv => whnf
    refine brk_i (fun _ => ?_) (fun h => absurd hi (by have := of_decide_eq_false h; simp at this; omega))
    conv => whnf
    refine elemK_nat hx ?_
    conv => whnf
    refine CallA_view (ds := [rotaD [x], rotaD [row]]) (wa24 [x] [row] (by simp) (by simpa using hxr)) rfl 1 rfl ?_
    conv => whnf
    refine brk_i (fun h1 => ?_) (fun h1 => ?_)
    · have h1 : x = row := by have := of_decide_eq_true h1; simpa using this
      conv => whnf
      rw [he, decide_eq_true (by rw [h1]; simp)]
      exact RetA_view 0 rfl ⟨⟨rfl, rfl⟩, rfl⟩
    · have h1 : ¬ x = row := by have := of_decide_eq_false h1; simpa using this
      conv => whnf
      refine arith_in (wrap_i64 (by (try dsimp only); omega)) ?_
      conv => whnf
      refine ⟨(), ?_, (Wk.sub ⟨(by first | rfl | (simp only [List.length_map]; rfl) | simp [PX.get]), (by first | rfl | (simp only [List.length_map]; rfl) | simp [PX.get]), (by first | rfl | (simp only [List.length_map]; rfl) | simp [PX.get]), (by first | rfl | (simp only [List.length_map]; rfl) | simp [PX.get]), trivial⟩ trivial)⟩
      rw [he]
      by_cases h2 : row ∈ r
      · rw [decide_eq_true h2, decide_eq_true (by simp [h2])]
      · rw [decide_eq_false h2, decide_eq_false (by
          intro h3
          rcases List.mem_cons.1 h3 with h3 | h3
          · exact h1 h3.symm
          · exact h2 h3)]
  · intro _ he
    rw [he]
    conv => whnf
    refine brk_i (fun h => absurd h (by simp)) (fun _ => ?_)
    conv => whnf
    exact RetA_view 0 rfl ⟨⟨rfl, rfl⟩, rfl⟩
end Go.PX

namespace Go.PX
open Go.Proofs Go.RowKit Go.ChangeShapes

theorem c5 : Try.prog.cellsOf 5 = 1 := by kernel_rfl
theorem c64 : Try.prog.cellsOf 64 = 1 := by kernel_rfl
theorem c58 : Try.prog.cellsOf 58 = 1 := by kernel_rfl
theorem c66 : Try.prog.cellsOf 66 = 3 := by kernel_rfl

theorem Rd.intw {P : Program} {W : World} {t : TypeId} {k : IntKind} (ht : P.underlying t = some (.int k)) : Rd P W t fun ds => ∃ n, ds = [.int k n] ∧ (Lit.int k n).wf = true := by
  refine ⟨?_⟩
  intro H enc sp held fuel cs x h
  obtain ⟨n, rfl, _, hw⟩ := DataW.trod_int ht h
  exact ⟨[.int k n], ⟨n, rfl, hw⟩, _, [], rfl, rfl, rfl⟩

theorem RepDL.one {F : Nat → Nat} {w : World} {d : D} {v : Value} (h : RepDL F w [d] [v]) : RepD F w d v := by
  obtain ⟨x, l', h1, hd, hl⟩ := h
  cases h1
  exact hd

section
variable (W : World)
theorem rdByte : Rd Try.prog W 5 fun ds => ∃ n, ds = [.int .u8 n] ∧ 0 ≤ n ∧ n ≤ 255 := (Rd.intw Try.underlying5).mono fun ds ⟨n, h, w⟩ => ⟨n, h, byteIn w⟩
theorem rdWord : Rd Try.prog W 64 fun ds => ∃ n, ds = [.int .u16 n] ∧ 0 ≤ n ∧ n ≤ 65535 := (Rd.intw Try.underlying64).mono fun ds ⟨n, h, w⟩ => ⟨n, h, wordIn w⟩

theorem rdBytes : Rd Try.prog W 58 fun ds => ∃ l : List Int, ds = [bytesD l] ∧ ∀ b ∈ l, 0 ≤ b ∧ b ≤ 255 :=
  (Rd.slice Try.underlying58 c5 (by omega) (rdByte W)).mono fun ds h => by
    obtain ⟨es, rfl, he⟩ := h
    have : ∃ l : List Int, es = l.map (fun b => [D.int .u8 b]) ∧ ∀ b ∈ l, 0 ≤ b ∧ b ≤ 255 := by
      induction es with
      | nil => exact ⟨[], rfl, fun b h => by cases h⟩
      | cons e r ih =>
        obtain ⟨l, h1, h2⟩ := ih fun x hx => he x (by simp [hx])
        obtain ⟨n, h3, h4⟩ := he e (by simp)
        refine ⟨n :: l, by rw [h3, h1]; rfl, fun b hb => ?_⟩
        rcases List.mem_cons.1 hb with rfl | hb
        · exact h4
        · exact h2 b hb
    obtain ⟨l, rfl, h2⟩ := this
    exact ⟨l, rfl, h2⟩

theorem rdGap : Rd Try.prog W 66 fun ds => ∃ x : GapX, ds = x.cells ∧ x.Ok :=
  (Rd.struct Try.underlying66 c66 (.cons rfl c58 (rdBytes W) (.cons rfl c5 (rdByte W) (.cons rfl c64 (rdWord W) (.nil _))))).mono fun ds h => by
    obtain ⟨_, _, rfl, ⟨a, rfl, ha⟩, _, _, rfl, ⟨b, rfl, hb⟩, _, _, rfl, ⟨d, rfl, hd⟩, rfl⟩ := h
    exact ⟨⟨a, b, d⟩, rfl, ⟨ha, hb, hd⟩⟩
end
end Go.PX

namespace Go.PX
open Go.Proofs

/- Watch: what fill finds is the first good filling. -/

def first0 (R : List Int) (f : Tired → Option (List (List Int))) : List (List Int × Tired) → Option (List (List Int))
  | [] => none
  | p :: r => if fitsG R p.1 then
      match f p.2 with
      | some l => some (p.1 :: l)
      | none => first0 R f r
    else first0 R f r

def fill0 (c : WCase) (set : Int) : List (List Int) → Tired → Option (List (List Int))
  | [], _ => some []
  | R :: rest, t => first0 R (fill0 c set rest) (groupsF c set t)

def KgTrue (c : WCase) (set : Int) (all : List (List Int)) (kg : Kg) : Prop := ∀ g v, getG kg g = some v → ∃ k : Nat, g.row = k ∧ fill0 c set (all.drop k) g.t = none

theorem tryG_true {c : WCase} {set : Int} {all : List (List Int)} {R : List Int} {f : Kg → Tired → Option (List (List Int)) × Kg} {f0 : Tired → Option (List (List Int))} (hf : ∀ kg u, KgTrue c set all kg → (f kg u).1 = f0 u ∧ KgTrue c set all (f kg u).2) :
    ∀ (l : List (List Int × Tired)) (kg : Kg), KgTrue c set all kg → (tryG R f kg l).1 = first0 R f0 l ∧ KgTrue c set all (tryG R f kg l).2
  | [], kg, h => ⟨rfl, h⟩
  | p :: r, kg, h => by
    obtain ⟨h1, h2⟩ := hf kg p.2 h
    rw [tryG, first0]
    by_cases hfit : fitsG R p.1 = true
    · rw [if_pos hfit, if_pos hfit, ← h1]
      cases hq : (f kg p.2).1 with
      | some l => exact ⟨rfl, h2⟩
      | none => exact tryG_true hf r (f kg p.2).2 h2
    · rw [if_neg hfit, if_neg hfit]
      exact tryG_true hf r kg h

theorem fillW_true {c : WCase} {set : Int} {all : List (List Int)} : ∀ (rows : List (List Int)) (row : Int) (k : Nat) (t : Tired) (kg : Kg), row = k → all.drop k = rows → KgTrue c set all kg → (fillW c set rows row t kg).1 = fill0 c set rows t ∧ KgTrue c set all (fillW c set rows row t kg).2
  | [], row, k, t, kg, _, _, h => ⟨rfl, h⟩
  | R :: rest, row, k, t, kg, hk, hd, h => by
    have hd2 : all.drop (k + 1) = rest := by
      rw [← List.tail_drop, hd]; rfl
    obtain ⟨h1, h2⟩ := tryG_true (R := R) (f := fun kg u => fillW c set rest (row + 1) u kg) (f0 := fill0 c set rest) (fun kg u hkg => fillW_true rest (row + 1) (k + 1) u kg (by omega) hd2 hkg) (groupsF c set t) kg h
    rw [fillW, fill0]
    split
    · rename_i hs
      cases hg : getG kg ⟨row, t⟩ with
      | none => rw [hg] at hs; cases hs
      | some v =>
        obtain ⟨k', hk', hn⟩ := h ⟨row, t⟩ v hg
        have : k' = k := by simp only at hk'; omega
        subst this
        rw [hd] at hn
        exact ⟨hn.symm, h⟩
    · cases hq : (tryG R (fun kg u => fillW c set rest (row + 1) u kg) kg (groupsF c set t)).1 with
      | some l =>
        rw [hq] at h1
        exact ⟨h1, h2⟩
      | none =>
        rw [hq] at h1
        refine ⟨h1, fun g v hv => ?_⟩
        simp only at hv
        rw [get_put_kg] at hv
        split at hv
        · rename_i e
          subst e
          exact ⟨k, hk, by rw [hd, fill0]; exact h1.symm⟩
        · exact h2 g v hv

theorem fillW_0 {c : WCase} {set : Int} {rows : List (List Int)} {t : Tired} : (fillW c set rows 0 t []).1 = fill0 c set rows t :=
  (fillW_true (all := rows) rows 0 0 t [] rfl rfl (fun g v h => by cases h)).1

/-- The one row comes before the other. -/
def rowLt : List Int → List Int → Prop
  | a :: r, b :: s => a < b ∨ (a = b ∧ rowLt r s)
  | _, _ => False

def leR : List (List Int) → List (List Int) → Prop
  | a :: r, b :: s => rowLt a b ∨ (a = b ∧ leR r s)
  | _, _ => True

def fitsL : List (List Int) → List (List Int) → Bool
  | [], [] => true
  | R :: rs, g :: gs => fitsG R g && fitsL rs gs
  | _, _ => false

theorem rowLt_app : ∀ (p : List Int) {a b : List Int}, rowLt a b → rowLt (p ++ a) (p ++ b)
  | [], _, _, h => h
  | x :: p, _, _, h => Or.inr ⟨rfl, rowLt_app p h⟩

theorem lists_pre {below : Nat} : ∀ {many : Nat} {p g : List Int}, g ∈ listsF below many p → ∃ r, g = p ++ r
  | 0, p, g, h => by
    rw [listsF, List.mem_singleton] at h
    exact ⟨[], by simp [h]⟩
  | many + 1, p, g, h => by
    rw [listsF, List.mem_flatMap] at h
    obtain ⟨i, _, hg⟩ := h
    obtain ⟨r, hr⟩ := lists_pre hg
    exact ⟨(i : Int) :: r, by rw [hr]; simp⟩

theorem lists_sorted {below : Nat} : ∀ {many : Nat} {p : List Int}, (listsF below many p).Pairwise rowLt
  | 0, p => by rw [listsF]; exact List.pairwise_singleton ..
  | many + 1, p => by
    rw [listsF]
    rw [List.pairwise_flatMap]
    refine ⟨fun i _ => lists_sorted, ?_⟩
    refine List.Pairwise.imp ?_ (List.pairwise_lt_range' ..)
    intro a b hab x hx y hy
    obtain ⟨r, rfl⟩ := lists_pre hx
    obtain ⟨s, rfl⟩ := lists_pre hy
    rw [List.append_assoc, List.append_assoc]
    exact rowLt_app p (Or.inl (by omega))

theorem groups_sorted {c : WCase} {set : Int} {t : Tired} : (groupsF c set t).Pairwise fun a b => rowLt a.1 b.1 := by
  unfold groupsF
  rw [groups_lists (p := []) (start := 0) rfl]
  rw [List.pairwise_map]
  exact List.Pairwise.filter _ lists_sorted

theorem first0_some {R : List Int} {f : Tired → Option (List (List Int))} {p : List Int × Tired} {tl : List (List Int)} (hfit : fitsG R p.1 = true) (hf : f p.2 = some tl) : ∀ {gs : List (List Int × Tired)}, gs.Pairwise (fun a b => rowLt a.1 b.1) → p ∈ gs → ∃ q l, first0 R f gs = some (q :: l) ∧ (rowLt q p.1 ∨ (q = p.1 ∧ l = tl))
  | [], _, h => by cases h
  | q :: r, hs, h => by
    rw [List.pairwise_cons] at hs
    rw [first0]
    rcases List.mem_cons.1 h with rfl | h
    · rw [if_pos hfit, hf]
      exact ⟨p.1, tl, rfl, .inr ⟨rfl, rfl⟩⟩
    · by_cases hq : fitsG R q.1 = true
      · rw [if_pos hq]
        cases hfq : f q.2 with
        | some l => exact ⟨q.1, l, rfl, .inl (hs.1 p h)⟩
        | none => exact first0_some hfit hf hs.2 h
      · rw [if_neg hq]
        exact first0_some hfit hf hs.2 h

/-- Each good filling has the first one before it. -/
theorem fill0_some {c : WCase} {set : Int} : ∀ {rows l : List (List Int)} {t : Tired} {i : Int}, 0 ≤ i → fitsL rows l = true → (walkF c set t l i).1.1 = -1 → (∀ r ∈ l, ascF c.men.length (-1) r = 0) → ∃ l', fill0 c set rows t = some l' ∧ leR l' l
  | [], [], t, i, _, _, _, _ => ⟨[], rfl, trivial⟩
  | [], _ :: _, t, i, _, h, _, _ => by cases h
  | _ :: _, [], t, i, _, h, _, _ => by cases h
  | R :: rest, g :: l, t, i, hi, hf, hw, ha => by
    rw [fitsL, Bool.and_eq_true] at hf
    rw [walkF] at hw
    split at hw
    · rename_i h1
      have hp := group_mem' (ha g (by simp)) h1
      obtain ⟨tl, ht, hle⟩ := fill0_some (rows := rest) (l := l) (by omega) hf.2 hw fun r hr => ha r (by simp [hr])
      obtain ⟨q, l', h2, h3⟩ := first0_some (R := R) (f := fill0 c set rest) (p := (g, behindF c t g)) hf.1 ht groups_sorted hp
      refine ⟨q :: l', by rw [fill0]; exact h2, ?_⟩
      rcases h3 with h3 | ⟨h3, h4⟩
      · exact Or.inl h3
      · exact Or.inr ⟨h3, by rw [h4]; exact hle⟩
    · simp only at hw; omega

theorem first0_ok {R : List Int} {f : Tired → Option (List (List Int))} : ∀ {gs : List (List Int × Tired)} {l : List (List Int)}, first0 R f gs = some l → ∃ p ∈ gs, ∃ tl, fitsG R p.1 = true ∧ f p.2 = some tl ∧ l = p.1 :: tl
  | [], l, h => by cases h
  | q :: r, l, h => by
    rw [first0] at h
    split at h
    · rename_i hq
      split at h
      · rename_i tl ht
        cases h
        exact ⟨q, by simp, tl, hq, ht, rfl⟩
      · obtain ⟨p, hp, h2⟩ := first0_ok h
        exact ⟨p, by simp [hp], h2⟩
    · obtain ⟨p, hp, h2⟩ := first0_ok h
      exact ⟨p, by simp [hp], h2⟩

theorem fill0_ok {c : WCase} {set : Int} : ∀ {rows l : List (List Int)} {t : Tired} {i : Int}, fill0 c set rows t = some l → fitsL rows l = true ∧ (walkF c set t l i).1.1 = -1 ∧ ∀ r ∈ l, ascF c.men.length (-1) r = 0
  | [], l, t, i, h => by cases h; exact ⟨rfl, rfl, fun r h => by cases h⟩
  | R :: rest, l, t, i, h => by
    rw [fill0] at h
    obtain ⟨p, hp, tl, h1, h2, rfl⟩ := first0_ok h
    obtain ⟨h3, h4, h5⟩ := fill0_ok (i := i + 1) h2
    obtain ⟨hw, hu⟩ := group_why hp
    rw [hu] at h4
    refine ⟨by rw [fitsL, h1, h3]; rfl, by rw [walkF, if_pos hw]; exact h4, fun r hr => ?_⟩
    rcases List.mem_cons.1 hr with rfl | hr
    · exact group_asc hp
    · exact h5 r hr

theorem fits_nil : ∀ {n : Nat} {l : List (List Int)}, l.length = n → fitsL (List.replicate n []) l = true
  | 0, [], _ => rfl
  | n + 1, g :: l, h => by
    rw [List.replicate_succ, fitsL, fits_nil (n := n) (by simpa using h)]
    rfl
  | 0, _ :: _, h => by cases h
  | n + 1, [], h => by cases h

theorem inSet_but {c : WCase} (hR : WR c) {j : Nat} (hj : j < c.men.length) {m : Int} (h : 0 ≤ m ∧ m < c.men.length) : inSet (butSet c j) m = decide (m ≠ j) := by
  have hm := hR.men
  obtain ⟨k, rfl⟩ : ∃ k : Nat, m = k := ⟨m.toNat, by omega⟩
  unfold butSet allMen
  generalize hn : c.men.length = n at *
  have h1 : n = 1 ∨ n = 2 ∨ n = 3 ∨ n = 4 ∨ n = 5 := by omega
  have h2 : j = 0 ∨ j = 1 ∨ j = 2 ∨ j = 3 ∨ j = 4 := by omega
  have h3 : k = 0 ∨ k = 1 ∨ k = 2 ∨ k = 3 ∨ k = 4 := by omega
  rcases h1 with rfl | rfl | rfl | rfl | rfl <;> rcases h2 with rfl | rfl | rfl | rfl | rfl <;> first
    | (exact absurd hj (by decide))
    | (rcases h3 with rfl | rfl | rfl | rfl | rfl <;> first | (exact absurd h.2 (by decide)) | decide)

/-- Rows without a man stand with all men but this one. -/
theorem but_same {c : WCase} (hR : WR c) {j : Nat} (hj : j < c.men.length) : ∀ {l : List (List Int)} {t : Tired} {i : Int}, 0 ≤ i → (walkF c (allMen c) t l i).1.1 = -1 → (∀ r ∈ l, ascF c.men.length (-1) r = 0 ∧ (j : Int) ∉ r) → (walkF c (butSet c j) t l i).1.1 = -1
  | [], t, i, _, _, _ => rfl
  | g :: l, t, i, hi, hw, ha => by
    rw [walkF] at hw
    split at hw
    · rename_i h1
      obtain ⟨ha1, ha2⟩ := ha g (by simp)
      have hin := asc_in ha1
      obtain ⟨b1, b2, b3, b4, b5⟩ := why_zero h1
      have h2 : (whyT c (butSet c j) t g).1 = 0 := why_of b1 b2 (fun m hm => ⟨by
        rw [inSet_but hR hj (hin m hm)]
        exact decide_eq_true fun e => ha2 (e ▸ hm), (b3 m hm).2⟩) b4 b5
      rw [walkF, if_pos h2]
      exact but_same hR hj (by omega) hw fun r hr => ha r (by simp [hr])
    · simp only at hw; omega
end Go.PX

namespace Go.PX
open Go.Proofs

/- Watch: WatchFurther. -/

def Man.d (m : Man) : D := .agg m.cells

theorem val_WR {c : WCase} (h : valW c = true) : WR c := wR (of_decide_eq_true h)
theorem val_chk {c : WCase} (h : valW c = true) : (checkW c).2.2 = 0 := of_decide_eq_true h

theorem replO_vv {g : Nat → Option DO} {l : List V} {l' : List D} (h : dsOf (replL g l) = some l') : replO g (.box (.vv l)) = .box (.dd l') := by
  simp only [replO, h]

theorem next_len {c : WCase} (hR : WR c) {rota : List (List Int)} : (nextL c rota).length ≤ 25 ∧ ∀ r ∈ nextL c rota, r.length ≤ 2 := by
  refine ⟨?_, fun r hr => ?_⟩
  · unfold nextL nextG
    rw [List.length_map]
    exact Nat.le_trans (List.length_filter_le ..) (groups_many hR)
  · obtain ⟨u, hu, _⟩ := next_mem hr
    exact groups_len hR hu

theorem wa14 (c : WCase) (x : GapX) (hx : x.Ok) (m : Man) : FnV Try.prog 14 [c.d, x.d, m.d] (.bool true) := by
  refine fnV_of mixed tysOk Try.func14 rfl (ft := ft14) 3 (by decide +kernel) (by rfl) fun {σ} Y st => ?_
  conv => whnf
  refine CallA_v (wa43 c) rfl rfl ?_
  conv => whnf
  cases hv : valW c with
  | false =>
    conv => whnf
    refine CallA_v (wa27) rfl rfl ?_
    conv => whnf
    exact RetA_view 0 rfl ⟨⟨rfl, rfl⟩, rfl⟩
  | true =>
    have hR := val_WR hv
    have hm := hR.men
    conv => whnf
    refine ownK_whole rfl ?_
    conv => whnf
    refine chk_i (by rw [Bool.and_eq_true]; exact ⟨lenAllD_map (fun _ => ⟨rfl, rfl⟩) _, rfl⟩) ?_
    conv => whnf
    refine chk_i (decide_eq_true (by
      show (0 + (c.men.map Man.cells).length) * 48 ≤ 140737488355328
      rw [List.length_map]; omega)) ?_
    conv => whnf
    refine ownK_whole rfl ?_
    conv => whnf
    refine ownK_whole (by simp [Els.len]) ?_
    conv => whnf
    refine chk_i (decide_eq_true (by
      show (([] ++ c.men.map Man.cells).length + 1) * 48 ≤ 140737488355328
      simp; omega)) ?_
    conv => whnf
    generalize hc2 : plusM c m = c2
    have hcd : V.d c2.d = .d (.agg [mansD (c.men ++ [m]), slotsD c.slots, i64 c.run, i64 c.rest]) := by rw [← hc2]; rfl
    refine CallA_sub (e' := [(3, .ptr 3 0), (4, .ptr 4 0), (6, .d (.bool false)), (7, .ptr 7 0)]) (h' := [(3, .box (.dd c.cells)), (4, .box (.dd x.cells)), (7, .box (.vv [.sl 30 3 0 (c.men.length + 1), .d (slotsD c.slots), .d (i64 c.run), .d (i64 c.rest)])), (30, .arr 3 (.dd ((c.men ++ [m]).map Man.cells)))]) (args' := [.agg [.sl 30 3 0 (c.men.length + 1), .d (slotsD c.slots), .d (i64 c.run), .d (i64 c.rest)]]) ⟨rfl, rfl, rfl, rfl, trivial⟩ ⟨rfl, rfl, ?_, ?_, trivial⟩ ?_ ?_
    · show some (Obj.box (Cells.vv [.sl 30 3 0 (([] ++ c.men.map Man.cells).length + 1), .d (slotsD c.slots), .d (i64 c.run), .d (i64 c.rest)])) = _
      simp
    · show some (Obj.arr 3 (Els.dd (([] ++ c.men.map Man.cells) ++ [m.cells]))) = _
      simp
    · show [V.agg [V.sl 30 3 0 (([] ++ c.men.map Man.cells).length + 1), .d (slotsD c.slots), .d (i64 c.run), .d (i64 c.rest)]] = _
      simp
    refine CallA_frz 2 [30] ?_
    have hrp : ∀ (h : Heap), get h 30 = some (.arr 3 (.dd ((c.men ++ [m]).map Man.cells))) → replL (objD h 2) [.sl 30 3 0 (c.men.length + 1), .d (slotsD c.slots), .d (i64 c.run), .d (i64 c.rest)] = [.d (mansD (c.men ++ [m])), .d (slotsD c.slots), .d (i64 c.run), .d (i64 c.rest)] := by
      intro h hh
      show [repl _ (V.sl 30 3 0 (c.men.length + 1)), _, _, _] = _
      rw [repl_sl (viewV_sl hh (by simp))]
      rfl
    refine CallA_sub (e' := [(3, .ptr 3 0), (4, .ptr 4 0), (6, .d (.bool false)), (7, .ptr 7 0)]) (h' := [(3, .box (.dd c.cells)), (4, .box (.dd x.cells)), (7, .box (.dd c2.cells))]) (args' := [.d c2.d]) ⟨rfl, rfl, rfl, rfl, trivial⟩ ⟨rfl, rfl, ?_, trivial⟩ ?_ ?_
    · refine congrArg some (replO_vv ?_)
      rw [hrp _ rfl, ← hc2]; rfl
    · show [mkAgg (replL (objD (keepT [30] [(3, .box (.dd c.cells)), (4, .box (.dd x.cells)), (7, .box (.vv [.sl 30 3 0 (c.men.length + 1), .d (slotsD c.slots), .d (i64 c.run), .d (i64 c.rest)])), (30, .arr 3 (.dd ((c.men ++ [m]).map Man.cells)))]) 2) _)] = _
      rw [hrp _ rfl, ← hc2]; rfl
    refine CallA_v (ds := [c2.d]) (wa43 c2) rfl rfl ?_
    cases hv2 : valW c2 with
    | false =>
      conv => whnf
      refine CallA_v (wa27) rfl rfl ?_
      conv => whnf
      exact RetA_view 0 rfl ⟨⟨rfl, rfl⟩, rfl⟩
    | true =>
      have hR2 := val_WR hv2
      conv => whnf
      refine CallA_v (ds := [c.d, x.d]) (wa51 c hR x hx) rfl rfl ?_
      have hfg := any_good hR (x := x.rota) (k := x.rows.toNat % 13) (GoodR.nil c)
      obtain ⟨hg, hlen, _⟩ := hfg
      have hg : GoodR c (fullF c x) := hg
      have hlen : (fullF c x).length ≤ 40 := by
        have : (fullF c x).length ≤ 0 + x.rows.toNat % 13 := hlen
        omega
      generalize fullF c x = full at hg hlen ⊢
      have hsame : SameRows c c2 (allMen c) (allMen c2) (AsTired c.men.length) := by
        subst hc2; exact plus_same hR hR2
      have h00 : AsTired c.men.length .zero .zero := ⟨rfl, fun j _ => rfl⟩
      obtain ⟨hg2, _⟩ := hsame.rota h00 hg
      have hB : badF c2 full = (-1, 0, 0, 0) := by
        obtain ⟨a, _, _⟩ := hsame.walk (Int.le_refl 0) h00 hg.good hg.asc
        unfold badF
        rw [if_pos (hg2.ent (val_chk hv2) hlen), a]
      have hnx := hsame.next hR hR2 h00 hg
      conv => whnf
      refine CallA_v (ds := [c2.d, rotaD full]) (wa17 c2 full) rfl rfl ?_
      rw [hB]
      conv => whnf
      refine CallA_v (ds := [c.d, rotaD full]) (wa25 c full) rfl rfl ?_
      rw [hg.zero (val_chk hv) hlen, if_pos rfl]
      conv => whnf
      refine CallA_v (ds := [c2.d, rotaD full]) (wa25 c2 full) rfl rfl ?_
      rw [hg2.zero (val_chk hv2) hlen, if_pos rfl]
      have hn1 := next_len hR (rota := full)
      have hn2 := next_len hR2 (rota := full)
      generalize nextL c full = L1 at hnx hn1 ⊢
      generalize nextL c2 full = L2 at hnx hn2 ⊢
      cases L1 with
      | nil =>
        conv => whnf
        refine LoopA_i (T := tys) tysOk (by exact drawsB_spec mixed tysOk (by decide +kernel)) ([] : List Nat) (fun i (_ : Unit) => ⟨[(14, .d .nils), (18, .d (i64 i))], [], st⟩) (fun i r _ => True) () (Wk.sub ⟨(by first | rfl | (simp only [List.length_map]; rfl) | simp [PX.get]), (by first | rfl | (simp only [List.length_map]; rfl) | simp [PX.get]), trivial⟩ trivial) trivial ?_ ?_
        · intro i x r _ hx
          cases hx
        · intro _ _
          conv => whnf
          refine CallA_v (wa27) rfl rfl ?_
          conv => whnf
          exact RetA_view 0 rfl ⟨⟨rfl, rfl⟩, rfl⟩
      | cons a1 l1 =>
        cases L2 with
        | nil =>
          have := hnx a1 (by simp)
          cases this
        | cons a2 l2 =>
          conv => whnf
          refine LoopA_i (T := tys) tysOk (by exact drawsB_spec mixed tysOk (by decide +kernel)) (a1 :: l1) (fun i (_ : Unit) => ⟨[(14, .d (rotaD (a1 :: l1))), (16, .d (rotaD (a2 :: l2))), (6, .d (.bool false)), (18, .d (i64 i))], [], st⟩) (fun i r _ => True) () (Wk.sub ⟨(by first | rfl | (simp only [List.length_map]; rfl) | simp [PX.get]), (by first | rfl | (simp only [List.length_map]; rfl) | simp [PX.get]), (by first | rfl | (simp only [List.length_map]; rfl) | simp [PX.get]), (by first | rfl | (simp only [List.length_map]; rfl) | simp [PX.get]), trivial⟩ trivial) trivial ?_ ?_
          · intro i x r _ hx hi hr _
            conv => whnf
            refine brk_i (fun _ => ?_) (fun h => absurd hi (by have := of_decide_eq_false h; simp at this ⊢; omega))
            conv => whnf
            refine elemK_nat hx ?_
            conv => whnf
            refine CallA_v (ds := [rotaD (a2 :: l2), intsD x]) (wa54 (a2 :: l2) x (by omega) (fun r h => by have := hn2.2 r h; omega)) rfl rfl ?_
            rw [decide_eq_true (hnx x (List.mem_of_getElem? hx))]
            conv => whnf
            refine arith_in (wrap_i64 (by (try dsimp only); omega)) ?_
            conv => whnf
            exact ⟨(), trivial, (Wk.sub ⟨(by first | rfl | (simp only [List.length_map]; rfl) | simp [PX.get]), (by first | rfl | (simp only [List.length_map]; rfl) | simp [PX.get]), (by first | rfl | (simp only [List.length_map]; rfl) | simp [PX.get]), (by first | rfl | (simp only [List.length_map]; rfl) | simp [PX.get]), trivial⟩ trivial)⟩
          · intro _ _
            conv => whnf
            refine brk_i (fun h => absurd h (by simp)) (fun _ => ?_)
            conv => whnf
            refine CallA_v (wa27) rfl rfl ?_
            conv => whnf
            exact RetA_view 0 rfl ⟨⟨rfl, rfl⟩, rfl⟩
end Go.PX

namespace Go.PX
open Go.Proofs

/- Watch: WatchMissing. -/

theorem wa53 (l : List (List Int)) (m : Int) (hl : l.length < 1000000) (hr : ∀ r ∈ l, r.length < 1000000) : FnV Try.prog 53 [rotaD l, i64 m] (.bool (l.any fun r => decide (m ∈ r))) := by
  refine fnV_of mixed tysOk Try.func53 rfl (ft := ft53) 2 (by decide +kernel) (by rfl) fun {σ} Y st => ?_
  conv => whnf
  refine LoopA_i (T := tys) tysOk (by exact drawsB_spec mixed tysOk (by decide +kernel)) l (fun i (_ : Unit) => ⟨[(0, .d (rotaD l)), (1, .d (i64 m)), (4, .d (.bool false)), (5, .d (i64 i))], [], st⟩)
    (fun i r _ => (l.any fun r => decide (m ∈ r)) = (r.any fun r => decide (m ∈ r))) () (Wk.sub ⟨(by first | rfl | (simp only [List.length_map]; rfl) | simp [PX.get]), (by first | rfl | (simp only [List.length_map]; rfl) | simp [PX.get]), (by first | rfl | (simp only [List.length_map]; rfl) | simp [PX.get]), (by first | rfl | (simp only [List.length_map]; rfl) | simp [PX.get]), trivial⟩ trivial) rfl ?_ ?_
  · intro i x r _ hx hi hr' he
    have hxr := hr x (List.mem_of_getElem? hx)
    rw [List.any_cons] at he
    conv => whnf
    refine brk_i (fun _ => ?_) (fun h => absurd hi (by have := of_decide_eq_false h; simp at this; omega))
    conv => whnf
    refine elemK_nat hx ?_
    conv => whnf
    refine CallA_v (wa49 x m (by omega)) rfl rfl ?_
    conv => whnf
    cases h1 : decide (m ∈ x) with
    | true =>
      conv => whnf
      rw [he, h1]
      exact RetA_view 0 rfl ⟨⟨rfl, rfl⟩, rfl⟩
    | false =>
      rw [h1] at he
      conv => whnf
      refine arith_in (wrap_i64 (by (try dsimp only); omega)) ?_
      conv => whnf
      exact ⟨(), by simpa using he, (Wk.sub ⟨(by first | rfl | (simp only [List.length_map]; rfl) | simp [PX.get]), (by first | rfl | (simp only [List.length_map]; rfl) | simp [PX.get]), (by first | rfl | (simp only [List.length_map]; rfl) | simp [PX.get]), (by first | rfl | (simp only [List.length_map]; rfl) | simp [PX.get]), trivial⟩ trivial)⟩
  · intro _ he
    rw [he]
    conv => whnf
    refine brk_i (fun h => absurd h (by simp)) (fun _ => ?_)
    conv => whnf
    exact RetA_view 0 rfl ⟨⟨rfl, rfl⟩, rfl⟩

theorem miss_zero {c : WCase} (hv : (checkW c).2.2 = 0) {full : List (List Int)} (hg : GoodR c full) (hl : full.length ≤ 12) {fr : Nat} (hf : fr ≤ full.length) : missE c full fr = 0 := by
  have h := hg.good
  unfold goodW at h
  unfold missE
  rw [if_pos (hg.ent hv (by omega)), if_neg (by omega), h]
  rfl

theorem miss_need {c : WCase} (hR : WR c) {full more : List (List Int)} (hg : GoodR c more) {fr : Nat} (ht : more.take fr = full.take fr) (hl : more.length = full.length) {j : Nat} (hj : j < c.men.length) (hn : (j : Int) ∉ missL c full fr) : ((more.drop fr).any fun r => decide ((j : Int) ∈ r)) = true := by
  refine Classical.byContradiction fun hc => hn ?_
  have hall : ∀ r ∈ more.drop fr, (j : Int) ∉ r := by
    intro r hr hm
    exact hc (List.any_eq_true.2 ⟨r, hr, decide_eq_true hm⟩)
  have h1 : goodW c (more.take fr ++ more.drop fr) := by rw [List.take_append_drop]; exact hg.good
  have h2 : goodW c (more.take fr) := walk_app (l2 := more.drop fr) (Int.le_refl 0) h1
  have h3 := (walk_app_iff (l2 := more.drop fr) h2).1.1 h1
  have h4 := but_same hR hj (Int.le_refl 0) h3 fun r hr => ⟨hg.asc r (List.mem_of_mem_drop hr), hall r hr⟩
  rw [ht] at h4
  have hlen : (more.drop fr).length = full.length - fr := by rw [List.length_drop, hl]
  obtain ⟨l', h5, _⟩ := fill0_some (rows := List.replicate (full.length - fr) []) (Int.le_refl 0) (fits_nil hlen) h4 fun r hr => hg.asc r (List.mem_of_mem_drop hr)
  have hcd : canDo c (missT c full fr) (full.length - ((fr : Nat) : Int).toNat) j = true := by
    unfold canDo
    rw [fillW_0, Int.toNat_natCast]
    show (fill0 c (butSet c j) _ (walkF c (allMen c) .zero (full.take fr) 0).2).isSome = true
    rw [h5]; rfl
  unfold missL
  refine List.mem_map.2 ⟨j, List.mem_filter.2 ⟨List.mem_range.2 hj, hcd⟩, rfl⟩

theorem miss_asc (c : WCase) (full : List (List Int)) (fr : Int) : (∀ m ∈ missL c full fr, 0 ≤ m ∧ m < c.men.length) ∧ (missL c full fr).Pairwise (· < ·) := by
  unfold missL
  refine ⟨fun m hm => ?_, ?_⟩
  · obtain ⟨j, hj, rfl⟩ := List.mem_map.1 hm
    have := List.mem_range.1 (List.mem_filter.1 hj).1
    omega
  · rw [List.pairwise_map]
    refine List.Pairwise.imp ?_ (List.Pairwise.filter _ List.pairwise_lt_range)
    intro a b h
    omega

theorem asc_next {l : List Int} (hp : l.Pairwise (· < ·)) {i : Nat} {a b : Int} (ha : l[i]? = some a) (hb : l[i + 1]? = some b) : a < b := by
  obtain ⟨h1, h2⟩ := List.getElem?_eq_some_iff.1 ha
  obtain ⟨h3, h4⟩ := List.getElem?_eq_some_iff.1 hb
  rw [← h2, ← h4]
  exact List.pairwise_iff_getElem.1 hp i (i + 1) h1 h3 (by omega)

theorem wk_ints {σ : Type} {h : Heap} {s : σ} {e : Env} {t : Nat} {l : List Int} (h1 : get e t = some (.d (intsN l))) : Wk (⟨e, h, s⟩ : St σ) ⟨put e t (.d (intsD l)), h, s⟩ := by
  cases l with
  | nil => exact Wk.nilvs t h1
  | cons a r => 
    intro cx rr m L F b w hg
    refine ⟨L, F, hg.sub (fun i v hi => ?_) (fun i v hi => hi), Tr.refl F w⟩
    have hi : get (put e t (.d (intsD (a :: r)))) i = some v := hi
    rw [get_put] at hi
    split at hi
    · rename_i e1
      cases hi
      rw [e1]; exact h1
    · exact hi

theorem wa12 (c : WCase) (x : GapX) (hx : x.Ok) (other : List Int) (ho : ∀ b ∈ other, 0 ≤ b ∧ b ≤ 255) : FnV Try.prog 12 [c.d, x.d, bytesD other] (.bool true) := by
  refine fnV_of mixed tysOk Try.func12 rfl (ft := ft12) 3 (by decide +kernel) (by rfl) fun {σ} Y st => ?_
  conv => whnf
  refine CallA_v (wa43 c) rfl rfl ?_
  conv => whnf
  cases hv : valW c with
  | false =>
    have hc : (checkW c).2.2 ≠ 0 := of_decide_eq_false hv
    conv => whnf
    refine CallA_rep (args' := [.d c.d, .d (rotaD []), .d (i64 0)]) (fun yv L F w l h => by
      obtain ⟨x1, l1, rfl, h1, x2, l2, rfl, h2, h3⟩ := h
      exact ⟨x1, _, rfl, h1, x2, _, rfl, RepD.relax .nils x2 h2, h3⟩) ?_
    refine CallA_v (ds := [c.d, rotaD [], i64 0]) (wa38 c [] 0) rfl rfl ?_
    have hE : missE c [] 0 ≠ 0 := by
      unfold missE
      rw [ent_nil, if_neg hc]; exact hc
    rw [if_neg hE]
    conv => whnf
    refine brk_i (fun _ => ?_) (fun h => absurd h (by simp [hE]))
    conv => whnf
    refine CallA_v (wa27) rfl rfl ?_
    conv => whnf
    exact RetA_view 0 rfl ⟨⟨rfl, rfl⟩, rfl⟩
  | true =>
    have hR := val_WR hv
    have hm := hR.men
    obtain ⟨hb1, hb2, hb3⟩ := hx
    conv => whnf
    refine CallA_v (ds := [c.d, x.d]) (wa51 c hR x ⟨hb1, hb2, hb3⟩) rfl rfl ?_
    obtain ⟨hg, hlen, _⟩ := any_good hR (x := x.rota) (k := x.rows.toNat % 13) (GoodR.nil c)
    have hg : GoodR c (fullF c x) := hg
    have hlen : (fullF c x).length ≤ 12 := by
      have : (fullF c x).length ≤ 0 + x.rows.toNat % 13 := hlen
      omega
    generalize fullF c x = full at hg hlen ⊢
    conv => whnf
    refine arith_in (wrap_i64 (by omega)) ?_
    conv => whnf
    refine arith_to ((full.length + 1 : Nat) : Int) (by simp) (wrap_i64 (by omega)) ?_
    obtain ⟨fr, hfr, hfl⟩ : ∃ fr : Nat, x.empty.tmod ((full.length + 1 : Nat) : Int) = fr ∧ fr ≤ full.length := by
      refine ⟨(x.empty.tmod ((full.length + 1 : Nat) : Int)).toNat, ?_, ?_⟩
      · have := Int.tmod_nonneg ((full.length + 1 : Nat) : Int) hb3.1
        omega
      · have := Int.tmod_lt_of_pos x.empty (b := ((full.length + 1 : Nat) : Int)) (by omega)
        have := Int.tmod_nonneg ((full.length + 1 : Nat) : Int) hb3.1
        omega
    conv => whnf
    rw [hfr]
    refine CallA_v (ds := [c.d, rotaD full, i64 fr]) (wa38 c full fr) rfl rfl ?_
    rw [miss_zero (val_chk hv) hg hlen hfl, if_pos rfl]
    have hneed := fun (more : List (List Int)) (hgm : GoodR c more) (ht : more.take fr = full.take fr) (hl : more.length = full.length) (j : Nat) (hj : j < c.men.length) => miss_need hR hgm ht hl hj
    obtain ⟨hLin, hLp⟩ := miss_asc c full fr
    have hLl : (missL c full fr).length ≤ 5 := by
      unfold missL
      rw [List.length_map]
      exact Nat.le_trans (List.length_filter_le ..) (by rw [List.length_range]; omega)
    generalize missL c full fr = L at hneed hLin hLp hLl ⊢
    have hlm : ((full.map fun r => [intsD r]).length : Int) = full.length := by simp
    conv => whnf
    refine chk_i (by rw [hlm]; simp; omega) ?_
    conv => whnf
    refine chk_i (by cases full <;> rfl) ?_
    conv => whnf
    have htk : (((full.map fun r => [intsD r]).take ((fr : Int)).toNat).drop 0) = (full.take fr).map fun r => [intsD r] := by simp [List.map_take]
    rw [htk, List.length_map]
    have hgt : GoodR c (full.take fr) := GoodR.pre (b := full.drop fr) (by rw [List.take_append_drop]; exact hg)
    have htl : (full.take fr).length = fr := by rw [List.length_take]; omega
    refine DrawCall_v (ds := [c.d, rotaD (full.take fr), bytesD other, i64 full.length]) (wa47 c hR other ho (full.take fr) (by omega) (fun r hr => hgt.rows hR r hr) full.length (by omega)) rfl rfl ?_
    obtain ⟨hgm, hml, l0, hm0⟩ := any_good hR (x := other) (k := full.length - (full.take fr).length) hgt
    have hmt : (anyF c other (full.length - (full.take fr).length) (full.take fr)).take fr = full.take fr := by
      rw [hm0]
      exact List.take_left' htl
    have hml : (anyF c other (full.length - (full.take fr).length) (full.take fr)).length ≤ 12 := by omega
    have hmf : fr ≤ (anyF c other (full.length - (full.take fr).length) (full.take fr)).length := by
      rw [hm0, List.length_append]; omega
    generalize anyF c other (full.length - (full.take fr).length) (full.take fr) = more at hgm hmt hml hmf ⊢
    conv => whnf
    refine LoopA_i (T := tys) tysOk (by exact drawsB_spec mixed tysOk (by decide +kernel)) c.men (fun i (_ : Unit) => ⟨[(3, .ptr 3 0), (6, .d (.bool false)), (9, .d (rotaD full)), (11, .d (i64 fr)), (12, .d (intsD L)), (14, .d (rotaD more)), (15, .d (i64 i))], [(3, .box (.dd c.cells))], st⟩)
      (fun i r _ => True) () ((wk_ints (t := 12) (l := L) rfl).trans (Wk.sub ⟨rfl, rfl, rfl, rfl, rfl, rfl, rfl, trivial⟩ ⟨rfl, trivial⟩)) trivial ?_ ?_
    · intro i y r _ hy hi hr _
      conv => whnf
      refine brk_i (fun _ => ?_) (fun h => absurd hi (by have := of_decide_eq_false h; simp at this; omega))
      conv => whnf
      refine CallA_v (ds := [intsD L, i64 i]) (wa49 L i (by omega)) rfl rfl ?_
      by_cases hin : (i : Int) ∈ L
      · rw [decide_eq_true hin]
        conv => whnf
        refine arith_in (wrap_i64 (by (try dsimp only); omega)) ?_
        conv => whnf
        exact ⟨(), trivial, (Wk.sub ⟨(by first | rfl | (simp only [List.length_map]; rfl) | simp [PX.get]), (by first | rfl | (simp only [List.length_map]; rfl) | simp [PX.get]), (by first | rfl | (simp only [List.length_map]; rfl) | simp [PX.get]), (by first | rfl | (simp only [List.length_map]; rfl) | simp [PX.get]), (by first | rfl | (simp only [List.length_map]; rfl) | simp [PX.get]), (by first | rfl | (simp only [List.length_map]; rfl) | simp [PX.get]), (by first | rfl | (simp only [List.length_map]; rfl) | simp [PX.get]), trivial⟩ ⟨(by first | rfl | (simp only [List.length_map]; rfl) | simp [PX.get]), trivial⟩)⟩
      · rw [decide_eq_false hin]
        conv => whnf
        refine chk_i (by rw [hlm]; simp; omega) ?_
        conv => whnf
        refine chk_i (by cases full <;> rfl) ?_
        conv => whnf
        have hdr : ((full.map fun r => [intsD r]).take ((full.map fun r => [intsD r]).length)).drop ((fr : Int)).toNat = (full.drop fr).map fun r => [intsD r] := by
          rw [List.take_length, List.map_drop, Int.toNat_natCast]
        rw [hdr]
        refine CallA_v (ds := [rotaD (full.drop fr), i64 i]) (wa53 (full.drop fr) i (by rw [List.length_drop]; omega) (fun r hr => (hg.rows hR r (List.mem_of_mem_drop hr)).2)) rfl rfl ?_
        rw [hneed full hg rfl rfl i hi hin]
        conv => whnf
        refine brk_i (fun h1 => ?_) (fun h1 => ?_)
        · have h1 : more.length = full.length := by have := of_decide_eq_true h1; simp at this; omega
          conv => whnf
          refine chk_i (by simp; omega) ?_
          conv => whnf
          refine chk_i (by cases more <;> rfl) ?_
          conv => whnf
          have hdr : ((more.map fun r => [intsD r]).take ((more.map fun r => [intsD r]).length)).drop ((fr : Int)).toNat = (more.drop fr).map fun r => [intsD r] := by
            rw [List.take_length, List.map_drop, Int.toNat_natCast]
          rw [hdr]
          refine CallA_v (ds := [rotaD (more.drop fr), i64 i]) (wa53 (more.drop fr) i (by rw [List.length_drop]; omega) (fun r hr => (hgm.rows hR r (List.mem_of_mem_drop hr)).2)) rfl rfl ?_
          rw [hneed more hgm hmt h1 i hi hin]
          conv => whnf
          refine arith_in (wrap_i64 (by (try dsimp only); omega)) ?_
          conv => whnf
          exact ⟨(), trivial, (Wk.sub ⟨(by first | rfl | (simp only [List.length_map]; rfl) | simp [PX.get]), (by first | rfl | (simp only [List.length_map]; rfl) | simp [PX.get]), (by first | rfl | (simp only [List.length_map]; rfl) | simp [PX.get]), (by first | rfl | (simp only [List.length_map]; rfl) | simp [PX.get]), (by first | rfl | (simp only [List.length_map]; rfl) | simp [PX.get]), (by first | rfl | (simp only [List.length_map]; rfl) | simp [PX.get]), (by first | rfl | (simp only [List.length_map]; rfl) | simp [PX.get]), trivial⟩ ⟨(by first | rfl | (simp only [List.length_map]; rfl) | simp [PX.get]), trivial⟩)⟩
        · conv => whnf
          refine arith_in (wrap_i64 (by (try dsimp only); omega)) ?_
          conv => whnf
          exact ⟨(), trivial, (Wk.sub ⟨(by first | rfl | (simp only [List.length_map]; rfl) | simp [PX.get]), (by first | rfl | (simp only [List.length_map]; rfl) | simp [PX.get]), (by first | rfl | (simp only [List.length_map]; rfl) | simp [PX.get]), (by first | rfl | (simp only [List.length_map]; rfl) | simp [PX.get]), (by first | rfl | (simp only [List.length_map]; rfl) | simp [PX.get]), (by first | rfl | (simp only [List.length_map]; rfl) | simp [PX.get]), (by first | rfl | (simp only [List.length_map]; rfl) | simp [PX.get]), trivial⟩ ⟨(by first | rfl | (simp only [List.length_map]; rfl) | simp [PX.get]), trivial⟩)⟩
    · intro _ _
      conv => whnf
      refine brk_i (fun h => absurd h (by simp)) (fun _ => ?_)
      conv => whnf
      refine LoopA_i (T := tys) tysOk (by exact drawsB_spec mixed tysOk (by decide +kernel)) L (fun i (_ : Unit) => ⟨[(3, .ptr 3 0), (6, .d (.bool false)), (12, .d (intsD L)), (16, .d (i64 i))], [(3, .box (.dd c.cells))], st⟩)
        (fun i r _ => True) () (Wk.sub ⟨(by first | rfl | (simp only [List.length_map]; rfl) | simp [PX.get]), (by first | rfl | (simp only [List.length_map]; rfl) | simp [PX.get]), (by first | rfl | (simp only [List.length_map]; rfl) | simp [PX.get]), (by first | rfl | (simp only [List.length_map]; rfl) | simp [PX.get]), trivial⟩ ⟨(by first | rfl | (simp only [List.length_map]; rfl) | simp [PX.get]), trivial⟩) trivial ?_ ?_
      · intro i y r _ hy hi hr _
        obtain ⟨hy1, hy2⟩ := hLin y (List.mem_of_getElem? hy)
        conv => whnf
        refine brk_i (fun _ => ?_) (fun h => absurd hi (by have := of_decide_eq_false h; simp at this; omega))
        conv => whnf
        refine elemK_nat hy ?_
        conv => whnf
        refine brk_i (fun h => absurd h (by simp; omega)) (fun _ => ?_)
        conv => whnf
        refine elemK_nat hy ?_
        conv => whnf
        refine brk_i (fun h => absurd h (by simp; omega)) (fun _ => ?_)
        conv => whnf
        refine brk_i (fun h1 => ?_) (fun h1 => ?_)
        · have h1 : (i : Int) > 0 := of_decide_eq_true h1
          obtain ⟨k, rfl⟩ : ∃ k, i = k + 1 := ⟨i - 1, by omega⟩
          obtain ⟨z, hz⟩ : ∃ z, L[k]? = some z := ⟨_, List.getElem?_eq_getElem (by omega)⟩
          have hlt := asc_next hLp hz hy
          conv => whnf
          refine elemK_nat hy ?_
          conv => whnf
          refine arith_to ((k : Int)) (by (try dsimp only); omega) (wrap_i64 (by (try dsimp only); omega)) ?_
          conv => whnf
          refine elemK_nat hz ?_
          conv => whnf
          refine brk_i (fun h => absurd h (by simp; omega)) (fun _ => ?_)
          conv => whnf
          refine arith_in (wrap_i64 (by (try dsimp only); omega)) ?_
          conv => whnf
          exact ⟨(), trivial, (Wk.sub ⟨(by first | rfl | (simp only [List.length_map]; rfl) | simp [PX.get]), (by first | rfl | (simp only [List.length_map]; rfl) | simp [PX.get]), (by first | rfl | (simp only [List.length_map]; rfl) | simp [PX.get]), (by first | rfl | (simp only [List.length_map]; rfl) | simp [PX.get]), trivial⟩ ⟨(by first | rfl | (simp only [List.length_map]; rfl) | simp [PX.get]), trivial⟩)⟩
        · conv => whnf
          refine arith_in (wrap_i64 (by (try dsimp only); omega)) ?_
          conv => whnf
          exact ⟨(), trivial, (Wk.sub ⟨(by first | rfl | (simp only [List.length_map]; rfl) | simp [PX.get]), (by first | rfl | (simp only [List.length_map]; rfl) | simp [PX.get]), (by first | rfl | (simp only [List.length_map]; rfl) | simp [PX.get]), (by first | rfl | (simp only [List.length_map]; rfl) | simp [PX.get]), trivial⟩ ⟨(by first | rfl | (simp only [List.length_map]; rfl) | simp [PX.get]), trivial⟩)⟩
      · intro _ _
        conv => whnf
        refine brk_i (fun h => absurd h (by simp)) (fun _ => ?_)
        conv => whnf
        refine CallA_v (wa27) rfl rfl ?_
        conv => whnf
        exact RetA_view 0 rfl ⟨⟨rfl, rfl⟩, rfl⟩
end Go.PX

namespace Go.PX
open Go.Proofs

/- Watch: WatchFilled. -/

def befRow : List Int → List Int → Option Bool
  | x :: a, y :: b => if x = y then befRow a b else some (decide (x < y))
  | _, _ => none

def befF : List (List Int) → List (List Int) → Bool
  | a :: r, b :: s => match befRow a b with
    | some x => x
    | none => befF r s
  | _, _ => false

theorem wa52 (a b : List (List Int)) (ha : a.length < 1000000) (hl : a.length = b.length) (hr : ∀ (i : Nat) x y, a[i]? = some x → b[i]? = some y → x.length = y.length ∧ x.length < 1000000) : FnV Try.prog 52 [rotaD a, rotaD b] (.bool (befF a b)) := by
  refine fnV_of mixed tysOk Try.func52 rfl (ft := ft52) 2 (by decide +kernel) (by rfl) fun {σ} Y st => ?_
  conv => whnf
  refine LoopA_i (T := tys) tysOk (by exact drawsB_spec mixed tysOk (by decide +kernel)) a (fun i (_ : Unit) => ⟨[(0, .d (rotaD a)), (1, .d (rotaD b)), (4, .d (.bool false)), (5, .d (i64 i))], [], st⟩)
    (fun i r _ => befF a b = befF r (b.drop i)) () (Wk.sub ⟨(by first | rfl | (simp only [List.length_map]; rfl) | simp [PX.get]), (by first | rfl | (simp only [List.length_map]; rfl) | simp [PX.get]), (by first | rfl | (simp only [List.length_map]; rfl) | simp [PX.get]), (by first | rfl | (simp only [List.length_map]; rfl) | simp [PX.get]), trivial⟩ trivial) rfl ?_ ?_
  · intro i x r _ hx hi hr' he
    have hib : i < b.length := by omega
    obtain ⟨y, hy⟩ : ∃ y, b[i]? = some y := ⟨_, List.getElem?_eq_getElem hib⟩
    have hdb : b.drop i = y :: b.drop (i + 1) := by
      rw [List.drop_eq_getElem_cons hib]
      rw [List.getElem?_eq_getElem hib] at hy
      rw [Option.some.inj hy]
    obtain ⟨hxy, hxl⟩ := hr i x y hx hy
    rw [hdb, befF] at he
    conv => whnf
    refine brk_i (fun _ => ?_) (fun h => absurd hi (by have := of_decide_eq_false h; simp at this; omega))
    conv => whnf
    refine LoopA_i (T := tys) tysOk (by exact drawsB_spec mixed tysOk (by decide +kernel)) x (fun k (_ : Unit) => ⟨[(0, .d (rotaD a)), (1, .d (rotaD b)), (4, .d (.bool false)), (5, .d (i64 i)), (6, .d (i64 k))], [], st⟩)
      (fun k s _ => befF a b = (match befRow s (y.drop k) with
        | some z => z
        | none => befF r (b.drop (i + 1)))) () (Wk.sub ⟨(by first | rfl | (simp only [List.length_map]; rfl) | simp [PX.get]), (by first | rfl | (simp only [List.length_map]; rfl) | simp [PX.get]), (by first | rfl | (simp only [List.length_map]; rfl) | simp [PX.get]), (by first | rfl | (simp only [List.length_map]; rfl) | simp [PX.get]), (by first | rfl | (simp only [List.length_map]; rfl) | simp [PX.get]), trivial⟩ trivial) he ?_ ?_
    · intro k u s _ hu hk hs' he2
      have hky : k < y.length := by omega
      obtain ⟨v, hv⟩ : ∃ v, y[k]? = some v := ⟨_, List.getElem?_eq_getElem hky⟩
      have hdy : y.drop k = v :: y.drop (k + 1) := by
        rw [List.drop_eq_getElem_cons hky]
        rw [List.getElem?_eq_getElem hky] at hv
        rw [Option.some.inj hv]
      rw [hdy, befRow] at he2
      conv => whnf
      refine elemK_nat hx ?_
      conv => whnf
      refine brk_i (fun _ => ?_) (fun h => absurd hk (by have := of_decide_eq_false h; simp at this; omega))
      conv => whnf
      refine elemK_nat hx ?_
      conv => whnf
      refine elemK_nat hu ?_
      conv => whnf
      refine elemK_nat hy ?_
      conv => whnf
      refine elemK_nat hv ?_
      conv => whnf
      by_cases huv : u = v
      · rw [if_pos huv] at he2
        refine brk_i (fun h => absurd h (by simp [huv])) (fun _ => ?_)
        conv => whnf
        refine arith_in (wrap_i64 (by (try dsimp only); omega)) ?_
        conv => whnf
        exact ⟨(), he2, (Wk.sub ⟨(by first | rfl | (simp only [List.length_map]; rfl) | simp [PX.get]), (by first | rfl | (simp only [List.length_map]; rfl) | simp [PX.get]), (by first | rfl | (simp only [List.length_map]; rfl) | simp [PX.get]), (by first | rfl | (simp only [List.length_map]; rfl) | simp [PX.get]), (by first | rfl | (simp only [List.length_map]; rfl) | simp [PX.get]), trivial⟩ trivial)⟩
      · rw [if_neg huv] at he2
        refine brk_i (fun _ => ?_) (fun h => absurd h (by simp [huv]))
        conv => whnf
        refine elemK_nat hx ?_
        conv => whnf
        refine elemK_nat hu ?_
        conv => whnf
        refine elemK_nat hy ?_
        conv => whnf
        refine elemK_nat hv ?_
        conv => whnf
        rw [he2]
        exact RetA_view 0 rfl ⟨⟨rfl, rfl⟩, rfl⟩
    · intro _ he2
      have he2 : befF a b = befF r (b.drop (i + 1)) := by simpa [befRow] using he2
      conv => whnf
      refine elemK_nat hx ?_
      conv => whnf
      refine brk_i (fun h => absurd h (by simp)) (fun _ => ?_)
      conv => whnf
      refine arith_in (wrap_i64 (by (try dsimp only); omega)) ?_
      conv => whnf
      exact ⟨(), he2, (Wk.sub ⟨(by first | rfl | (simp only [List.length_map]; rfl) | simp [PX.get]), (by first | rfl | (simp only [List.length_map]; rfl) | simp [PX.get]), (by first | rfl | (simp only [List.length_map]; rfl) | simp [PX.get]), (by first | rfl | (simp only [List.length_map]; rfl) | simp [PX.get]), trivial⟩ trivial)⟩
  · intro _ he
    have he : befF a b = false := by rw [he]; rfl
    rw [he]
    conv => whnf
    refine brk_i (fun h => absurd h (by simp)) (fun _ => ?_)
    conv => whnf
    exact RetA_view 0 rfl ⟨⟨rfl, rfl⟩, rfl⟩

theorem bef_same : ∀ a : List Int, befRow a a = none
  | [] => rfl
  | x :: a => by rw [befRow, if_pos rfl, bef_same a]

theorem bef_lt : ∀ {a b : List Int}, rowLt a b → befRow b a = some false
  | x :: a, y :: b, h => by
    rw [befRow]
    rcases h with h | ⟨h1, h2⟩
    · rw [if_neg (by omega), decide_eq_false (by omega)]
    · rw [if_pos h1.symm, bef_lt h2]
  | [], _, h => h.elim
  | _ :: _, [], h => h.elim

theorem bef_le : ∀ {a b : List (List Int)}, leR a b → befF b a = false
  | x :: a, y :: b, h => by
    rw [befF]
    rcases h with h | ⟨h1, h2⟩
    · rw [bef_lt h]
    · rw [h1, bef_same]
      exact bef_le h2
  | [], [], _ => rfl
  | [], _ :: _, _ => rfl
  | _ :: _, [], _ => rfl

theorem good_row {c : WCase} (hR : WR c) {rota : List (List Int)} (h : GoodR c rota) {i : Nat} {r : List Int} (hr : rota[i]? = some r) : r.length = (slotOf c i).men.toNat := by
  have hi : i < rota.length := (List.getElem?_eq_some_iff.1 hr).1
  have hs : rota = rota.take i ++ (r :: rota.drop (i + 1)) := by
    rw [List.getElem?_eq_getElem hi] at hr
    rw [← Option.some.inj hr, ← List.drop_eq_getElem_cons hi, List.take_append_drop]
  have hg : goodW c (rota.take i ++ (r :: rota.drop (i + 1))) := by rw [← hs]; exact h.good
  have hg1 : GoodR c (rota.take i) := GoodR.pre (b := r :: rota.drop (i + 1)) (by rw [← hs]; exact h)
  have h2 := (walk_app_iff (l2 := r :: rota.drop (i + 1)) hg1.good).1.1 hg
  rw [walkF] at h2
  split at h2
  · rename_i h3
    have h4 := why_men h3
    have h5 : slotAt c (walkF c (allMen c) .zero (rota.take i) 0).2 = slotOf c i := by
      have h6 := end_slot hR hg1.good
      rw [List.length_take, show min i rota.length = i by omega] at h6
      show ((c.slots[(endT c (rota.take i)).slot.toNat]?).getD ⟨0, 0⟩) = _
      rw [h6]; rfl
    rw [← h4, h5]
  · simp only at h2; omega

theorem gapsF_len (e : Int) : ∀ (l : List (List Int)) (i : Nat), (gapsF e i l).length = l.length
  | [], _ => rfl
  | r :: l, i => by rw [gapsF, List.length_cons, gapsF_len e l, List.length_cons]

theorem gaps_fit (e : Int) : ∀ (l : List (List Int)) (i : Nat), fitsL (gapsF e i l) l = true
  | [], _ => rfl
  | r :: l, i => by
    rw [gapsF, fitsL, gaps_fit e l]
    split
    · rfl
    · simp [fitsG]

theorem gaps_asc {n : Int} (e : Int) : ∀ (l : List (List Int)) (i : Nat), (∀ r ∈ l, ascF n (-1) r = 0) → ∀ r ∈ gapsF e i l, ascF n (-1) r = 0
  | [], _, _, r, h => by cases h
  | x :: l, i, hl, r, h => by
    rw [gapsF] at h
    rcases List.mem_cons.1 h with rfl | h
    · split
      · rfl
      · exact hl x (by simp)
    · exact gaps_asc e l (i + 1) (fun r hr => hl r (by simp [hr])) r h

theorem emptyN_le (l : List (List Int)) : emptyN l ≤ l.length := List.length_filter_le ..

theorem fits_get : ∀ {R g : List (List Int)} {i : Nat} {x y : List Int}, fitsL R g = true → R[i]? = some x → g[i]? = some y → x = [] ∨ x = y
  | [], _, i, x, y, _, h, _ => by cases h
  | _ :: _, [], i, x, y, h, _, _ => by cases h
  | a :: R, b :: g, 0, x, y, h, hx, hy => by
    rw [fitsL, Bool.and_eq_true] at h
    have h1 := h.1
    simp only [List.getElem?_cons_zero, Option.some.injEq] at hx hy
    subst hx; subst hy
    unfold fitsG at h1
    rw [Bool.or_eq_true] at h1
    rcases h1 with h1 | h1
    · left; exact List.length_eq_zero_iff.1 (of_decide_eq_true h1)
    · right; exact of_decide_eq_true h1
  | a :: R, b :: g, i + 1, x, y, h, hx, hy => by
    rw [fitsL, Bool.and_eq_true] at h
    exact fits_get h.2 (by simpa using hx) (by simpa using hy)

theorem fits_len : ∀ {R g : List (List Int)}, fitsL R g = true → R.length = g.length
  | [], [], _ => rfl
  | _ :: _, [], h => by cases h
  | [], _ :: _, h => by cases h
  | a :: R, b :: g, h => by
    rw [fitsL, Bool.and_eq_true] at h
    simp [fits_len h.2]

/-- What Fill makes of a good rota with gaps. -/
structure Filled (c : WCase) (full gaps l : List (List Int)) : Prop where
  good : GoodR c l
  fits : fitsL gaps l = true
  le : leR l full
  len : l.length = full.length

theorem fill_law {c : WCase} (hv : (checkW c).2.2 = 0) (e : Int) {full : List (List Int)} (hg : GoodR c full) (hl : full.length ≤ 12) : fillE c (gapsF e 0 full) = 0 ∧ Filled c full (gapsF e 0 full) (fillL c (gapsF e 0 full)) := by
  have hR := wR hv
  obtain ⟨l, h1, h2⟩ := fill0_some (Int.le_refl 0) (gaps_fit e full 0) hg.good hg.asc
  obtain ⟨h3, h4, h5⟩ := fill0_ok (i := 0) h1
  have hfr : fillR c (gapsF e 0 full) = some l := by unfold fillR; rw [fillW_0]; exact h1
  have hent : entE c (gapsF e 0 full) = 0 := by
    unfold entE
    rw [if_pos hv, if_neg (by rw [gapsF_len]; omega)]
    exact err_all (gaps_asc e full 0 hg.asc)
  have hem : ¬ ((emptyN (gapsF e 0 full) : Int) > 12) := by
    have := emptyN_le (gapsF e 0 full)
    rw [gapsF_len] at this
    omega
  refine ⟨by unfold fillE; rw [if_pos hent, if_neg hem, hfr]; rfl, ?_⟩
  have hfl : fillL c (gapsF e 0 full) = l := by unfold fillL; rw [hfr]; rfl
  rw [hfl]
  exact ⟨⟨h4, h5⟩, h3, h2, by rw [← fits_len h3, gapsF_len]⟩
end Go.PX

namespace Go.PX
open Go.Proofs

/- Watch: WatchFilled, walked. -/

theorem asc_next2 {n : Int} {l : List Int} : ∀ {last : Int}, ascF n last l = 0 → ∀ {i : Nat} {a b : Int}, l[i]? = some a → l[i + 1]? = some b → a < b := by
  induction l with
  | nil => intro last _ i a b ha _; cases ha
  | cons x l ih =>
    intro last h i a b ha hb
    rw [ascF] at h
    split at h
    case isFalse => cases h
    split at h
    · cases h
    cases i with
    | zero =>
      simp only [List.getElem?_cons_zero, Option.some.injEq] at ha
      subst ha
      exact asc_ge h b (List.mem_of_getElem? (by simpa using hb))
    | succ i => exact ih h (by simpa using ha) (by simpa using hb)

theorem one_of {α : Type} {l : List α} {i : Nat} {y : α} (h : l[i]? = some y) : (l.take (i + 1)).drop i = [y] := by
  obtain ⟨h1, h2⟩ := List.getElem?_eq_some_iff.1 h
  rw [List.take_succ, h, List.drop_append_of_le_length (by rw [List.length_take]; omega), List.drop_eq_nil_of_le (by rw [List.length_take]; omega)]
  rfl

theorem wa11 (c : WCase) (x : GapX) (hx : x.Ok) : FnV Try.prog 11 [c.d, x.d] (.bool true) := by
  refine fnV_of mixed tysOk Try.func11 rfl (ft := ft11) 2 (by decide +kernel) (by rfl) fun {σ} Y st => ?_
  conv => whnf
  refine CallA_v (wa43 c) rfl rfl ?_
  conv => whnf
  cases hv : valW c with
  | false =>
    have hc : (checkW c).2.2 ≠ 0 := of_decide_eq_false hv
    conv => whnf
    refine CallA_nil1 ?_
    refine CallA_v (ds := [c.d, rotaD []]) (wa36 c []) rfl rfl ?_
    have hE : fillE c [] ≠ 0 := by
      unfold fillE
      rw [ent_nil, if_neg hc]; exact hc
    rw [if_neg hE]
    conv => whnf
    refine brk_i (fun _ => ?_) (fun h => absurd h (by simp [hE]))
    conv => whnf
    refine CallA_v (wa27) rfl rfl ?_
    conv => whnf
    exact RetA_view 0 rfl ⟨⟨rfl, rfl⟩, rfl⟩
  | true =>
    have hR := val_WR hv
    have hm := hR.men
    conv => whnf
    refine CallA_v (ds := [c.d, x.d]) (wa51 c hR x hx) rfl rfl ?_
    obtain ⟨hg, hlen, _⟩ := any_good hR (x := x.rota) (k := x.rows.toNat % 13) (GoodR.nil c)
    have hg : GoodR c (fullF c x) := hg
    have hlen : (fullF c x).length ≤ 12 := by
      have : (fullF c x).length ≤ 0 + x.rows.toNat % 13 := hlen
      omega
    generalize fullF c x = full at hg hlen ⊢
    obtain ⟨hfe, hfl⟩ := fill_law (val_chk hv) x.empty hg hlen
    have hgl := gapsF_len x.empty full 0
    generalize gapsF x.empty 0 full = gaps at hfe hfl hgl ⊢
    conv => whnf
    refine CallA_v (ds := [c.d, rotaD gaps]) (wa36 c gaps) rfl rfl ?_
    rw [hfe, if_pos rfl]
    generalize fillL c gaps = l at hfl ⊢
    obtain ⟨hgood, hfits, hle, hll⟩ := hfl
    have hglm : (((gaps.map fun r => [intsD r]).length : Nat) : Int) = gaps.length := by simp
    have hllm : (((l.map fun r => [intsD r]).length : Nat) : Int) = l.length := by simp
    have hrow : ∀ (i : Nat) y z, l[i]? = some y → full[i]? = some z → y.length = z.length := fun i y z hy hz => by
      rw [good_row hR hgood hy, good_row hR hg hz]
    conv => whnf
    refine brk_i (fun h => absurd h (by simp; omega)) (fun _ => ?_)
    conv => whnf
    refine LoopA_i (T := tys) tysOk (by exact drawsB_spec mixed tysOk (by decide +kernel)) l (fun i (_ : Unit) => ⟨[(2, .ptr 2 0), (4, .d (.bool false)), (7, .d (rotaD full)), (8, .d (rotaD gaps)), (9, .d (rotaD l)), (11, .d (i64 i))], [(2, .box (.dd c.cells))], st⟩)
      (fun i r _ => True) () (Wk.sub ⟨(by first | rfl | (simp only [List.length_map]; rfl) | simp [PX.get]), (by first | rfl | (simp only [List.length_map]; rfl) | simp [PX.get]), (by first | rfl | (simp only [List.length_map]; rfl) | simp [PX.get]), (by first | rfl | (simp only [List.length_map]; rfl) | simp [PX.get]), (by first | rfl | (simp only [List.length_map]; rfl) | simp [PX.get]), (by first | rfl | (simp only [List.length_map]; rfl) | simp [PX.get]), trivial⟩ ⟨(by first | rfl | (simp only [List.length_map]; rfl) | simp [PX.get]), trivial⟩) trivial ?_ ?_
    · intro i y r _ hy hi hr2 _
      obtain ⟨z, hz⟩ : ∃ z, full[i]? = some z := ⟨_, List.getElem?_eq_getElem (by omega)⟩
      obtain ⟨u, hu⟩ : ∃ u, gaps[i]? = some u := ⟨_, List.getElem?_eq_getElem (by omega)⟩
      have hyz := hrow i y z hy hz
      have hya := hgood.asc y (List.mem_of_getElem? hy)
      have hyin := asc_in hya
      have hyl := (hgood.rows hR y (List.mem_of_getElem? hy)).2
      conv => whnf
      refine brk_i (fun _ => ?_) (fun h => absurd hi (by have := of_decide_eq_false h; simp at this; omega))
      conv => whnf
      refine elemK_nat hy ?_
      conv => whnf
      refine elemK_nat hz ?_
      conv => whnf
      refine brk_i (fun h => absurd h (by simp; omega)) (fun _ => ?_)
      conv => whnf
      refine elemK_nat hu ?_
      conv => whnf
      refine brk_i (fun h1 => ?_) (fun h1 => ?_)
      · have h1 : u ≠ [] := by rintro rfl; simp at h1
        have huy : u = y := by
          rcases fits_get hfits hu hy with h | h
          · exact absurd h h1
          · exact h
        conv => whnf
        refine arith_to ((i + 1 : Nat) : Int) (by omega) (wrap_i64 (by omega)) ?_
        conv => whnf
        refine chk_i (by rw [hllm]; simp; omega) ?_
        conv => whnf
        refine chk_i (by simp; omega) ?_
        conv => whnf
        refine chk_i (by cases l <;> rfl) ?_
        conv => whnf
        refine arith_to ((i + 1 : Nat) : Int) (by omega) (wrap_i64 (by omega)) ?_
        conv => whnf
        refine chk_i (by rw [hglm]; simp; omega) ?_
        conv => whnf
        refine chk_i (by simp; omega) ?_
        conv => whnf
        refine chk_i (by cases gaps <;> rfl) ?_
        conv => whnf
        have hs1 : ((l.map fun r => [intsD r]).take ((i + 1 : Nat) : Int).toNat).drop ((i : Int)).toNat = [y].map fun r => [intsD r] := by
          rw [Int.toNat_natCast, Int.toNat_natCast, ← List.map_take, ← List.map_drop, one_of hy]
        have hs2 : ((gaps.map fun r => [intsD r]).take ((i + 1 : Nat) : Int).toNat).drop ((i : Int)).toNat = [u].map fun r => [intsD r] := by
          rw [Int.toNat_natCast, Int.toNat_natCast, ← List.map_take, ← List.map_drop, one_of hu]
        rw [hs1, hs2]
        refine DrawCall_v (ds := [rotaD [y], rotaD [u]]) (wa24 [y] [u] (by simp) (by simpa using hyl)) rfl rfl ?_
        rw [decide_eq_true (show [y] = [u] by rw [huy])]
        conv => whnf
        refine LoopA_i (T := tys) tysOk (by exact drawsB_spec mixed tysOk (by decide +kernel)) y (fun k (_ : Unit) => ⟨[(2, .ptr 2 0), (4, .d (.bool false)), (7, .d (rotaD full)), (8, .d (rotaD gaps)), (9, .d (rotaD l)), (11, .d (i64 i)), (12, .d (i64 k))], [(2, .box (.dd c.cells))], st⟩)
          (fun k r _ => True) () (Wk.sub ⟨(by first | rfl | (simp only [List.length_map]; rfl) | simp [PX.get]), (by first | rfl | (simp only [List.length_map]; rfl) | simp [PX.get]), (by first | rfl | (simp only [List.length_map]; rfl) | simp [PX.get]), (by first | rfl | (simp only [List.length_map]; rfl) | simp [PX.get]), (by first | rfl | (simp only [List.length_map]; rfl) | simp [PX.get]), (by first | rfl | (simp only [List.length_map]; rfl) | simp [PX.get]), (by first | rfl | (simp only [List.length_map]; rfl) | simp [PX.get]), trivial⟩ ⟨(by first | rfl | (simp only [List.length_map]; rfl) | simp [PX.get]), trivial⟩) trivial ?_ ?_
        · intro k v r _ hk hki hr _
          obtain ⟨hv1, hv2⟩ := hyin v (List.mem_of_getElem? hk)
          conv => whnf
          refine elemK_nat hy ?_
          conv => whnf
          refine brk_i (fun _ => ?_) (fun h => absurd hki (by have := of_decide_eq_false h; simp at this; omega))
          conv => whnf
          refine elemK_nat hy ?_
          conv => whnf
          refine elemK_nat hk ?_
          conv => whnf
          refine brk_i (fun h => absurd h (by simp; omega)) (fun _ => ?_)
          conv => whnf
          refine elemK_nat hy ?_
          conv => whnf
          refine elemK_nat hk ?_
          conv => whnf
          refine brk_i (fun h => absurd h (by simp; omega)) (fun _ => ?_)
          conv => whnf
          refine brk_i (fun h1 => ?_) (fun h1 => ?_)
          · have h1 : (k : Int) > 0 := of_decide_eq_true h1
            obtain ⟨j, rfl⟩ : ∃ j, k = j + 1 := ⟨k - 1, by omega⟩
            obtain ⟨w, hw⟩ : ∃ w, y[j]? = some w := ⟨_, List.getElem?_eq_getElem (by omega)⟩
            have hlt := asc_next2 hya hw hk
            conv => whnf
            refine elemK_nat hy ?_
            conv => whnf
            refine elemK_nat hk ?_
            conv => whnf
            refine elemK_nat hy ?_
            conv => whnf
            refine arith_to ((j : Int)) (by (try dsimp only); omega) (wrap_i64 (by (try dsimp only); omega)) ?_
            conv => whnf
            refine elemK_nat hw ?_
            conv => whnf
            refine brk_i (fun h => absurd h (by simp; omega)) (fun _ => ?_)
            conv => whnf
            refine arith_in (wrap_i64 (by (try dsimp only); omega)) ?_
            conv => whnf
            exact ⟨(), trivial, (Wk.sub ⟨(by first | rfl | (simp only [List.length_map]; rfl) | simp [PX.get]), (by first | rfl | (simp only [List.length_map]; rfl) | simp [PX.get]), (by first | rfl | (simp only [List.length_map]; rfl) | simp [PX.get]), (by first | rfl | (simp only [List.length_map]; rfl) | simp [PX.get]), (by first | rfl | (simp only [List.length_map]; rfl) | simp [PX.get]), (by first | rfl | (simp only [List.length_map]; rfl) | simp [PX.get]), (by first | rfl | (simp only [List.length_map]; rfl) | simp [PX.get]), trivial⟩ ⟨(by first | rfl | (simp only [List.length_map]; rfl) | simp [PX.get]), trivial⟩)⟩
          · conv => whnf
            refine arith_in (wrap_i64 (by (try dsimp only); omega)) ?_
            conv => whnf
            exact ⟨(), trivial, (Wk.sub ⟨(by first | rfl | (simp only [List.length_map]; rfl) | simp [PX.get]), (by first | rfl | (simp only [List.length_map]; rfl) | simp [PX.get]), (by first | rfl | (simp only [List.length_map]; rfl) | simp [PX.get]), (by first | rfl | (simp only [List.length_map]; rfl) | simp [PX.get]), (by first | rfl | (simp only [List.length_map]; rfl) | simp [PX.get]), (by first | rfl | (simp only [List.length_map]; rfl) | simp [PX.get]), (by first | rfl | (simp only [List.length_map]; rfl) | simp [PX.get]), trivial⟩ ⟨(by first | rfl | (simp only [List.length_map]; rfl) | simp [PX.get]), trivial⟩)⟩
        · intro _ _
          conv => whnf
          refine elemK_nat hy ?_
          conv => whnf
          refine brk_i (fun h => absurd h (by simp)) (fun _ => ?_)
          conv => whnf
          refine arith_in (wrap_i64 (by (try dsimp only); omega)) ?_
          conv => whnf
          exact ⟨(), trivial, (Wk.sub ⟨(by first | rfl | (simp only [List.length_map]; rfl) | simp [PX.get]), (by first | rfl | (simp only [List.length_map]; rfl) | simp [PX.get]), (by first | rfl | (simp only [List.length_map]; rfl) | simp [PX.get]), (by first | rfl | (simp only [List.length_map]; rfl) | simp [PX.get]), (by first | rfl | (simp only [List.length_map]; rfl) | simp [PX.get]), (by first | rfl | (simp only [List.length_map]; rfl) | simp [PX.get]), trivial⟩ ⟨(by first | rfl | (simp only [List.length_map]; rfl) | simp [PX.get]), trivial⟩)⟩
      · conv => whnf
        refine LoopA_i (T := tys) tysOk (by exact drawsB_spec mixed tysOk (by decide +kernel)) y (fun k (_ : Unit) => ⟨[(2, .ptr 2 0), (4, .d (.bool false)), (7, .d (rotaD full)), (8, .d (rotaD gaps)), (9, .d (rotaD l)), (11, .d (i64 i)), (12, .d (i64 k))], [(2, .box (.dd c.cells))], st⟩)
          (fun k r _ => True) () (Wk.sub ⟨(by first | rfl | (simp only [List.length_map]; rfl) | simp [PX.get]), (by first | rfl | (simp only [List.length_map]; rfl) | simp [PX.get]), (by first | rfl | (simp only [List.length_map]; rfl) | simp [PX.get]), (by first | rfl | (simp only [List.length_map]; rfl) | simp [PX.get]), (by first | rfl | (simp only [List.length_map]; rfl) | simp [PX.get]), (by first | rfl | (simp only [List.length_map]; rfl) | simp [PX.get]), (by first | rfl | (simp only [List.length_map]; rfl) | simp [PX.get]), trivial⟩ ⟨(by first | rfl | (simp only [List.length_map]; rfl) | simp [PX.get]), trivial⟩) trivial ?_ ?_
        · intro k v r _ hk hki hr _
          obtain ⟨hv1, hv2⟩ := hyin v (List.mem_of_getElem? hk)
          conv => whnf
          refine elemK_nat hy ?_
          conv => whnf
          refine brk_i (fun _ => ?_) (fun h => absurd hki (by have := of_decide_eq_false h; simp at this; omega))
          conv => whnf
          refine elemK_nat hy ?_
          conv => whnf
          refine elemK_nat hk ?_
          conv => whnf
          refine brk_i (fun h => absurd h (by simp; omega)) (fun _ => ?_)
          conv => whnf
          refine elemK_nat hy ?_
          conv => whnf
          refine elemK_nat hk ?_
          conv => whnf
          refine brk_i (fun h => absurd h (by simp; omega)) (fun _ => ?_)
          conv => whnf
          refine brk_i (fun h1 => ?_) (fun h1 => ?_)
          · have h1 : (k : Int) > 0 := of_decide_eq_true h1
            obtain ⟨j, rfl⟩ : ∃ j, k = j + 1 := ⟨k - 1, by omega⟩
            obtain ⟨w, hw⟩ : ∃ w, y[j]? = some w := ⟨_, List.getElem?_eq_getElem (by omega)⟩
            have hlt := asc_next2 hya hw hk
            conv => whnf
            refine elemK_nat hy ?_
            conv => whnf
            refine elemK_nat hk ?_
            conv => whnf
            refine elemK_nat hy ?_
            conv => whnf
            refine arith_to ((j : Int)) (by (try dsimp only); omega) (wrap_i64 (by (try dsimp only); omega)) ?_
            conv => whnf
            refine elemK_nat hw ?_
            conv => whnf
            refine brk_i (fun h => absurd h (by simp; omega)) (fun _ => ?_)
            conv => whnf
            refine arith_in (wrap_i64 (by (try dsimp only); omega)) ?_
            conv => whnf
            exact ⟨(), trivial, (Wk.sub ⟨(by first | rfl | (simp only [List.length_map]; rfl) | simp [PX.get]), (by first | rfl | (simp only [List.length_map]; rfl) | simp [PX.get]), (by first | rfl | (simp only [List.length_map]; rfl) | simp [PX.get]), (by first | rfl | (simp only [List.length_map]; rfl) | simp [PX.get]), (by first | rfl | (simp only [List.length_map]; rfl) | simp [PX.get]), (by first | rfl | (simp only [List.length_map]; rfl) | simp [PX.get]), (by first | rfl | (simp only [List.length_map]; rfl) | simp [PX.get]), trivial⟩ ⟨(by first | rfl | (simp only [List.length_map]; rfl) | simp [PX.get]), trivial⟩)⟩
          · conv => whnf
            refine arith_in (wrap_i64 (by (try dsimp only); omega)) ?_
            conv => whnf
            exact ⟨(), trivial, (Wk.sub ⟨(by first | rfl | (simp only [List.length_map]; rfl) | simp [PX.get]), (by first | rfl | (simp only [List.length_map]; rfl) | simp [PX.get]), (by first | rfl | (simp only [List.length_map]; rfl) | simp [PX.get]), (by first | rfl | (simp only [List.length_map]; rfl) | simp [PX.get]), (by first | rfl | (simp only [List.length_map]; rfl) | simp [PX.get]), (by first | rfl | (simp only [List.length_map]; rfl) | simp [PX.get]), (by first | rfl | (simp only [List.length_map]; rfl) | simp [PX.get]), trivial⟩ ⟨(by first | rfl | (simp only [List.length_map]; rfl) | simp [PX.get]), trivial⟩)⟩
        · intro _ _
          conv => whnf
          refine elemK_nat hy ?_
          conv => whnf
          refine brk_i (fun h => absurd h (by simp)) (fun _ => ?_)
          conv => whnf
          refine arith_in (wrap_i64 (by (try dsimp only); omega)) ?_
          conv => whnf
          exact ⟨(), trivial, (Wk.sub ⟨(by first | rfl | (simp only [List.length_map]; rfl) | simp [PX.get]), (by first | rfl | (simp only [List.length_map]; rfl) | simp [PX.get]), (by first | rfl | (simp only [List.length_map]; rfl) | simp [PX.get]), (by first | rfl | (simp only [List.length_map]; rfl) | simp [PX.get]), (by first | rfl | (simp only [List.length_map]; rfl) | simp [PX.get]), (by first | rfl | (simp only [List.length_map]; rfl) | simp [PX.get]), trivial⟩ ⟨(by first | rfl | (simp only [List.length_map]; rfl) | simp [PX.get]), trivial⟩)⟩
    · intro _ _
      conv => whnf
      refine brk_i (fun h => absurd h (by simp)) (fun _ => ?_)
      conv => whnf
      refine CallA_v (ds := [c.d, rotaD l]) (wa44 c hR l (by omega) (hgood.rows hR)) rfl rfl ?_
      have hgw := hgood.good
      unfold goodW at hgw
      rw [hgw]
      conv => whnf
      refine CallA_v (ds := [rotaD full, rotaD l]) (wa52 full l (by omega) hll.symm (fun i y z hy hz => ⟨(hrow i z y hz hy).symm, (hg.rows hR y (List.mem_of_getElem? hy)).2⟩)) rfl rfl ?_
      rw [bef_le hle]
      conv => whnf
      refine CallA_v (wa27) rfl rfl ?_
      conv => whnf
      exact RetA_view 0 rfl ⟨⟨rfl, rfl⟩, rfl⟩
end Go.PX
