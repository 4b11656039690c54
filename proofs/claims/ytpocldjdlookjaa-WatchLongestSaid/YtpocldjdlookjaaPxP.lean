import Derived.Test.YtpocldjdlookjaaPxO
import Derived.Test.YtpocldjdlookjaaPxJ
set_option linter.all false
set_option maxRecDepth 10000
namespace Go.PX
open Go.Proofs

/- Watch: cases that are alike: a rota of the one goes on in the other. -/

theorem why_of {c : WCase} {set : Int} {t : Tired} {s : Slot} {p : List Int} (h1 : (p.length : Int) = s.men) (h2 : ∃ m ∈ p, (manAt c m).kind ≥ s.least) (h3 : ∀ m ∈ p, inSet set m = true ∧ t.slot ∉ (manAt c m).no) (h4 : ∀ m ∈ p, t.get m.toNat < c.run) (h5 : ∀ m ∈ p, 0 ≤ t.get m.toNat) : (whyF c set t s p).1 = 0 := by
  unfold whyF
  rw [if_neg (by simpa using h1)]
  have e2 : (p.any fun m => decide ((manAt c m).kind ≥ s.least)) = true := by
    obtain ⟨m, hm, hk⟩ := h2
    exact List.any_eq_true.2 ⟨m, hm, decide_eq_true hk⟩
  rw [e2, if_neg (by simp)]
  have e3 : p.find? (fun m => !inSet set m || decide (t.slot ∈ (manAt c m).no)) = none := List.find?_eq_none.2 fun m hm => by
    obtain ⟨a, b⟩ := h3 m hm
    simp [a, b]
  have e4 : p.find? (fun m => decide (t.get m.toNat ≥ c.run)) = none := List.find?_eq_none.2 fun m hm => by
    have := h4 m hm
    simp; omega
  have e5 : p.find? (fun m => decide (t.get m.toNat < 0)) = none := List.find?_eq_none.2 fun m hm => by
    have := h5 m hm
    simp; omega
  rw [e3, e4, e5]

theorem sim_dead {c c' : WCase} {set set' : Int} (R : Tired → Tired → Prop) (hs : ∀ t t', R t t' → ∀ u ∈ succF c set t, ∃ u' ∈ succF c' set' t', R u u') : ∀ (n : Nat) (t t' : Tired), R t t' → deadN c' set' n t' → deadN c set n t ∧ hgtN c set n t ≤ hgtN c' set' n t'
  | 0, t, t', _, h => h.elim
  | n + 1, t, t', hr, h => by
    refine ⟨fun u hu => ?_, ?_⟩
    · obtain ⟨u', hu', hr'⟩ := hs t t' hr u hu
      exact (sim_dead R hs n u u' hr' (h u' hu')).1
    · rw [hgtN]
      refine (foldl_max_bd (by omega) (hgt_bd (c := c') (set := set') (n + 1) t').1 fun u hu => ?_).2
      obtain ⟨u', hu', hr'⟩ := hs t t' hr u hu
      have h1 := (sim_dead R hs n u u' hr' (h u' hu')).2
      have h2 := max_le (f := fun u => hgtN c' set' n u) (y := 0) hu'
      rw [hgtN]
      omega

theorem sim_alive {c c' : WCase} {set set' : Int} (R : Tired → Tired → Prop) (hs : ∀ t t', R t t' → ∀ u ∈ succF c set t, ∃ u' ∈ succF c' set' t', R u u') {t t' : Tired} (hr : R t t') (h : alive c set t) : alive c' set' t' :=
  fun n hd => h n (sim_dead R hs n t t' hr hd).1

/-- The same rows stand in both cases. -/
def SameRows (c c' : WCase) (set set' : Int) (R : Tired → Tired → Prop) : Prop :=
  ∀ t t' g, R t t' → ascF c.men.length (-1) g = 0 → (whyT c set t g).1 = 0 → ascF c'.men.length (-1) g = 0 ∧ (whyT c' set' t' g).1 = 0 ∧ R (behindF c t g) (behindF c' t' g)

theorem SameRows.group {c c' : WCase} {set set' : Int} {R : Tired → Tired → Prop} (h : SameRows c c' set set' R) {t t' : Tired} (hr : R t t') {x : List Int × Tired} (hx : x ∈ groupsF c set t) : (x.1, behindF c' t' x.1) ∈ groupsF c' set' t' ∧ R x.2 (behindF c' t' x.1) := by
  obtain ⟨hw, hu⟩ := group_why hx
  obtain ⟨h1, h2, h3⟩ := h t t' x.1 hr (group_asc hx) hw
  rw [hu]
  exact ⟨group_mem' h1 h2, h3⟩

theorem SameRows.succ {c c' : WCase} {set set' : Int} {R : Tired → Tired → Prop} (h : SameRows c c' set set' R) : ∀ t t', R t t' → ∀ u ∈ succF c set t, ∃ u' ∈ succF c' set' t', R u u' := by
  intro t t' hr u hu
  obtain ⟨x, hx, rfl⟩ := List.mem_map.1 hu
  obtain ⟨h1, h2⟩ := h.group hr hx
  exact ⟨_, List.mem_map.2 ⟨_, h1, rfl⟩, h2⟩

theorem SameRows.walk {c c' : WCase} {set set' : Int} {R : Tired → Tired → Prop} (h : SameRows c c' set set' R) : ∀ {l : List (List Int)} {t t' : Tired} {i : Int}, 0 ≤ i → R t t' → (walkF c set t l i).1.1 = -1 → (∀ r ∈ l, ascF c.men.length (-1) r = 0) → walkF c' set' t' l i = ((-1, 0, 0), (walkF c' set' t' l i).2) ∧ R (walkF c set t l i).2 (walkF c' set' t' l i).2 ∧ ∀ r ∈ l, ascF c'.men.length (-1) r = 0
  | [], t, t', i, _, hr, _, _ => ⟨rfl, hr, fun r h => by cases h⟩
  | g :: l, t, t', i, hi, hr, hw, ha => by
    rw [walkF] at hw
    split at hw
    · rename_i h1
      obtain ⟨h2, h3, h4⟩ := h t t' g hr (ha g (by simp)) h1
      rw [walkF, walkF, if_pos h3, if_pos h1]
      obtain ⟨a, b, d⟩ := h.walk (l := l) (by omega) h4 hw fun r hr => ha r (by simp [hr])
      refine ⟨a, b, fun r hr => ?_⟩
      rcases List.mem_cons.1 hr with rfl | hr
      · exact h2
      · exact d r hr
    · simp only at hw; omega

theorem SameRows.rota {c c' : WCase} {R : Tired → Tired → Prop} (h : SameRows c c' (allMen c) (allMen c') R) (h0 : R .zero .zero) {rota : List (List Int)} (hg : GoodR c rota) : GoodR c' rota ∧ R (endT c rota) (endT c' rota) := by
  obtain ⟨a, b, d⟩ := h.walk (Int.le_refl 0) h0 hg.good hg.asc
  exact ⟨⟨by unfold goodW; rw [a], d⟩, b⟩

theorem SameRows.next {c c' : WCase} (hR : WR c) (hR' : WR c') {R : Tired → Tired → Prop} (h : SameRows c c' (allMen c) (allMen c') R) (h0 : R .zero .zero) {rota : List (List Int)} (hg : GoodR c rota) : ∀ g ∈ nextL c rota, g ∈ nextL c' rota := by
  intro g hm
  obtain ⟨u, hu, ha⟩ := next_mem hm
  obtain ⟨hg', hr⟩ := h.rota h0 hg
  obtain ⟨h1, h2⟩ := h.group hr hu
  have hi := groups_InU hR (hg.InU hR) hu
  have hi' := groups_InU hR' (hg'.InU hR') h1
  have ha' := (endB_iff hR' hi').2 (sim_alive R h.succ h2 ((endB_iff hR hi).1 ha))
  exact List.mem_map.2 ⟨_, List.mem_filter.2 ⟨h1, ha'⟩, rfl⟩

theorem asc_more {a b : Int} (hab : a ≤ b) : ∀ {l : List Int} {last : Int}, ascF a last l = 0 → ascF b last l = 0
  | [], _, _ => rfl
  | x :: l, last, h => by
    rw [ascF] at h ⊢
    split at h
    case isFalse => cases h
    rename_i h1
    split at h
    · cases h
    rename_i h2
    rw [inB_iff] at h1
    rw [if_pos (by rw [inB_iff]; omega), if_neg h2]
    exact asc_more hab h

/-- One more man, behind all others. -/
def plusM (c : WCase) (m : Man) : WCase := { c with men := c.men ++ [m] }

def AsTired (n : Nat) (t t' : Tired) : Prop := t.slot = t'.slot ∧ ∀ j, j < n → t.get j = t'.get j

theorem plus_same {c : WCase} {m : Man} (hR : WR c) (hR' : WR (plusM c m)) : SameRows c (plusM c m) (allMen c) (allMen (plusM c m)) (AsTired c.men.length) := by
  intro t t' g hr ha hw
  have hm := hR.men
  have hm' := hR'.men
  have hlen : (plusM c m).men.length = c.men.length + 1 := by simp [plusM]
  have hin := asc_in ha
  have hin' : RowIn (plusM c m) g := fun x hx => by have := hin x hx; rw [hlen]; omega
  have hman : ∀ x ∈ g, manAt (plusM c m) x = manAt c x := by
    intro x hx
    have := hin x hx
    unfold manAt plusM
    simp only
    rw [List.getElem?_append_left (by omega)]
  obtain ⟨h1, ⟨x, hx, h2⟩, h3, h4, h5⟩ := why_zero hw
  have hsl : slotAt (plusM c m) t' = slotAt c t := by unfold slotAt; rw [hr.1]; rfl
  have hget : ∀ x ∈ g, t'.get x.toNat = t.get x.toNat := fun x hx => (hr.2 _ (by have := hin x hx; omega)).symm
  refine ⟨asc_more (by rw [hlen]; omega) ha, ?_, ?_, ?_⟩
  · unfold whyT
    rw [hsl]
    refine why_of h1 ⟨x, hx, by rw [hman x hx]; exact h2⟩ (fun y hy => ⟨inSet_all hR' (hin' y hy), ?_⟩) (fun y hy => ?_) (fun y hy => ?_)
    · rw [hman y hy, ← hr.1]; exact (h3 y hy).2
    · rw [hget y hy]; exact h4 y hy
    · rw [hget y hy]; exact h5 y hy
  · show (behindF c t g).slot = (behindF (plusM c m) t' g).slot
    unfold behindF
    rw [tireTo_slot, tireTo_slot]
    show (t.slot + 1).tmod _ = (t'.slot + 1).tmod _
    rw [hr.1]; rfl
  · intro j hj
    rw [behind_get hR (by omega), behind_get hR' (by omega), if_pos hj, if_pos (by rw [hlen]; omega), hr.2 j hj]
    rfl
end Go.PX

namespace Go.PX
open Go.Proofs

/- Watch: Gapped, has. -/

structure GapX where
  rota : List Int
  rows : Int
  empty : Int

def GapX.cells (x : GapX) : List D := [bytesD x.rota, .int .u8 x.rows, .int .u16 x.empty]
def GapX.d (x : GapX) : D := .agg x.cells

structure GapX.Ok (x : GapX) : Prop where
  rota : ∀ b ∈ x.rota, 0 ≤ b ∧ b ≤ 255
  rows : 0 ≤ x.rows ∧ x.rows ≤ 255
  empty : 0 ≤ x.empty ∧ x.empty ≤ 65535

def fullF (c : WCase) (x : GapX) : List (List Int) := anyF c x.rota (x.rows.toNat % 13) []
def bitE (e : Int) (i : Nat) : Bool := decide ((e.fdiv (2 ^ min (i : Int).toNat IntKind.u16.bits)).tmod 2 = 1)
def gapsD (e : Int) : Nat → List (List Int) → List (List D)
  | _, [] => []
  | i, r :: l => (if bitE e i then [.nils] else [intsD r]) :: gapsD e (i + 1) l
def gapsF (e : Int) : Nat → List (List Int) → List (List Int)
  | _, [] => []
  | i, r :: l => (if bitE e i then [] else r) :: gapsF e (i + 1) l

theorem gapsD_len (e : Int) : ∀ (l : List (List Int)) (i : Nat), (gapsD e i l).length = l.length
  | [], _ => rfl
  | r :: l, i => by rw [gapsD, List.length_cons, gapsD_len e l, List.length_cons]

theorem relax_ints (r : List Int) : relax (intsD r) = intsD r := by
  show D.vs (relaxE (r.map fun n => [i64 n])) = _
  congr 1
  induction r with
  | nil => rfl
  | cons x r ih =>
    show relaxL [i64 x] :: relaxE (r.map fun n => [i64 n]) = _
    rw [ih]; rfl

theorem relax_rota (l : List (List Int)) : relax (rotaD l) = rotaD l := by
  show D.vs (relaxE (l.map fun r => [intsD r])) = _
  congr 1
  induction l with
  | nil => rfl
  | cons x r ih =>
    show relaxL [intsD x] :: relaxE (r.map fun r => [intsD r]) = _
    rw [ih]
    show [relax (intsD x)] :: _ = _
    rw [relax_ints]; rfl

theorem relax_gaps (e : Int) : ∀ (l : List (List Int)) (i : Nat), relaxE (gapsD e i l) = (gapsF e i l).map fun r => [intsD r]
  | [], _ => rfl
  | r :: l, i => by
    rw [gapsD, gapsF]
    show relaxL _ :: relaxE (gapsD e (i + 1) l) = _
    rw [relax_gaps e l, List.map_cons]
    congr 1
    split
    · rfl
    · show [relax (intsD r)] = _
      rw [relax_ints]

theorem wa51 (c : WCase) (hR : WR c) (x : GapX) (hx : x.Ok) : FnV Try.prog 51 [c.d, x.d] (.tup [rotaD (fullF c x), rotaD (gapsF x.empty 0 (fullF c x))]) := by
  refine FnV.relax (r := .tup [rotaD (fullF c x), .vs (gapsD x.empty 0 (fullF c x))]) ?_ ?_
  · refine fnV_of mixed tysOk Try.func51 rfl (ft := ft51) 2 (by decide +kernel) (by rfl) fun {σ} Y st => ?_
    conv => whnf
    obtain ⟨hb, hr, he⟩ := hx
    refine arith_in (wrap_i64 (by (try dsimp only); omega)) ?_
    conv => whnf
    refine CallA_nil1 ?_
    have hrt : (x.rows.tmod 13) = ((x.rows.toNat % 13 : Nat) : Int) := by
      rw [Int.tmod_eq_emod_of_nonneg (by omega)]; omega
    rw [hrt]
    refine CallA_v (ds := [c.d, rotaD [], bytesD x.rota, i64 (x.rows.toNat % 13 : Nat)]) (wa47 c hR x.rota hb [] (by simp) (fun r h => by cases h) (x.rows.toNat % 13) (by omega)) rfl rfl ?_
    have hfl : fullF c x = anyF c x.rota (x.rows.toNat % 13 - 0) [] := rfl
    have hl : (fullF c x).length ≤ 13 := by
      have := (any_good hR (x := x.rota) (k := x.rows.toNat % 13) (GoodR.nil c)).2.1
      unfold fullF
      simp only [List.length_nil] at this
      omega
    rw [show ([] : List (List Int)).length = 0 from rfl, ← hfl]
    generalize fullF c x = full at hl ⊢
    clear hfl
    conv => whnf
    generalize hM : gapsD x.empty 0 full = M
    have hML : M.length ≤ 13 := by rw [← hM, gapsD_len]; exact hl
    refine LoopA_i (T := tys) tysOk (by exact drawsB_spec mixed tysOk (by decide +kernel)) full (fun i (acc : List (List D)) => ⟨[(3, .ptr 3 0), (6, .d (rotaD full)), (7, .sl 900000 1 0 acc.length), (8, .d (i64 i))], [(3, .box (.dd x.cells)), (900000, .arr 1 (.dd acc))], st⟩)
      (fun i r acc => acc.length ≤ i ∧ M = acc ++ gapsD x.empty i r) [] ((Wk.born 7 900000 1 rfl rfl rfl).trans (Wk.sub ⟨(by first | rfl | (simp only [List.length_map]; rfl) | simp [PX.get]), (by first | rfl | (simp only [List.length_map]; rfl) | simp [PX.get]), (by first | rfl | (simp only [List.length_map]; rfl) | simp [PX.get]), (by first | rfl | (simp only [List.length_map]; rfl) | simp [PX.get]), trivial⟩ ⟨(by first | rfl | (simp only [List.length_map]; rfl) | simp [PX.get]), (by first | rfl | (simp only [List.length_map]; rfl) | simp [PX.get]), trivial⟩)) ⟨by simp, hM.symm⟩ ?_ ?_
    · rintro i y r acc hy hi hr2 ⟨hal, hg⟩
      rw [gapsD] at hg
      conv => whnf
      refine brk_i (fun _ => ?_) (fun h => absurd hi (by have := of_decide_eq_false h; simp at this; omega))
      conv => whnf
      refine brk_i (fun h1 => ?_) (fun h1 => ?_)
      · have h1 : bitE x.empty i = true := h1
        rw [h1] at hg
        simp only [if_true] at hg
        conv => whnf
        refine ownK_whole rfl ?_
        conv => whnf
        refine ownK_whole (by simp [Els.len]) ?_
        conv => whnf
        refine chk_i (decide_eq_true (by
          show (acc.length + 1) * 24 ≤ 140737488355328
          omega)) ?_
        conv => whnf
        refine arith_in (wrap_i64 (by (try dsimp only); omega)) ?_
        conv => whnf
        refine ⟨acc ++ [[.nils]], ⟨by simp; omega, by rw [hg]; simp⟩, (Wk.move 31 900000 rfl rfl).trans (Wk.sub ⟨rfl, rfl, ?_, rfl, trivial⟩ ⟨rfl, rfl, trivial⟩)⟩
        show some (V.sl 900000 1 0 (acc.length + 1)) = _
        simp
      · have h1 : bitE x.empty i = false := h1
        rw [h1] at hg
        simp only [Bool.false_eq_true, if_false] at hg
        conv => whnf
        refine elemK_nat hy ?_
        conv => whnf
        refine ownK_whole rfl ?_
        conv => whnf
        refine ownK_whole (by simp [Els.len]) ?_
        conv => whnf
        refine chk_i (decide_eq_true (by
          show (acc.length + 1) * 24 ≤ 140737488355328
          omega)) ?_
        conv => whnf
        refine arith_in (wrap_i64 (by (try dsimp only); omega)) ?_
        conv => whnf
        refine ⟨acc ++ [[intsD y]], ⟨by simp; omega, by rw [hg]; simp⟩, (Wk.move 38 900000 rfl rfl).trans (Wk.sub ⟨rfl, rfl, ?_, rfl, trivial⟩ ⟨rfl, rfl, trivial⟩)⟩
        show some (V.sl 900000 1 0 (acc.length + 1)) = _
        simp
    · rintro acc ⟨_, hf⟩
      have hf : M = acc := by simpa [gapsD] using hf
      rw [hf]
      conv => whnf
      refine brk_i (fun h => absurd h (by simp)) (fun _ => ?_)
      conv => whnf
      refine RetA_view 1 (ds := [rotaD full, .vs acc]) ?_ ⟨⟨rfl, rfl⟩, rfl⟩
      exact viewL_cons rfl (viewL_cons (viewV_sl rfl rfl) rfl)
  · show D.tup [relax (rotaD _), D.vs (relaxE _)] = _
    rw [relax_rota, relax_gaps]; rfl

theorem wa54 (l : List (List Int)) (row : List Int) (hl : l.length < 1000000) (hr : ∀ r ∈ l, r.length < 1000000) : FnV Try.prog 54 [rotaD l, intsD row] (.bool (decide (row ∈ l))) := by
  refine fnV_of mixed tysOk Try.func54 rfl (ft := ft54) 2 (by decide +kernel) (by rfl) fun {σ} Y st => ?_
  conv => whnf
  refine LoopA_i (T := tys) tysOk (by exact drawsB_spec mixed tysOk (by decide +kernel)) l (fun i (_ : Unit) => ⟨[(0, .d (rotaD l)), (1, .d (intsD row)), (4, .d (.bool false)), (5, .d (i64 i))], [], st⟩)
    (fun i r _ => decide (row ∈ l) = decide (row ∈ r)) () (Wk.sub ⟨(by first | rfl | (simp only [List.length_map]; rfl) | simp [PX.get]), (by first | rfl | (simp only [List.length_map]; rfl) | simp [PX.get]), (by first | rfl | (simp only [List.length_map]; rfl) | simp [PX.get]), (by first | rfl | (simp only [List.length_map]; rfl) | simp [PX.get]), trivial⟩ trivial) rfl ?_ ?_
  · intro i x r _ hx hi hr' he
    have hxr := hr x (List.mem_of_getElem? hx)
    conv => whnf
    refine brk_i (fun _ => ?_) (fun h => absurd hi (by have := of_decide_eq_false h; simp at this; omega))
    conv => whnf
    refine elemK_nat hx ?_
    conv => whnf
    refine CallA_view (ds := [rotaD [x], rotaD [row]]) (wa24 [x] [row] (by simp) (by simpa using hxr)) rfl 1 rfl ?_
    conv => whnf
    refine brk_i (fun h1 => ?_) (fun h1 => ?_)
    · have h1 : x = row := by have := of_decide_eq_true h1; simpa using this
      conv => whnf
      rw [he, decide_eq_true (by rw [h1]; simp)]
      exact RetA_view 0 rfl ⟨⟨rfl, rfl⟩, rfl⟩
    · have h1 : ¬ x = row := by have := of_decide_eq_false h1; simpa using this
      conv => whnf
      refine arith_in (wrap_i64 (by (try dsimp only); omega)) ?_
      conv => whnf
      refine ⟨(), ?_, (Wk.sub ⟨(by first | rfl | (simp only [List.length_map]; rfl) | simp [PX.get]), (by first | rfl | (simp only [List.length_map]; rfl) | simp [PX.get]), (by first | rfl | (simp only [List.length_map]; rfl) | simp [PX.get]), (by first | rfl | (simp only [List.length_map]; rfl) | simp [PX.get]), trivial⟩ trivial)⟩
      rw [he]
      by_cases h2 : row ∈ r
      · rw [decide_eq_true h2, decide_eq_true (by simp [h2])]
      · rw [decide_eq_false h2, decide_eq_false (by
          intro h3
          rcases List.mem_cons.1 h3 with h3 | h3
          · exact h1 h3.symm
          · exact h2 h3)]
  · intro _ he
    rw [he]
    conv => whnf
    refine brk_i (fun h => absurd h (by simp)) (fun _ => ?_)
    conv => whnf
    exact RetA_view 0 rfl ⟨⟨rfl, rfl⟩, rfl⟩
end Go.PX

namespace Go.PX
open Go.Proofs Go.RowKit Go.ChangeShapes

theorem c5 : Try.prog.cellsOf 5 = 1 := by kernel_rfl
theorem c64 : Try.prog.cellsOf 64 = 1 := by kernel_rfl
theorem c58 : Try.prog.cellsOf 58 = 1 := by kernel_rfl
theorem c66 : Try.prog.cellsOf 66 = 3 := by kernel_rfl

theorem Rd.intw {P : Program} {W : World} {t : TypeId} {k : IntKind} (ht : P.underlying t = some (.int k)) : Rd P W t fun ds => ∃ n, ds = [.int k n] ∧ (Lit.int k n).wf = true := by
  refine ⟨?_⟩
  intro H enc sp held fuel cs x h
  obtain ⟨n, rfl, _, hw⟩ := DataW.trod_int ht h
  exact ⟨[.int k n], ⟨n, rfl, hw⟩, _, [], rfl, rfl, rfl⟩

theorem RepDL.one {F : Nat → Nat} {w : World} {d : D} {v : Value} (h : RepDL F w [d] [v]) : RepD F w d v := by
  obtain ⟨x, l', h1, hd, hl⟩ := h
  cases h1
  exact hd

section
variable (W : World)
theorem rdByte : Rd Try.prog W 5 fun ds => ∃ n, ds = [.int .u8 n] ∧ 0 ≤ n ∧ n ≤ 255 := (Rd.intw Try.underlying5).mono fun ds ⟨n, h, w⟩ => ⟨n, h, byteIn w⟩
theorem rdWord : Rd Try.prog W 64 fun ds => ∃ n, ds = [.int .u16 n] ∧ 0 ≤ n ∧ n ≤ 65535 := (Rd.intw Try.underlying64).mono fun ds ⟨n, h, w⟩ => ⟨n, h, wordIn w⟩

theorem rdBytes : Rd Try.prog W 58 fun ds => ∃ l : List Int, ds = [bytesD l] ∧ ∀ b ∈ l, 0 ≤ b ∧ b ≤ 255 :=
  (Rd.slice Try.underlying58 c5 (by omega) (rdByte W)).mono fun ds h => by
    obtain ⟨es, rfl, he⟩ := h
    have : ∃ l : List Int, es = l.map (fun b => [D.int .u8 b]) ∧ ∀ b ∈ l, 0 ≤ b ∧ b ≤ 255 := by
      induction es with
      | nil => exact ⟨[], rfl, fun b h => by cases h⟩
      | cons e r ih =>
        obtain ⟨l, h1, h2⟩ := ih fun x hx => he x (by simp [hx])
        obtain ⟨n, h3, h4⟩ := he e (by simp)
        refine ⟨n :: l, by rw [h3, h1]; rfl, fun b hb => ?_⟩
        rcases List.mem_cons.1 hb with rfl | hb
        · exact h4
        · exact h2 b hb
    obtain ⟨l, rfl, h2⟩ := this
    exact ⟨l, rfl, h2⟩

theorem rdGap : Rd Try.prog W 66 fun ds => ∃ x : GapX, ds = x.cells ∧ x.Ok :=
  (Rd.struct Try.underlying66 c66 (.cons rfl c58 (rdBytes W) (.cons rfl c5 (rdByte W) (.cons rfl c64 (rdWord W) (.nil _))))).mono fun ds h => by
    obtain ⟨_, _, rfl, ⟨a, rfl, ha⟩, _, _, rfl, ⟨b, rfl, hb⟩, _, _, rfl, ⟨d, rfl, hd⟩, rfl⟩ := h
    exact ⟨⟨a, b, d⟩, rfl, ⟨ha, hb, hd⟩⟩
end
end Go.PX

namespace Go.PX
open Go.Proofs

/- Watch: WatchFurther. -/

def Man.d (m : Man) : D := .agg m.cells

theorem val_WR {c : WCase} (h : valW c = true) : WR c := wR (of_decide_eq_true h)
theorem val_chk {c : WCase} (h : valW c = true) : (checkW c).2.2 = 0 := of_decide_eq_true h

theorem replO_vv {g : Nat → Option DO} {l : List V} {l' : List D} (h : dsOf (replL g l) = some l') : replO g (.box (.vv l)) = .box (.dd l') := by
  simp only [replO, h]

theorem next_len {c : WCase} (hR : WR c) {rota : List (List Int)} : (nextL c rota).length ≤ 25 ∧ ∀ r ∈ nextL c rota, r.length ≤ 2 := by
  refine ⟨?_, fun r hr => ?_⟩
  · unfold nextL nextG
    rw [List.length_map]
    exact Nat.le_trans (List.length_filter_le ..) (groups_many hR)
  · obtain ⟨u, hu, _⟩ := next_mem hr
    exact groups_len hR hu

theorem wa14 (c : WCase) (x : GapX) (hx : x.Ok) (m : Man) : FnV Try.prog 14 [c.d, x.d, m.d] (.bool true) := by
  refine fnV_of mixed tysOk Try.func14 rfl (ft := ft14) 3 (by decide +kernel) (by rfl) fun {σ} Y st => ?_
  conv => whnf
  refine CallA_v (wa43 c) rfl rfl ?_
  conv => whnf
  cases hv : valW c with
  | false =>
    conv => whnf
    refine CallA_v (wa27) rfl rfl ?_
    conv => whnf
    exact RetA_view 0 rfl ⟨⟨rfl, rfl⟩, rfl⟩
  | true =>
    have hR := val_WR hv
    have hm := hR.men
    conv => whnf
    refine ownK_whole rfl ?_
    conv => whnf
    refine chk_i (by rw [Bool.and_eq_true]; exact ⟨lenAllD_map (fun _ => ⟨rfl, rfl⟩) _, rfl⟩) ?_
    conv => whnf
    refine chk_i (decide_eq_true (by
      show (0 + (c.men.map Man.cells).length) * 48 ≤ 140737488355328
      rw [List.length_map]; omega)) ?_
    conv => whnf
    refine ownK_whole rfl ?_
    conv => whnf
    refine ownK_whole (by simp [Els.len]) ?_
    conv => whnf
    refine chk_i (decide_eq_true (by
      show (([] ++ c.men.map Man.cells).length + 1) * 48 ≤ 140737488355328
      simp; omega)) ?_
    conv => whnf
    generalize hc2 : plusM c m = c2
    have hcd : V.d c2.d = .d (.agg [mansD (c.men ++ [m]), slotsD c.slots, i64 c.run, i64 c.rest]) := by rw [← hc2]; rfl
    refine CallA_sub (e' := [(3, .ptr 3 0), (4, .ptr 4 0), (6, .d (.bool false)), (7, .ptr 7 0)]) (h' := [(3, .box (.dd c.cells)), (4, .box (.dd x.cells)), (7, .box (.vv [.sl 30 3 0 (c.men.length + 1), .d (slotsD c.slots), .d (i64 c.run), .d (i64 c.rest)])), (30, .arr 3 (.dd ((c.men ++ [m]).map Man.cells)))]) (args' := [.agg [.sl 30 3 0 (c.men.length + 1), .d (slotsD c.slots), .d (i64 c.run), .d (i64 c.rest)]]) ⟨rfl, rfl, rfl, rfl, trivial⟩ ⟨rfl, rfl, ?_, ?_, trivial⟩ ?_ ?_
    · show some (Obj.box (Cells.vv [.sl 30 3 0 (([] ++ c.men.map Man.cells).length + 1), .d (slotsD c.slots), .d (i64 c.run), .d (i64 c.rest)])) = _
      simp
    · show some (Obj.arr 3 (Els.dd (([] ++ c.men.map Man.cells) ++ [m.cells]))) = _
      simp
    · show [V.agg [V.sl 30 3 0 (([] ++ c.men.map Man.cells).length + 1), .d (slotsD c.slots), .d (i64 c.run), .d (i64 c.rest)]] = _
      simp
    refine CallA_frz 2 [30] ?_
    have hrp : ∀ (h : Heap), get h 30 = some (.arr 3 (.dd ((c.men ++ [m]).map Man.cells))) → replL (objD h 2) [.sl 30 3 0 (c.men.length + 1), .d (slotsD c.slots), .d (i64 c.run), .d (i64 c.rest)] = [.d (mansD (c.men ++ [m])), .d (slotsD c.slots), .d (i64 c.run), .d (i64 c.rest)] := by
      intro h hh
      show [repl _ (V.sl 30 3 0 (c.men.length + 1)), _, _, _] = _
      rw [repl_sl (viewV_sl hh (by simp))]
      rfl
    refine CallA_sub (e' := [(3, .ptr 3 0), (4, .ptr 4 0), (6, .d (.bool false)), (7, .ptr 7 0)]) (h' := [(3, .box (.dd c.cells)), (4, .box (.dd x.cells)), (7, .box (.dd c2.cells))]) (args' := [.d c2.d]) ⟨rfl, rfl, rfl, rfl, trivial⟩ ⟨rfl, rfl, ?_, trivial⟩ ?_ ?_
    · refine congrArg some (replO_vv ?_)
      rw [hrp _ rfl, ← hc2]; rfl
    · show [mkAgg (replL (objD (keepT [30] [(3, .box (.dd c.cells)), (4, .box (.dd x.cells)), (7, .box (.vv [.sl 30 3 0 (c.men.length + 1), .d (slotsD c.slots), .d (i64 c.run), .d (i64 c.rest)])), (30, .arr 3 (.dd ((c.men ++ [m]).map Man.cells)))]) 2) _)] = _
      rw [hrp _ rfl, ← hc2]; rfl
    refine CallA_v (ds := [c2.d]) (wa43 c2) rfl rfl ?_
    cases hv2 : valW c2 with
    | false =>
      conv => whnf
      refine CallA_v (wa27) rfl rfl ?_
      conv => whnf
      exact RetA_view 0 rfl ⟨⟨rfl, rfl⟩, rfl⟩
    | true =>
      have hR2 := val_WR hv2
      conv => whnf
      refine CallA_v (ds := [c.d, x.d]) (wa51 c hR x hx) rfl rfl ?_
      have hfg := any_good hR (x := x.rota) (k := x.rows.toNat % 13) (GoodR.nil c)
      obtain ⟨hg, hlen, _⟩ := hfg
      have hg : GoodR c (fullF c x) := hg
      have hlen : (fullF c x).length ≤ 40 := by
        have : (fullF c x).length ≤ 0 + x.rows.toNat % 13 := hlen
        omega
      generalize fullF c x = full at hg hlen ⊢
      have hsame : SameRows c c2 (allMen c) (allMen c2) (AsTired c.men.length) := by
        subst hc2; exact plus_same hR hR2
      have h00 : AsTired c.men.length .zero .zero := ⟨rfl, fun j _ => rfl⟩
      obtain ⟨hg2, _⟩ := hsame.rota h00 hg
      have hB : badF c2 full = (-1, 0, 0, 0) := by
        obtain ⟨a, _, _⟩ := hsame.walk (Int.le_refl 0) h00 hg.good hg.asc
        unfold badF
        rw [if_pos (hg2.ent (val_chk hv2) hlen), a]
      have hnx := hsame.next hR hR2 h00 hg
      conv => whnf
      refine CallA_v (ds := [c2.d, rotaD full]) (wa17 c2 full) rfl rfl ?_
      rw [hB]
      conv => whnf
      refine CallA_v (ds := [c.d, rotaD full]) (wa25 c full) rfl rfl ?_
      rw [hg.zero (val_chk hv) hlen, if_pos rfl]
      conv => whnf
      refine CallA_v (ds := [c2.d, rotaD full]) (wa25 c2 full) rfl rfl ?_
      rw [hg2.zero (val_chk hv2) hlen, if_pos rfl]
      have hn1 := next_len hR (rota := full)
      have hn2 := next_len hR2 (rota := full)
      generalize nextL c full = L1 at hnx hn1 ⊢
      generalize nextL c2 full = L2 at hnx hn2 ⊢
      cases L1 with
      | nil =>
        conv => whnf
        refine LoopA_i (T := tys) tysOk (by exact drawsB_spec mixed tysOk (by decide +kernel)) ([] : List Nat) (fun i (_ : Unit) => ⟨[(14, .d .nils), (18, .d (i64 i))], [], st⟩) (fun i r _ => True) () (Wk.sub ⟨(by first | rfl | (simp only [List.length_map]; rfl) | simp [PX.get]), (by first | rfl | (simp only [List.length_map]; rfl) | simp [PX.get]), trivial⟩ trivial) trivial ?_ ?_
        · intro i x r _ hx
          cases hx
        · intro _ _
          conv => whnf
          refine CallA_v (wa27) rfl rfl ?_
          conv => whnf
          exact RetA_view 0 rfl ⟨⟨rfl, rfl⟩, rfl⟩
      | cons a1 l1 =>
        cases L2 with
        | nil =>
          have := hnx a1 (by simp)
          cases this
        | cons a2 l2 =>
          conv => whnf
          refine LoopA_i (T := tys) tysOk (by exact drawsB_spec mixed tysOk (by decide +kernel)) (a1 :: l1) (fun i (_ : Unit) => ⟨[(14, .d (rotaD (a1 :: l1))), (16, .d (rotaD (a2 :: l2))), (6, .d (.bool false)), (18, .d (i64 i))], [], st⟩) (fun i r _ => True) () (Wk.sub ⟨(by first | rfl | (simp only [List.length_map]; rfl) | simp [PX.get]), (by first | rfl | (simp only [List.length_map]; rfl) | simp [PX.get]), (by first | rfl | (simp only [List.length_map]; rfl) | simp [PX.get]), (by first | rfl | (simp only [List.length_map]; rfl) | simp [PX.get]), trivial⟩ trivial) trivial ?_ ?_
          · intro i x r _ hx hi hr _
            conv => whnf
            refine brk_i (fun _ => ?_) (fun h => absurd hi (by have := of_decide_eq_false h; simp at this ⊢; omega))
            conv => whnf
            refine elemK_nat hx ?_
            conv => whnf
            refine CallA_v (ds := [rotaD (a2 :: l2), intsD x]) (wa54 (a2 :: l2) x (by omega) (fun r h => by have := hn2.2 r h; omega)) rfl rfl ?_
            rw [decide_eq_true (hnx x (List.mem_of_getElem? hx))]
            conv => whnf
            refine arith_in (wrap_i64 (by (try dsimp only); omega)) ?_
            conv => whnf
            exact ⟨(), trivial, (Wk.sub ⟨(by first | rfl | (simp only [List.length_map]; rfl) | simp [PX.get]), (by first | rfl | (simp only [List.length_map]; rfl) | simp [PX.get]), (by first | rfl | (simp only [List.length_map]; rfl) | simp [PX.get]), (by first | rfl | (simp only [List.length_map]; rfl) | simp [PX.get]), trivial⟩ trivial)⟩
          · intro _ _
            conv => whnf
            refine brk_i (fun h => absurd h (by simp)) (fun _ => ?_)
            conv => whnf
            refine CallA_v (wa27) rfl rfl ?_
            conv => whnf
            exact RetA_view 0 rfl ⟨⟨rfl, rfl⟩, rfl⟩
end Go.PX

namespace Go.PX
open Go.Proofs

/- Watch: a rota that is lent. -/

def rotaH (rota : List (List Int)) : Heap := [(1000000, .arr 1 (.dd (rota.map fun r => [intsD r])))]

theorem wa63o (c : WCase) (rota : List (List Int)) (h0 : entE c rota = 0) : FnU Try.prog 63 [.d c.d, .sl 1000000 1 0 rota.length] (rotaH rota) fun v h' => v = .d (.tup [crewD c (allMen c), i64 0]) ∧ h' = rotaH rota := by
  intro σ Y s
  refine fnC_of mixed tysOk Try.func63 rfl (ft := ft63) (args := [.d c.d, .sl 1000000 1 0 rota.length]) (show fnB ft63 Try.f63 2 = true from by decide +kernel) ?_
  obtain ⟨hR, hl, hall⟩ := ent_ok h0
  have hm := hR.men
  conv => whnf
  refine CallA_v (wa15 c) rfl rfl ?_
  conv => whnf
  rw [hR.zero]
  conv => whnf
  refine brk_i (fun h => absurd h (by simp; omega)) (fun _ => ?_)
  conv => whnf
  refine LoopA_i (T := tys) tysOk (by exact drawsB_spec mixed tysOk (by decide +kernel)) rota (fun i (_ : Unit) => ⟨[(2, .ptr 2 0), (25, .sl 1000000 1 0 rota.length), (26, .d (i64 rota.length)), (27, .d (i64 i))], [(2, .box (.dd c.cells)), (1000000, .arr 1 (.dd (rota.map fun r => [intsD r])))], s⟩) (fun i r _ => True) () (Wk.sub ⟨(by first | rfl | (simp only [List.length_map]; rfl) | simp [PX.get]), (by first | rfl | (simp only [List.length_map]; rfl) | simp [PX.get]), (by first | rfl | (simp only [List.length_map]; rfl) | simp [PX.get]), (by first | rfl | (simp only [List.length_map]; rfl) | simp [PX.get]), trivial⟩ ⟨(by first | rfl | (simp only [List.length_map]; rfl) | simp [PX.get]), (by first | rfl | (simp only [List.length_map]; rfl) | simp [PX.get]), trivial⟩) trivial ?_ ?_
  · intro i x r _ hx hi hr _
    conv => whnf
    refine brk_i (fun _ => ?_) (fun h => absurd hi (by simpa using h))
    conv => whnf
    refine chk_i (by simp; omega) ?_
    conv => whnf
    refine cellK_i [intsD x] (by rw [Nat.zero_add, Int.toNat_natCast, List.getElem?_map, hx]; rfl) ?_
    conv => whnf
    refine CallA_v (wa59 x _ (by simp only [List.length_map]; omega)) rfl rfl ?_
    rw [List.length_map, hall x (List.mem_of_getElem? hx)]
    conv => whnf
    refine arith_in (wrap_i64 (by (try dsimp only); omega)) ?_
    conv => whnf
    exact ⟨(), trivial, (Wk.sub ⟨(by first | rfl | (simp only [List.length_map]; rfl) | simp [PX.get]), (by first | rfl | (simp only [List.length_map]; rfl) | simp [PX.get]), (by first | rfl | (simp only [List.length_map]; rfl) | simp [PX.get]), (by first | rfl | (simp only [List.length_map]; rfl) | simp [PX.get]), trivial⟩ ⟨(by first | rfl | (simp only [List.length_map]; rfl) | simp [PX.get]), (by first | rfl | (simp only [List.length_map]; rfl) | simp [PX.get]), trivial⟩)⟩
  · intro _ _
    conv => whnf
    refine brk_i (fun h => absurd h (by simp)) (fun _ => ?_)
    conv => whnf
    have h5 : (c.men.length = 1 ∨ c.men.length = 2 ∨ c.men.length = 3 ∨ c.men.length = 4 ∨ c.men.length = 5) := by omega
    have hp : (1 : Int) ≤ 2 ^ c.men.length ∧ (2 : Int) ^ c.men.length ≤ 32 := by rcases h5 with h | h | h | h | h <;> rw [h] <;> decide
    refine arith_to (2 ^ c.men.length) (by
      have : min (↑(List.map Man.cells c.men).length : Int).toNat IntKind.i64.bits = c.men.length := by
        rw [List.length_map]
        have : IntKind.i64.bits = 64 := rfl
        omega
      rw [this]; omega) (wrap_i64 (by omega)) ?_
    conv => whnf
    refine arith_to (allMen c) rfl (wrap_i64 (by unfold allMen; omega)) ?_
    conv => whnf
    refine RetA_wk ((Wk.frz 1 [47]).trans (Wk.sub (e' := enterE 0 [.d (crewD c (allMen c)), .d (i64 0)]) (h' := rotaH rota) ⟨rfl, rfl, trivial⟩ ⟨rfl, trivial⟩)) rfl rfl ?_
    exact RetA_hand [] [.d (crewD c (allMen c)), .d (i64 0)] (rotaH rota) rfl ⟨rfl, trivial⟩ rfl ⟨⟨rfl, rfl⟩, rfl⟩

theorem wa66o (c : WCase) (rota : List (List Int)) (h0 : goodE c rota = 0) : FnU Try.prog 66 [.d c.d, .sl 1000000 1 0 rota.length] (rotaH rota) fun v h' => v = .d (.tup [crewD c (allMen c), (goodT c rota).d, i64 0]) ∧ h' = rotaH rota := by
  intro σ Y s
  refine fnC_of mixed tysOk Try.func66 rfl (ft := ft66) (args := [.d c.d, .sl 1000000 1 0 rota.length]) (show fnB ft66 Try.f66 2 = true from by decide +kernel) ?_
  obtain ⟨hE, hw⟩ := good_at h0
  obtain ⟨hR, hl, hall⟩ := ent_ok hE
  have hz := TG.zero hR
  conv => whnf
  refine CallA_fn (wa63o c rota hE) [1000000] rfl ⟨_, _, rfl, rfl, rfl⟩ rfl ?_
  conv => whnf
  refine CallA_view (ds := [crewD c (allMen c), Tired.zero.d, rotaD rota]) (wa64 c hR (allMen c) .zero hz.slot hz.bd rota (rows_ok hE) hl) rfl 1 (viewL_cons rfl (viewL_cons rfl (viewL_cons (viewV_sl rfl (by simp)) rfl))) ?_
  conv => whnf
  refine brk_i (fun h => absurd h (by simp [hw])) (fun _ => ?_)
  conv => whnf
  exact RetA_hand [] [.d (crewD c (allMen c)), .d (goodT c rota).d, .d (i64 0)] (rotaH rota) rfl ⟨rfl, trivial⟩ rfl ⟨⟨rfl, rfl⟩, rfl⟩
end Go.PX

namespace Go.PX
open Go.Proofs

/- Watch: Next, with a lent rota. -/

def nextJ (c : WCase) (rota : List (List Int)) (t : Tired) (acc : List (List Int)) (kn : Kn) : Heap :=
  match acc with
  | [] => [(1000000, .arr 1 (.dd (rota.map fun r => [intsD r]))), (1500000, .box (.dd c.cells)), (1500001, .box (.dd [.nils])), (1500002, .box (.dd t.cells)), (1500004, .map (knD kn)), (1500005, .map []), (1500006, .box (.vv [.d (crewD c (allMen c)), .mp 1500004, .mp 1500005])), (1500003, .box (.vv [.ptr 1500006 0]))]
  | g :: r => [(1000000, .arr 1 (.dd (rota.map fun r => [intsD r]))), (1500000, .box (.dd c.cells)), (1500001, .box (.vv [.sl 35 1 0 (g :: r).length])), (1500002, .box (.dd t.cells)), (1500004, .map (knD kn)), (1500005, .map []), (1500006, .box (.vv [.d (crewD c (allMen c)), .mp 1500004, .mp 1500005])), (1500003, .box (.vv [.ptr 1500006 0])), (35, .arr 1 (.dd ((g :: r).map fun r => [intsD r])))]

theorem wa25o (c : WCase) (rota : List (List Int)) (h0 : goodE c rota = 0) : FnU Try.prog 25 [.d c.d, .sl 1000000 1 0 rota.length] (rotaH rota) fun v h' => v = .d (.tup [rotaN (nextL c rota), i64 0]) ∧ h' = rotaH rota := by
  intro σ Y st
  refine fnC_of mixed tysOk Try.func25 rfl (ft := (ft25.more 9 [102112])) (args := [.d c.d, .sl 1000000 1 0 rota.length]) (show fnB (ft25.more 9 [102112]) Try.f25 2 = true from by decide +kernel) ?_
  · obtain ⟨hR, hl, hto, hts⟩ := goodT_ok h0
    have hU := goodT_InU h0
    have hw66 := fun {σ} => wa66o c rota h0 (σ := σ)
    conv => whnf
    refine CallA_fn hw66 [1000000] rfl ⟨_, _, rfl, rfl, rfl⟩ rfl ?_
    clear hw66
    unfold nextL
    generalize goodT c rota = t at hto hts hU ⊢
    conv => whnf
    refine CallA_fn (wa72 c (allMen c)) [] rfl rfl rfl ?_
    conv => whnf
    refine CallA_v (wa68 c (allMen c) t) rfl rfl ?_
    conv => whnf
    refine RangeA_list tysOk (by exact drawsB_spec mixed tysOk (by decide +kernel)) (by exact drawsB_spec mixed tysOk (by decide +kernel)) rfl 1500000 1600000 [2, 4, 7, 8, 101408, 101409, 101410] (by exact yields93 c hR (allMen c) t hto hts)
      (fun (x : List (List Int) × Kn) => (nextJ c rota t x.1 x.2, st))
      (fun rest x => (nextG c t).map (·.1) = x.1 ++ (rest.filter fun p => endB c (allMen c) p.2).map (fun (p : List Int × Tired) => p.1) ∧ KnGood c (allMen c) x.2 ∧ ∀ p ∈ rest, p.1.length ≤ 2 ∧ InU c p.2) ([], []) rfl rfl rfl ⟨rfl, .nil, fun p hp => ⟨groups_len hR hp, groups_InU hR hU hp⟩⟩ ?_ ?_
    · rintro ⟨g, u⟩ rest ⟨acc, kn⟩ ⟨he, hk, hgs⟩ Q hQ1 -
      obtain ⟨hg2, hu⟩ := hgs (g, u) (by simp)
      have hgl : g.length ≤ 1000 := by simp only at hg2; omega
      refine ⟨⟨rfl, item_okL _⟩, ?_⟩
      obtain ⟨kn', hk', hE⟩ := end_call hR hk [] hu
      have hrest : ∀ p ∈ rest, p.1.length ≤ 2 ∧ InU c p.2 := fun p hp => hgs p (by simp [hp])
      cases acc with
      | nil =>
        conv => whnf
        refine CallA_fn hE [1500006, 1500004, 1500005] rfl ?lent rfl ?_
        case lent => exact ⟨_, _, rfl, box_same rfl ⟨rfl, rfl, rfl, trivial⟩, _, _, rfl, rfl, _, _, rfl, rfl, rfl⟩
        cases hb : endB c (allMen c) u with
        | false =>
          conv => whnf
          exact ⟨([], kn'), (Wk.sub trivial ⟨(by first | rfl | (simp only [List.length_map]; rfl) | simp [PX.get]), (by first | rfl | (simp only [List.length_map]; rfl) | simp [PX.get]), (by first | rfl | (simp only [List.length_map]; rfl) | simp [PX.get]), (by first | rfl | (simp only [List.length_map]; rfl) | simp [PX.get]), (by first | rfl | (simp only [List.length_map]; rfl) | simp [PX.get]), (by first | rfl | (simp only [List.length_map]; rfl) | simp [PX.get]), (by first | rfl | (simp only [List.length_map]; rfl) | simp [PX.get]), (by first | rfl | (simp only [List.length_map]; rfl) | simp [PX.get]), (by first | rfl | (simp only [List.length_map]; rfl) | simp [PX.get]), trivial⟩), rfl, hQ1 _ ⟨by simpa [hb] using he, hk', hrest⟩⟩
        | true =>
          conv => whnf
          refine DrawCall_fn (wa69o g hgl) [1600000] rfl ⟨_, _, rfl, rfl, rfl⟩ rfl ?_
          conv => whnf
          refine ownK_whole rfl ?_
          conv => whnf
          exact ⟨([g], kn'), (Wk.frzArr 1 [102112] 35 (vs := [[.sl 102112 1 0 g.length]]) (ds := [[intsD g]]) rfl (viewLL_one (viewL_cons (viewV_sl rfl (by simp [intsC])) rfl))).trans (Wk.sub trivial ⟨(by first | rfl | (simp only [List.length_map]; rfl) | simp [PX.get]), (by first | rfl | (simp only [List.length_map]; rfl) | simp [PX.get]), (by first | rfl | (simp only [List.length_map]; rfl) | simp [PX.get]), (by first | rfl | (simp only [List.length_map]; rfl) | simp [PX.get]), (by first | rfl | (simp only [List.length_map]; rfl) | simp [PX.get]), (by first | rfl | (simp only [List.length_map]; rfl) | simp [PX.get]), (by first | rfl | (simp only [List.length_map]; rfl) | simp [PX.get]), (by first | rfl | (simp only [List.length_map]; rfl) | simp [PX.get]), (by first | rfl | (simp only [List.length_map]; rfl) | simp [PX.get]), (by first | rfl | (simp only [List.length_map]; rfl) | simp [PX.get]), trivial⟩), rfl, hQ1 _ ⟨by simpa [hb] using he, hk', hrest⟩⟩
      | cons a r =>
        conv => whnf
        refine CallA_fn hE [1500006, 1500004, 1500005] rfl ?lent rfl ?_
        case lent => exact ⟨_, _, rfl, box_same rfl ⟨rfl, rfl, rfl, trivial⟩, _, _, rfl, rfl, _, _, rfl, rfl, rfl⟩
        cases hb : endB c (allMen c) u with
        | false =>
          conv => whnf
          exact ⟨(a :: r, kn'), (Wk.sub trivial ⟨(by first | rfl | (simp only [List.length_map]; rfl) | simp [PX.get]), (by first | rfl | (simp only [List.length_map]; rfl) | simp [PX.get]), (by first | rfl | (simp only [List.length_map]; rfl) | simp [PX.get]), (by first | rfl | (simp only [List.length_map]; rfl) | simp [PX.get]), (by first | rfl | (simp only [List.length_map]; rfl) | simp [PX.get]), (by first | rfl | (simp only [List.length_map]; rfl) | simp [PX.get]), (by first | rfl | (simp only [List.length_map]; rfl) | simp [PX.get]), (by first | rfl | (simp only [List.length_map]; rfl) | simp [PX.get]), (by first | rfl | (simp only [List.length_map]; rfl) | simp [PX.get]), (by first | rfl | (simp only [List.length_map]; rfl) | simp [PX.get]), trivial⟩), rfl, hQ1 _ ⟨by simpa [hb] using he, hk', hrest⟩⟩
        | true =>
          conv => whnf
          refine DrawCall_fn (wa69o g hgl) [1600000] rfl ⟨_, _, rfl, rfl, rfl⟩ rfl ?_
          conv => whnf
          refine ownK_whole rfl ?_
          conv => whnf
          refine ownK_whole (by simp [Els.len]) ?_
          conv => whnf
          have hacc : (a :: r).length ≤ 25 := by
            have h1 : ((nextG c t).map (·.1)).length ≤ 25 := by
              rw [List.length_map]; exact Nat.le_trans (List.length_filter_le ..) (groups_many hR)
            rw [he] at h1
            simp at h1 ⊢; omega
          have hfree : (true && !nameBL 35 ((injL ((a :: r).map fun r => [intsD r]) ++ [[V.sl 102112 1 0 g.length]]).flatten)) = true := by
            rw [nameBL_injL]; rfl
          refine chk_i hfree ?_
          conv => whnf
          refine chk_i (decide_eq_true (by
            show (((a :: r).map fun r => [intsD r]).length + 1) * 24 ≤ 140737488355328
            rw [List.length_map]; omega)) ?_
          conv => whnf
          refine forceN_to [102112, 35] (by
            show namesOfL ((injL ((a :: r).map fun r => [intsD r]) ++ [[V.sl 102112 1 0 g.length]]).flatten) ++ ([35] ++ []) = _
            rw [namesOfL_injL]; rfl) ?_
          conv => whnf
          refine ⟨(a :: r ++ [g], kn'), (Wk.frzArr 1 [102112] 35 (sz := 1) (vs := injL ((a :: r).map fun r => [intsD r]) ++ [[.sl 102112 1 0 g.length]]) (ds := ((a :: r).map fun r => [intsD r]) ++ [[intsD g]]) ?_ (viewLL_app (viewLL_one (viewL_cons (viewV_sl rfl (by simp [intsC])) rfl)) _)).trans ?_, rfl, hQ1 _ ⟨by simpa [hb] using he, hk', hrest⟩⟩
          · rfl
          · refine Wk.sub trivial ⟨rfl, rfl, ?_, rfl, rfl, rfl, rfl, rfl, ?_, rfl, trivial⟩
            · show some (Obj.box (Cells.vv [V.sl 35 1 0 (((a :: r).map fun r => [intsD r]).length + 1)])) = some (Obj.box (Cells.vv [V.sl 35 1 0 (a :: (r ++ [g])).length]))
              simp
            · show some (Obj.arr 1 (Els.dd (((a :: r).map fun r => [intsD r]) ++ [[intsD g]]))) = some (Obj.arr 1 (Els.dd ((a :: (r ++ [g])).map fun r => [intsD r])))
              simp
    · rintro ⟨acc, kn⟩ ⟨he, _, _⟩
      have he : (nextG c t).map (·.1) = acc := by simpa using he
      rw [he]
      cases acc with
      | nil =>
        conv => whnf
        exact RetA_hand [] [.d .nils, .d (i64 0)] (rotaH rota) rfl ⟨rfl, trivial⟩ rfl ⟨⟨rfl, rfl⟩, rfl⟩
      | cons a r =>
        conv => whnf
        refine RetA_wk ((Wk.frz 1 [35]).trans (Wk.sub (e' := enterE 0 [.d (rotaD (a :: r)), .d (i64 0)]) (h' := rotaH rota) ⟨congrArg some (repl_sl (viewV_sl rfl (by simp))), rfl, trivial⟩ ⟨rfl, trivial⟩)) rfl rfl ?_
        exact RetA_hand [] [.d (rotaD (a :: r)), .d (i64 0)] (rotaH rota) rfl ⟨rfl, trivial⟩ rfl ⟨⟨rfl, rfl⟩, rfl⟩
end Go.PX

namespace Go.PX
open Go.Proofs

/- Watch: WatchLongest. -/

theorem wa9 (c : WCase) (x : List Int) (hx : ∀ b ∈ x, 0 ≤ b ∧ b ≤ 255) : FnV Try.prog 9 [c.d, bytesD x] (.bool true) := by
  refine fnV_of mixed tysOk Try.func9 rfl (ft := ft9) 2 (by decide +kernel) (by rfl) fun {σ} Y st => ?_
  conv => whnf
  refine CallA_v (wa28 c) rfl rfl ?_
  conv => whnf
  by_cases hc : (checkW c).2.2 = 0
  · have hR := wR hc
    have hm := hR.men
    have hv : valW c = true := decide_eq_true hc
    have hE : entE c [] = 0 := by rw [ent_nil]; exact hc
    obtain ⟨hb1, hb2, hb3⟩ := lon_bd hR
    have hrot := fun (rota : List (List Int)) (h : GoodR c rota) (hn : 0 ≤ lonW c) => lon_rota hR h hn
    rw [hE, if_pos rfl]
    generalize lonW c = lon at hb1 hb2 hb3 hrot ⊢
    conv => whnf
    refine CallA_v (wa43 c) rfl rfl ?_
    conv => whnf
    rw [hv]
    conv => whnf
    refine brk_i (fun h => absurd h (by simp; omega)) (fun _ => ?_)
    conv => whnf
    refine brk_i (fun h1 => ?_) (fun h1 => ?_)
    · have h1 : 0 ≤ lon := of_decide_eq_true h1
      conv => whnf
      refine CallA_nil1 ?_
      refine CallA_v (ds := [c.d, rotaD [], bytesD x, i64 (40 : Nat)]) (wa47 c hR x hx [] (by simp) (fun r h => by cases h) 40 (by omega)) rfl rfl ?_
      obtain ⟨hg, _, _⟩ := any_good hR (x := x) (k := 40 - ([] : List (List Int)).length) (GoodR.nil c)
      have hl := hrot _ hg h1
      generalize anyF c x (40 - ([] : List (List Int)).length) [] = A at hl ⊢
      conv => whnf
      refine brk_i (fun _ => ?_) (fun h => absurd h (by simp; omega))
      conv => whnf
      refine CallA_v (wa27) rfl rfl ?_
      conv => whnf
      exact RetA_view 0 rfl ⟨⟨rfl, rfl⟩, rfl⟩
    · have h1 : lon = -1 := by have := of_decide_eq_false h1; omega
      have ha := hb3.1 h1
      conv => whnf
      refine LoopA_p (T := tys) tysOk (by exact drawsB_spec mixed tysOk (by decide +kernel)) (α := List (List Int)) (fun rota => ⟨[(1, .d (bytesD x)), (2, .ptr 2 0), (4, .d (.bool false)), (7, .sl 77 1 0 rota.length)], [(2, .box (.dd c.cells)), (77, .arr 1 (.dd (rota.map fun r => [intsD r])))], st⟩)
        (fun rota => GoodR c rota ∧ endB c (allMen c) (endT c rota) = true ∧ rota.length ≤ 10) (fun rota => 10 - rota.length) []
        ((Wk.born 7 77 1 rfl rfl rfl).trans (Wk.sub ⟨(by first | rfl | (simp only [List.length_map]; rfl) | simp [PX.get]), (by first | rfl | (simp only [List.length_map]; rfl) | simp [PX.get]), (by first | rfl | (simp only [List.length_map]; rfl) | simp [PX.get]), (by first | rfl | (simp only [List.length_map]; rfl) | simp [PX.get]), trivial⟩ ⟨(by first | rfl | (simp only [List.length_map]; rfl) | simp [PX.get]), (by first | rfl | (simp only [List.length_map]; rfl) | simp [PX.get]), trivial⟩)) ⟨GoodR.nil c, ha, by simp⟩ ?_
      rintro rota ⟨hg, hal, hrl⟩
      conv => whnf
      refine brk_i (fun h2 => ?_) (fun h2 => ?_)
      · have h2 : rota.length < 10 := by have := of_decide_eq_true h2; omega
        conv => whnf
        refine CallA_fn (wa25o c rota (hg.zero hc (by omega))) [77] rfl ⟨_, _, rfl, rfl, rfl⟩ rfl ?_
        have hns := next_some hR hg hal
        have hnl := (next_len hR (rota := rota)).1
        have hnm := fun g (h : g ∈ nextL c rota) => next_mem h
        generalize nextL c rota = N at hns hnl hnm ⊢
        cases N with
        | nil => exact absurd rfl hns
        | cons a l =>
          conv => whnf
          refine CallA_v (ds := [bytesD x, i64 rota.length]) (wa48 x hx rota.length) rfl rfl ?_
          have htb := turn_bd hx rota.length
          generalize turnF x rota.length = tn at htb ⊢
          conv => whnf
          rw [List.length_map]
          obtain ⟨tk, rfl⟩ : ∃ tk : Nat, tn = tk := ⟨tn.toNat, by omega⟩
          have hml : tk % (a :: l).length < (a :: l).length := Nat.mod_lt _ (by simp)
          have hte : ((tk : Int).tmod ((a :: l).length : Int)) = ((tk % (a :: l).length : Nat) : Int) := by
            rw [Int.tmod_eq_emod_of_nonneg (by omega)]; omega
          rw [hte]
          obtain ⟨g, hgx⟩ : ∃ g, (a :: l)[tk % (a :: l).length]? = some g := ⟨_, List.getElem?_eq_getElem hml⟩
          obtain ⟨u, hu, hau⟩ := hnm g (List.mem_of_getElem? hgx)
          obtain ⟨hg2, he2⟩ := hg.snoc hu
          have hgin := group_in hu
          have hgl : g.length ≤ 2 := groups_len hR hu
          have hlast : (rota ++ [g])[rota.length]? = some g := by simp
          refine elemK_nat hgx ?_
          conv => whnf
          refine ownK_whole rfl ?_
          conv => whnf
          refine ownK_whole (by simp [Els.len]) ?_
          conv => whnf
          refine chk_i (decide_eq_true (by
            show ((rota.map fun r => [intsD r]).length + 1) * 24 ≤ 140737488355328
            rw [List.length_map]; omega)) ?_
          conv => whnf
          refine LoopA_i (T := tys) tysOk (by exact drawsB_spec mixed tysOk (by decide +kernel)) g (fun i (_ : Unit) => ⟨[(1, .d (bytesD x)), (2, .ptr 2 0), (4, .d (.bool false)), (7, .sl 77 1 0 (rota ++ [g]).length), (10, .d (i64 i))], [(2, .box (.dd c.cells)), (77, .arr 1 (.dd ((rota ++ [g]).map fun r => [intsD r])))], st⟩)
            (fun i r _ => True) () (Wk.sub ⟨rfl, rfl, rfl, ?_, rfl, trivial⟩ ⟨rfl, ?_, trivial⟩) trivial ?_ ?_
          · show some (V.sl 77 1 0 ((rota.map fun r => [intsD r]).length + 1)) = _
            simp
          · show some (Obj.arr 1 (Els.dd ((rota.map fun r => [intsD r]) ++ [[intsD g]]))) = _
            simp
          · intro i y r _ hy hi hr _
            obtain ⟨hy1, hy2⟩ := hgin y (List.mem_of_getElem? hy)
            conv => whnf
            refine arith_to (rota.length : Int) (by simp) (wrap_i64 (by omega)) ?_
            conv => whnf
            refine chk_i (by simp; omega) ?_
            conv => whnf
            refine cellK_i [intsD g] (by rw [Nat.zero_add, Int.toNat_natCast, List.getElem?_map, hlast]; rfl) ?_
            conv => whnf
            refine brk_i (fun _ => ?_) (fun h => absurd hi (by have := of_decide_eq_false h; simp at this; omega))
            conv => whnf
            refine arith_to (rota.length : Int) (by simp) (wrap_i64 (by omega)) ?_
            conv => whnf
            refine chk_i (by simp; omega) ?_
            conv => whnf
            refine cellK_i [intsD g] (by rw [Nat.zero_add, Int.toNat_natCast, List.getElem?_map, hlast]; rfl) ?_
            conv => whnf
            refine elemK_nat hy ?_
            conv => whnf
            refine brk_i (fun h => absurd h (by simp; omega)) (fun _ => ?_)
            conv => whnf
            refine brk_i (fun h => absurd h (by simp; omega)) (fun _ => ?_)
            conv => whnf
            refine arith_in (wrap_i64 (by (try dsimp only); omega)) ?_
            conv => whnf
            exact ⟨(), trivial, (Wk.sub ⟨(by first | rfl | (simp only [List.length_map]; rfl) | simp [PX.get]), (by first | rfl | (simp only [List.length_map]; rfl) | simp [PX.get]), (by first | rfl | (simp only [List.length_map]; rfl) | simp [PX.get]), (by first | rfl | (simp only [List.length_map]; rfl) | simp [PX.get]), (by first | rfl | (simp only [List.length_map]; rfl) | simp [PX.get]), trivial⟩ ⟨(by first | rfl | (simp only [List.length_map]; rfl) | simp [PX.get]), (by first | rfl | (simp only [List.length_map]; rfl) | simp [PX.get]), trivial⟩)⟩
          · intro _ _
            conv => whnf
            refine arith_to (rota.length : Int) (by simp) (wrap_i64 (by omega)) ?_
            conv => whnf
            refine chk_i (by simp; omega) ?_
            conv => whnf
            refine cellK_i [intsD g] (by rw [Nat.zero_add, Int.toNat_natCast, List.getElem?_map, hlast]; rfl) ?_
            conv => whnf
            refine brk_i (fun h => absurd h (by simp)) (fun _ => ?_)
            conv => whnf
            exact ⟨rota ++ [g], by simp; omega, ⟨hg2, by rw [he2]; exact hau, by simp; omega⟩, (Wk.sub ⟨(by first | rfl | (simp only [List.length_map]; rfl) | simp [PX.get]), (by first | rfl | (simp only [List.length_map]; rfl) | simp [PX.get]), (by first | rfl | (simp only [List.length_map]; rfl) | simp [PX.get]), (by first | rfl | (simp only [List.length_map]; rfl) | simp [PX.get]), trivial⟩ ⟨(by first | rfl | (simp only [List.length_map]; rfl) | simp [PX.get]), (by first | rfl | (simp only [List.length_map]; rfl) | simp [PX.get]), trivial⟩)⟩
      · have hgw := hg.good
        unfold goodW at hgw
        conv => whnf
        refine CallA_view (ds := [c.d, rotaD rota]) (wa44 c hR rota (by omega) (hg.rows hR)) rfl 1 (viewL_cons rfl (viewL_cons (viewV_sl rfl (by simp)) rfl)) ?_
        rw [hgw]
        conv => whnf
        refine CallA_v (wa27) rfl rfl ?_
        conv => whnf
        exact RetA_view 0 rfl ⟨⟨rfl, rfl⟩, rfl⟩
  · have hv : valW c = false := decide_eq_false hc
    have hE : entE c [] ≠ 0 := by rw [ent_nil]; exact hc
    rw [if_neg hE]
    conv => whnf
    refine CallA_v (wa43 c) rfl rfl ?_
    conv => whnf
    rw [hv]
    conv => whnf
    refine brk_i (fun _ => ?_) (fun h => absurd h (by simp [hE]))
    conv => whnf
    refine CallA_v (wa27) rfl rfl ?_
    conv => whnf
    exact RetA_view 0 rfl ⟨⟨rfl, rfl⟩, rfl⟩
end Go.PX
