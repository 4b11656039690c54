import Derived.Test.YtpocldjdlookjaaPxO
import Derived.Test.YtpocldjdlookjaaPxJ
set_option linter.all false
set_option maxRecDepth 10000
namespace Go.PX
open Go.Proofs

/- Watch: cases that are alike: a rota of the one goes on in the other. -/

theorem why_of {c : WCase} {set : Int} {t : Tired} {s : Slot} {p : List Int} (h1 : (p.length : Int) = s.men) (h2 : ∃ m ∈ p, (manAt c m).kind ≥ s.least) (h3 : ∀ m ∈ p, inSet set m = true ∧ t.slot ∉ (manAt c m).no) (h4 : ∀ m ∈ p, t.get m.toNat < c.run) (h5 : ∀ m ∈ p, 0 ≤ t.get m.toNat) : (whyF c set t s p).1 = 0 := by
  unfold whyF
  rw [if_neg (by simpa using h1)]
  have e2 : (p.any fun m => decide ((manAt c m).kind ≥ s.least)) = true := by
    obtain ⟨m, hm, hk⟩ := h2
    exact List.any_eq_true.2 ⟨m, hm, decide_eq_true hk⟩
  rw [e2, if_neg (by simp)]
  have e3 : p.find? (fun m => !inSet set m || decide (t.slot ∈ (manAt c m).no)) = none := List.find?_eq_none.2 fun m hm => by
    obtain ⟨a, b⟩ := h3 m hm
    simp [a, b]
  have e4 : p.find? (fun m => decide (t.get m.toNat ≥ c.run)) = none := List.find?_eq_none.2 fun m hm => by
    have := h4 m hm
    simp; omega
  have e5 : p.find? (fun m => decide (t.get m.toNat < 0)) = none := List.find?_eq_none.2 fun m hm => by
    have := h5 m hm
    simp; omega
  rw [e3, e4, e5]

theorem sim_dead {c c' : WCase} {set set' : Int} (R : Tired → Tired → Prop) (hs : ∀ t t', R t t' → ∀ u ∈ succF c set t, ∃ u' ∈ succF c' set' t', R u u') : ∀ (n : Nat) (t t' : Tired), R t t' → deadN c' set' n t' → deadN c set n t ∧ hgtN c set n t ≤ hgtN c' set' n t'
  | 0, t, t', _, h => h.elim
  | n + 1, t, t', hr, h => by
    refine ⟨fun u hu => ?_, ?_⟩
    · obtain ⟨u', hu', hr'⟩ := hs t t' hr u hu
      exact (sim_dead R hs n u u' hr' (h u' hu')).1
    · rw [hgtN]
      refine (foldl_max_bd (by omega) (hgt_bd (c := c') (set := set') (n + 1) t').1 fun u hu => ?_).2
      obtain ⟨u', hu', hr'⟩ := hs t t' hr u hu
      have h1 := (sim_dead R hs n u u' hr' (h u' hu')).2
      have h2 := max_le (f := fun u => hgtN c' set' n u) (y := 0) hu'
      rw [hgtN]
      omega

theorem sim_alive {c c' : WCase} {set set' : Int} (R : Tired → Tired → Prop) (hs : ∀ t t', R t t' → ∀ u ∈ succF c set t, ∃ u' ∈ succF c' set' t', R u u') {t t' : Tired} (hr : R t t') (h : alive c set t) : alive c' set' t' :=
  fun n hd => h n (sim_dead R hs n t t' hr hd).1

/-- The same rows stand in both cases. -/
def SameRows (c c' : WCase) (set set' : Int) (R : Tired → Tired → Prop) : Prop :=
  ∀ t t' g, R t t' → ascF c.men.length (-1) g = 0 → (whyT c set t g).1 = 0 → ascF c'.men.length (-1) g = 0 ∧ (whyT c' set' t' g).1 = 0 ∧ R (behindF c t g) (behindF c' t' g)

theorem SameRows.group {c c' : WCase} {set set' : Int} {R : Tired → Tired → Prop} (h : SameRows c c' set set' R) {t t' : Tired} (hr : R t t') {x : List Int × Tired} (hx : x ∈ groupsF c set t) : (x.1, behindF c' t' x.1) ∈ groupsF c' set' t' ∧ R x.2 (behindF c' t' x.1) := by
  obtain ⟨hw, hu⟩ := group_why hx
  obtain ⟨h1, h2, h3⟩ := h t t' x.1 hr (group_asc hx) hw
  rw [hu]
  exact ⟨group_mem' h1 h2, h3⟩

theorem SameRows.succ {c c' : WCase} {set set' : Int} {R : Tired → Tired → Prop} (h : SameRows c c' set set' R) : ∀ t t', R t t' → ∀ u ∈ succF c set t, ∃ u' ∈ succF c' set' t', R u u' := by
  intro t t' hr u hu
  obtain ⟨x, hx, rfl⟩ := List.mem_map.1 hu
  obtain ⟨h1, h2⟩ := h.group hr hx
  exact ⟨_, List.mem_map.2 ⟨_, h1, rfl⟩, h2⟩

theorem SameRows.walk {c c' : WCase} {set set' : Int} {R : Tired → Tired → Prop} (h : SameRows c c' set set' R) : ∀ {l : List (List Int)} {t t' : Tired} {i : Int}, 0 ≤ i → R t t' → (walkF c set t l i).1.1 = -1 → (∀ r ∈ l, ascF c.men.length (-1) r = 0) → walkF c' set' t' l i = ((-1, 0, 0), (walkF c' set' t' l i).2) ∧ R (walkF c set t l i).2 (walkF c' set' t' l i).2 ∧ ∀ r ∈ l, ascF c'.men.length (-1) r = 0
  | [], t, t', i, _, hr, _, _ => ⟨rfl, hr, fun r h => by cases h⟩
  | g :: l, t, t', i, hi, hr, hw, ha => by
    rw [walkF] at hw
    split at hw
    · rename_i h1
      obtain ⟨h2, h3, h4⟩ := h t t' g hr (ha g (by simp)) h1
      rw [walkF, walkF, if_pos h3, if_pos h1]
      obtain ⟨a, b, d⟩ := h.walk (l := l) (by omega) h4 hw fun r hr => ha r (by simp [hr])
      refine ⟨a, b, fun r hr => ?_⟩
      rcases List.mem_cons.1 hr with rfl | hr
      · exact h2
      · exact d r hr
    · simp only at hw; omega

theorem SameRows.rota {c c' : WCase} {R : Tired → Tired → Prop} (h : SameRows c c' (allMen c) (allMen c') R) (h0 : R .zero .zero) {rota : List (List Int)} (hg : GoodR c rota) : GoodR c' rota ∧ R (endT c rota) (endT c' rota) := by
  obtain ⟨a, b, d⟩ := h.walk (Int.le_refl 0) h0 hg.good hg.asc
  exact ⟨⟨by unfold goodW; rw [a], d⟩, b⟩

theorem SameRows.next {c c' : WCase} (hR : WR c) (hR' : WR c') {R : Tired → Tired → Prop} (h : SameRows c c' (allMen c) (allMen c') R) (h0 : R .zero .zero) {rota : List (List Int)} (hg : GoodR c rota) : ∀ g ∈ nextL c rota, g ∈ nextL c' rota := by
  intro g hm
  obtain ⟨u, hu, ha⟩ := next_mem hm
  obtain ⟨hg', hr⟩ := h.rota h0 hg
  obtain ⟨h1, h2⟩ := h.group hr hu
  have hi := groups_InU hR (hg.InU hR) hu
  have hi' := groups_InU hR' (hg'.InU hR') h1
  have ha' := (endB_iff hR' hi').2 (sim_alive R h.succ h2 ((endB_iff hR hi).1 ha))
  exact List.mem_map.2 ⟨_, List.mem_filter.2 ⟨h1, ha'⟩, rfl⟩

theorem asc_more {a b : Int} (hab : a ≤ b) : ∀ {l : List Int} {last : Int}, ascF a last l = 0 → ascF b last l = 0
  | [], _, _ => rfl
  | x :: l, last, h => by
    rw [ascF] at h ⊢
    split at h
    case isFalse => cases h
    rename_i h1
    split at h
    · cases h
    rename_i h2
    rw [inB_iff] at h1
    rw [if_pos (by rw [inB_iff]; omega), if_neg h2]
    exact asc_more hab h

/-- One more man, behind all others. -/
def plusM (c : WCase) (m : Man) : WCase := { c with men := c.men ++ [m] }

def AsTired (n : Nat) (t t' : Tired) : Prop := t.slot = t'.slot ∧ ∀ j, j < n → t.get j = t'.get j

theorem plus_same {c : WCase} {m : Man} (hR : WR c) (hR' : WR (plusM c m)) : SameRows c (plusM c m) (allMen c) (allMen (plusM c m)) (AsTired c.men.length) := by
  intro t t' g hr ha hw
  have hm := hR.men
  have hm' := hR'.men
  have hlen : (plusM c m).men.length = c.men.length + 1 := by simp [plusM]
  have hin := asc_in ha
  have hin' : RowIn (plusM c m) g := fun x hx => by have := hin x hx; rw [hlen]; omega
  have hman : ∀ x ∈ g, manAt (plusM c m) x = manAt c x := by
    intro x hx
    have := hin x hx
    unfold manAt plusM
    simp only
    rw [List.getElem?_append_left (by omega)]
  obtain ⟨h1, ⟨x, hx, h2⟩, h3, h4, h5⟩ := why_zero hw
  have hsl : slotAt (plusM c m) t' = slotAt c t := by unfold slotAt; rw [hr.1]; rfl
  have hget : ∀ x ∈ g, t'.get x.toNat = t.get x.toNat := fun x hx => (hr.2 _ (by have := hin x hx; omega)).symm
  refine ⟨asc_more (by rw [hlen]; omega) ha, ?_, ?_, ?_⟩
  · unfold whyT
    rw [hsl]
    refine why_of h1 ⟨x, hx, by rw [hman x hx]; exact h2⟩ (fun y hy => ⟨inSet_all hR' (hin' y hy), ?_⟩) (fun y hy => ?_) (fun y hy => ?_)
    · rw [hman y hy, ← hr.1]; exact (h3 y hy).2
    · rw [hget y hy]; exact h4 y hy
    · rw [hget y hy]; exact h5 y hy
  · show (behindF c t g).slot = (behindF (plusM c m) t' g).slot
    unfold behindF
    rw [tireTo_slot, tireTo_slot]
    show (t.slot + 1).tmod _ = (t'.slot + 1).tmod _
    rw [hr.1]; rfl
  · intro j hj
    rw [behind_get hR (by omega), behind_get hR' (by omega), if_pos hj, if_pos (by rw [hlen]; omega), hr.2 j hj]
    rfl
end Go.PX

namespace Go.PX
open Go.Proofs

/- Watch: Gapped, has. -/

structure GapX where
  rota : List Int
  rows : Int
  empty : Int

def GapX.cells (x : GapX) : List D := [bytesD x.rota, .int .u8 x.rows, .int .u16 x.empty]
def GapX.d (x : GapX) : D := .agg x.cells

structure GapX.Ok (x : GapX) : Prop where
  rota : ∀ b ∈ x.rota, 0 ≤ b ∧ b ≤ 255
  rows : 0 ≤ x.rows ∧ x.rows ≤ 255
  empty : 0 ≤ x.empty ∧ x.empty ≤ 65535

def fullF (c : WCase) (x : GapX) : List (List Int) := anyF c x.rota (x.rows.toNat % 13) []
def bitE (e : Int) (i : Nat) : Bool := decide ((e.fdiv (2 ^ min (i : Int).toNat IntKind.u16.bits)).tmod 2 = 1)
def gapsD (e : Int) : Nat → List (List Int) → List (List D)
  | _, [] => []
  | i, r :: l => (if bitE e i then [.nils] else [intsD r]) :: gapsD e (i + 1) l
def gapsF (e : Int) : Nat → List (List Int) → List (List Int)
  | _, [] => []
  | i, r :: l => (if bitE e i then [] else r) :: gapsF e (i + 1) l

theorem gapsD_len (e : Int) : ∀ (l : List (List Int)) (i : Nat), (gapsD e i l).length = l.length
  | [], _ => rfl
  | r :: l, i => by rw [gapsD, List.length_cons, gapsD_len e l, List.length_cons]

theorem relax_ints (r : List Int) : relax (intsD r) = intsD r := by
  show D.vs (relaxE (r.map fun n => [i64 n])) = _
  congr 1
  induction r with
  | nil => rfl
  | cons x r ih =>
    show relaxL [i64 x] :: relaxE (r.map fun n => [i64 n]) = _
    rw [ih]; rfl

theorem relax_rota (l : List (List Int)) : relax (rotaD l) = rotaD l := by
  show D.vs (relaxE (l.map fun r => [intsD r])) = _
  congr 1
  induction l with
  | nil => rfl
  | cons x r ih =>
    show relaxL [intsD x] :: relaxE (r.map fun r => [intsD r]) = _
    rw [ih]
    show [relax (intsD x)] :: _ = _
    rw [relax_ints]; rfl

theorem relax_gaps (e : Int) : ∀ (l : List (List Int)) (i : Nat), relaxE (gapsD e i l) = (gapsF e i l).map fun r => [intsD r]
  | [], _ => rfl
  | r :: l, i => by
    rw [gapsD, gapsF]
    show relaxL _ :: relaxE (gapsD e (i + 1) l) = _
    rw [relax_gaps e l, List.map_cons]
    congr 1
    split
    · rfl
    · show [relax (intsD r)] = _
      rw [relax_ints]

theorem wa51 (c : WCase) (hR : WR c) (x : GapX) (hx : x.Ok) : FnV Try.prog 51 [c.d, x.d] (.tup [rotaD (fullF c x), rotaD (gapsF x.empty 0 (fullF c x))]) := by
  refine FnV.relax (r := .tup [rotaD (fullF c x), .vs (gapsD x.empty 0 (fullF c x))]) ?_ ?_
  · refine fnV_of mixed tysOk Try.func51 rfl (ft := ft51) 2 (by decide +kernel) (by rfl) fun {σ} Y st => ?_
    conv => whnf
    obtain ⟨hb, hr, he⟩ := hx
    refine arith_in (wrap_i64 (by (try dsimp only); omega)) ?_
    conv => whnf
    refine CallA_nil1 ?_
    have hrt : (x.rows.tmod 13) = ((x.rows.toNat % 13 : Nat) : Int) := by
      rw [Int.tmod_eq_emod_of_nonneg (by omega)]; omega
    rw [hrt]
    refine CallA_v (ds := [c.d, rotaD [], bytesD x.rota, i64 (x.rows.toNat % 13 : Nat)]) (wa47 c hR x.rota hb [] (by simp) (fun r h => by cases h) (x.rows.toNat % 13) (by omega)) rfl rfl ?_
    have hfl : fullF c x = anyF c x.rota (x.rows.toNat % 13 - 0) [] := rfl
    have hl : (fullF c x).length ≤ 13 := by
      have := (any_good hR (x := x.rota) (k := x.rows.toNat % 13) (GoodR.nil c)).2.1
      unfold fullF
      simp only [List.length_nil] at this
      omega
    rw [show ([] : List (List Int)).length = 0 from rfl, ← hfl]
    generalize fullF c x = full at hl ⊢
    clear hfl
    conv => whnf
    generalize hM : gapsD x.empty 0 full = M
    have hML : M.length ≤ 13 := by rw [← hM, gapsD_len]; exact hl
    refine LoopA_i (T := tys) tysOk (by exact drawsB_spec mixed tysOk (by decide +kernel)) full (fun i (acc : List (List D)) => ⟨[(3, .ptr 3 0), (6, .d (rotaD full)), (7, .sl 900000 1 0 acc.length), (8, .d (i64 i))], [(3, .box (.dd x.cells)), (900000, .arr 1 (.dd acc))], st⟩)
      (fun i r acc => acc.length ≤ i ∧ M = acc ++ gapsD x.empty i r) [] ((Wk.born 7 900000 1 rfl rfl rfl).trans (Wk.sub ⟨(by first | rfl | (simp only [List.length_map]; rfl) | simp [PX.get]), (by first | rfl | (simp only [List.length_map]; rfl) | simp [PX.get]), (by first | rfl | (simp only [List.length_map]; rfl) | simp [PX.get]), (by first | rfl | (simp only [List.length_map]; rfl) | simp [PX.get]), trivial⟩ ⟨(by first | rfl | (simp only [List.length_map]; rfl) | simp [PX.get]), (by first | rfl | (simp only [List.length_map]; rfl) | simp [PX.get]), trivial⟩)) ⟨by simp, hM.symm⟩ ?_ ?_
    · rintro i y r acc hy hi hr2 ⟨hal, hg⟩
      rw [gapsD] at hg
      conv => whnf
      refine brk_i (fun _ => ?_) (fun h => absurd hi (by have := of_decide_eq_false h; simp at this; omega))
      conv => whnf
      refine brk_i (fun h1 => ?_) (fun h1 => ?_)
      · have h1 : bitE x.empty i = true := h1
        rw [h1] at hg
        simp only [if_true] at hg
        conv => whnf
        refine ownK_whole rfl ?_
        conv => whnf
        refine ownK_whole (by simp [Els.len]) ?_
        conv => whnf
        refine chk_i (decide_eq_true (by
          show (acc.length + 1) * 24 ≤ 140737488355328
          omega)) ?_
        conv => whnf
        refine arith_in (wrap_i64 (by (try dsimp only); omega)) ?_
        conv => whnf
        refine ⟨acc ++ [[.nils]], ⟨by simp; omega, by rw [hg]; simp⟩, (Wk.move 31 900000 rfl rfl).trans (Wk.sub ⟨rfl, rfl, ?_, rfl, trivial⟩ ⟨rfl, rfl, trivial⟩)⟩
        show some (V.sl 900000 1 0 (acc.length + 1)) = _
        simp
      · have h1 : bitE x.empty i = false := h1
        rw [h1] at hg
        simp only [Bool.false_eq_true, if_false] at hg
        conv => whnf
        refine elemK_nat hy ?_
        conv => whnf
        refine ownK_whole rfl ?_
        conv => whnf
        refine ownK_whole (by simp [Els.len]) ?_
        conv => whnf
        refine chk_i (decide_eq_true (by
          show (acc.length + 1) * 24 ≤ 140737488355328
          omega)) ?_
        conv => whnf
        refine arith_in (wrap_i64 (by (try dsimp only); omega)) ?_
        conv => whnf
        refine ⟨acc ++ [[intsD y]], ⟨by simp; omega, by rw [hg]; simp⟩, (Wk.move 38 900000 rfl rfl).trans (Wk.sub ⟨rfl, rfl, ?_, rfl, trivial⟩ ⟨rfl, rfl, trivial⟩)⟩
        show some (V.sl 900000 1 0 (acc.length + 1)) = _
        simp
    · rintro acc ⟨_, hf⟩
      have hf : M = acc := by simpa [gapsD] using hf
      rw [hf]
      conv => whnf
      refine brk_i (fun h => absurd h (by simp)) (fun _ => ?_)
      conv => whnf
      refine RetA_view 1 (ds := [rotaD full, .vs acc]) ?_ ⟨⟨rfl, rfl⟩, rfl⟩
      exact viewL_cons rfl (viewL_cons (viewV_sl rfl rfl) rfl)
  · show D.tup [relax (rotaD _), D.vs (relaxE _)] = _
    rw [relax_rota, relax_gaps]; rfl

theorem wa54 (l : List (List Int)) (row : List Int) (hl : l.length < 1000000) (hr : ∀ r ∈ l, r.length < 1000000) : FnV Try.prog 54 [rotaD l, intsD row] (.bool (decide (row ∈ l))) := by
  refine fnV_of mixed tysOk Try.func54 rfl (ft := ft54) 2 (by decide +kernel) (by rfl) fun {σ} Y st => ?_
  conv => whnf
  refine LoopA_i (T := tys) tysOk (by exact drawsB_spec mixed tysOk (by decide +kernel)) l (fun i (_ : Unit) => ⟨[(0, .d (rotaD l)), (1, .d (intsD row)), (4, .d (.bool false)), (5, .d (i64 i))], [], st⟩)
    (fun i r _ => decide (row ∈ l) = decide (row ∈ r)) () (Wk.sub ⟨(by first | rfl | (simp only [List.length_map]; rfl) | simp [PX.get]), (by first | rfl | (simp only [List.length_map]; rfl) | simp [PX.get]), (by first | rfl | (simp only [List.length_map]; rfl) | simp [PX.get]), (by first | rfl | (simp only [List.length_map]; rfl) | simp [PX.get]), trivial⟩ trivial) rfl ?_ ?_
  · intro i x r _ hx hi hr' he
    have hxr := hr x (List.mem_of_getElem? hx)
    conv => whnf
    refine brk_i (fun _ => ?_) (fun h => absurd hi (by have := of_decide_eq_false h; simp at this; omega))
    conv => whnf
    refine elemK_nat hx ?_
    conv => whnf
    refine CallA_view (ds := [rotaD [x], rotaD [row]]) (wa24 [x] [row] (by simp) (by simpa using hxr)) rfl 1 rfl ?_
    conv => whnf
    refine brk_i (fun h1 => ?_) (fun h1 => ?_)
    · have h1 : x = row := by have := of_decide_eq_true h1; simpa using this
      conv => whnf
      rw [he, decide_eq_true (by rw [h1]; simp)]
      exact RetA_view 0 rfl ⟨⟨rfl, rfl⟩, rfl⟩
    · have h1 : ¬ x = row := by have := of_decide_eq_false h1; simpa using this
      conv => whnf
      refine arith_in (wrap_i64 (by (try dsimp only); omega)) ?_
      conv => whnf
      refine ⟨(), ?_, (Wk.sub ⟨(by first | rfl | (simp only [List.length_map]; rfl) | simp [PX.get]), (by first | rfl | (simp only [List.length_map]; rfl) | simp [PX.get]), (by first | rfl | (simp only [List.length_map]; rfl) | simp [PX.get]), (by first | rfl | (simp only [List.length_map]; rfl) | simp [PX.get]), trivial⟩ trivial)⟩
      rw [he]
      by_cases h2 : row ∈ r
      · rw [decide_eq_true h2, decide_eq_true (by simp [h2])]
      · rw [decide_eq_false h2, decide_eq_false (by
          intro h3
          rcases List.mem_cons.1 h3 with h3 | h3
          · exact h1 h3.symm
          · exact h2 h3)]
  · intro _ he
    rw [he]
    conv => whnf
    refine brk_i (fun h => absurd h (by simp)) (fun _ => ?_)
    conv => whnf
    exact RetA_view 0 rfl ⟨⟨rfl, rfl⟩, rfl⟩
end Go.PX

namespace Go.PX
open Go.Proofs Go.RowKit Go.ChangeShapes

theorem c5 : Try.prog.cellsOf 5 = 1 := by kernel_rfl
theorem c64 : Try.prog.cellsOf 64 = 1 := by kernel_rfl
theorem c58 : Try.prog.cellsOf 58 = 1 := by kernel_rfl
theorem c66 : Try.prog.cellsOf 66 = 3 := by kernel_rfl

theorem Rd.intw {P : Program} {W : World} {t : TypeId} {k : IntKind} (ht : P.underlying t = some (.int k)) : Rd P W t fun ds => ∃ n, ds = [.int k n] ∧ (Lit.int k n).wf = true := by
  refine ⟨?_⟩
  intro H enc sp held fuel cs x h
  obtain ⟨n, rfl, _, hw⟩ := DataW.trod_int ht h
  exact ⟨[.int k n], ⟨n, rfl, hw⟩, _, [], rfl, rfl, rfl⟩

theorem RepDL.one {F : Nat → Nat} {w : World} {d : D} {v : Value} (h : RepDL F w [d] [v]) : RepD F w d v := by
  obtain ⟨x, l', h1, hd, hl⟩ := h
  cases h1
  exact hd

section
variable (W : World)
theorem rdByte : Rd Try.prog W 5 fun ds => ∃ n, ds = [.int .u8 n] ∧ 0 ≤ n ∧ n ≤ 255 := (Rd.intw Try.underlying5).mono fun ds ⟨n, h, w⟩ => ⟨n, h, byteIn w⟩
theorem rdWord : Rd Try.prog W 64 fun ds => ∃ n, ds = [.int .u16 n] ∧ 0 ≤ n ∧ n ≤ 65535 := (Rd.intw Try.underlying64).mono fun ds ⟨n, h, w⟩ => ⟨n, h, wordIn w⟩

theorem rdBytes : Rd Try.prog W 58 fun ds => ∃ l : List Int, ds = [bytesD l] ∧ ∀ b ∈ l, 0 ≤ b ∧ b ≤ 255 :=
  (Rd.slice Try.underlying58 c5 (by omega) (rdByte W)).mono fun ds h => by
    obtain ⟨es, rfl, he⟩ := h
    have : ∃ l : List Int, es = l.map (fun b => [D.int .u8 b]) ∧ ∀ b ∈ l, 0 ≤ b ∧ b ≤ 255 := by
      induction es with
      | nil => exact ⟨[], rfl, fun b h => by cases h⟩
      | cons e r ih =>
        obtain ⟨l, h1, h2⟩ := ih fun x hx => he x (by simp [hx])
        obtain ⟨n, h3, h4⟩ := he e (by simp)
        refine ⟨n :: l, by rw [h3, h1]; rfl, fun b hb => ?_⟩
        rcases List.mem_cons.1 hb with rfl | hb
        · exact h4
        · exact h2 b hb
    obtain ⟨l, rfl, h2⟩ := this
    exact ⟨l, rfl, h2⟩

theorem rdGap : Rd Try.prog W 66 fun ds => ∃ x : GapX, ds = x.cells ∧ x.Ok :=
  (Rd.struct Try.underlying66 c66 (.cons rfl c58 (rdBytes W) (.cons rfl c5 (rdByte W) (.cons rfl c64 (rdWord W) (.nil _))))).mono fun ds h => by
    obtain ⟨_, _, rfl, ⟨a, rfl, ha⟩, _, _, rfl, ⟨b, rfl, hb⟩, _, _, rfl, ⟨d, rfl, hd⟩, rfl⟩ := h
    exact ⟨⟨a, b, d⟩, rfl, ⟨ha, hb, hd⟩⟩
end
end Go.PX

namespace Go.PX
open Go.Proofs

/- Watch: a case with some men alone. -/

def idxL (n : Nat) (p : Nat → Bool) : List Nat := (List.range n).filter p
def natI (l : List Nat) : List Int := l.map fun (i : Nat) => (i : Int)
def subF (c : WCase) (L : List Nat) : WCase := { c with men := L.map fun (i : Nat) => manAt c i }

structure SubL (n : Nat) (L : List Nat) : Prop where
  lt : ∀ m ∈ L, m < n
  asc : L.Pairwise (· < ·)

theorem idx_sub (n : Nat) (p : Nat → Bool) : SubL n (idxL n p) :=
  ⟨fun m hm => List.mem_range.1 (List.mem_filter.1 hm).1, List.Pairwise.filter _ List.pairwise_lt_range⟩

theorem SubL.mono {n : Nat} {L : List Nat} (h : SubL n L) {i j a b : Nat} (ha : L[i]? = some a) (hb : L[j]? = some b) : i < j ↔ a < b := by
  obtain ⟨h1, h2⟩ := List.getElem?_eq_some_iff.1 ha
  obtain ⟨h3, h4⟩ := List.getElem?_eq_some_iff.1 hb
  have hp := List.pairwise_iff_getElem.1 h.asc
  constructor
  · intro hij
    have := hp i j h1 h3 hij
    omega
  · intro hab
    rcases Nat.lt_trichotomy i j with h5 | h5 | h5
    · exact h5
    · subst h5; omega
    · have := hp j i h3 h1 h5
      omega

theorem SubL.inj {n : Nat} {L : List Nat} (h : SubL n L) {i j a : Nat} (ha : L[i]? = some a) (hb : L[j]? = some a) : i = j := by
  have h1 := h.mono ha hb
  have h2 := h.mono hb ha
  omega

theorem firstE_sub {α : Type} {f : List α → α → Int} (hf : ∀ b b' x, (∀ y ∈ b', y ∈ b) → f b x = 0 → f b' x = 0) : ∀ {l' l : List α}, l'.Sublist l → ∀ {b b' : List α} {i j : Int}, (∀ y ∈ b', y ∈ b) → (firstE f b l i).2 = 0 → (firstE f b' l' j).2 = 0 := by
  intro l' l hs
  induction hs with
  | slnil => intro b b' i j _ _; rfl
  | cons a hs ih =>
    intro b b' i j hb h
    simp only [firstE] at h
    split at h
    · exact ih (fun y hy => by simp [hb y hy]) h
    · rename_i h0; exact absurd h h0
  | cons_cons a hs ih =>
    intro b b' i j hb h
    simp only [firstE] at h ⊢
    split at h
    · rename_i h0
      rw [if_pos (hf b b' a hb h0)]
      refine ih (fun y hy => ?_) h
      rcases List.mem_append.1 hy with hy | hy
      · simp [hb y hy]
      · simp only [List.mem_singleton] at hy
        simp [hy]
    · rename_i h0; exact absurd h h0

theorem manF_anti {s : Int} (b b' : List Man) (x : Man) (hb : ∀ y ∈ b', y ∈ b) (h : manF s b x = 0) : manF s b' x = 0 := by
  unfold manF at h ⊢
  split at h
  case isFalse => cases h
  rename_i a1
  split at h
  · cases h
  rename_i a2
  rw [if_pos a1, if_neg]
  · exact h
  · intro h3
    apply a2
    obtain ⟨y, hy, he⟩ := List.any_eq_true.1 h3
    exact List.any_eq_true.2 ⟨y, hb y hy, he⟩

theorem men_all (c : WCase) : (List.range c.men.length).map (fun (i : Nat) => manAt c i) = c.men := by
  apply List.ext_getElem?
  intro i
  rw [List.getElem?_map]
  by_cases h : i < c.men.length
  · rw [List.getElem?_range h]
    unfold manAt
    simp [List.getElem?_eq_getElem h]
  · rw [List.getElem?_eq_none (by simpa using h), List.getElem?_eq_none (by omega)]
    rfl

theorem sub_valid {c : WCase} (hv : (checkW c).2.2 = 0) (p : Nat → Bool) (hne : idxL c.men.length p ≠ []) : (checkW (subF c (idxL c.men.length p))).2.2 = 0 := by
  have hR := wR hv
  have hm := hR.men
  have hz := hv
  have hl1 : 1 ≤ (idxL c.men.length p).length := List.length_pos_iff.2 hne
  have hl2 : (idxL c.men.length p).length ≤ c.men.length := by
    have := List.length_filter_le p (List.range c.men.length)
    rw [List.length_range] at this
    exact this
  unfold checkW at hz ⊢
  have hml : (subF c (idxL c.men.length p)).men.length = (idxL c.men.length p).length := by simp [subF]
  rw [hml]
  split at hz
  case isFalse => cases hz
  rename_i h0
  have h0' : (inB ((idxL c.men.length p).length : Int) 1 5 && inB ((subF c (idxL c.men.length p)).slots.length : Int) 1 6) = true := by
    simp only [Bool.and_eq_true, inB_iff] at h0 ⊢
    exact ⟨by omega, h0.2⟩
  rw [if_pos h0']
  split at hz
  case isFalse => cases hz
  rename_i h1
  rw [if_pos (show (inB (subF c (idxL c.men.length p)).run 1 3 && inB (subF c (idxL c.men.length p)).rest 1 3) = true from h1)]
  dsimp only at hz ⊢
  by_cases h2 : (firstE slotF [] c.slots 0).2 = 0
  · rw [if_pos h2] at hz
    rw [if_pos (show (firstE slotF [] (subF c (idxL c.men.length p)).slots 0).2 = 0 from h2)]
    unfold checkM at hz ⊢
    dsimp only at hz ⊢
    by_cases h3 : (firstE (manF c.slots.length) [] c.men 0).2 = 0
    · have h3' : (firstE (manF (subF c (idxL c.men.length p)).slots.length) [] (subF c (idxL c.men.length p)).men 0).2 = 0 := by
        refine firstE_sub (f := manF c.slots.length) manF_anti (l := c.men) ?_ (fun y hy => hy) h3
        have : ((List.range c.men.length).filter p).map (fun (i : Nat) => manAt c i) |>.Sublist ((List.range c.men.length).map fun (i : Nat) => manAt c i) := (List.filter_sublist).map _
        rw [men_all] at this
        exact this
      rw [if_pos h3']
    · rw [if_neg h3] at hz; exact absurd hz h3
  · rw [if_neg h2] at hz; exact absurd hz h2

def upG (L : List Nat) (g : List Int) : List Int := g.map fun k => ((L.getD k.toNat 0 : Nat) : Int)
def dnG (L : List Nat) (G : List Int) : List Int := G.map fun m => ((L.idxOf m.toNat : Nat) : Int)

theorem up_asc {n : Nat} {L : List Nat} (h : SubL n L) : ∀ {g : List Int} {last last' : Int}, (∀ (k a : Nat), L[k]? = some a → last < k → last' < a) → ascF L.length last g = 0 → ascF n last' (upG L g) = 0
  | [], _, _, _, _ => rfl
  | x :: g, last, last', hl, ha => by
    rw [ascF] at ha
    split at ha
    case isFalse => cases ha
    rename_i h1
    split at ha
    · cases ha
    rename_i h2
    rw [inB_iff] at h1
    obtain ⟨k, rfl⟩ : ∃ k : Nat, x = k := ⟨x.toNat, by omega⟩
    have hk : k < L.length := by omega
    have hg : L[k]? = some L[k] := List.getElem?_eq_getElem hk
    have he : ((L.getD (k : Int).toNat 0 : Nat) : Int) = (L[k] : Nat) := by
      rw [Int.toNat_natCast, List.getD_eq_getElem?_getD, hg]; rfl
    show ascF n last' (((L.getD (k : Int).toNat 0 : Nat) : Int) :: upG L g) = 0
    rw [he, ascF]
    have hlt := h.lt _ (List.mem_of_getElem? hg)
    have h3 := hl k _ hg (by omega)
    rw [if_pos (by rw [inB_iff]; omega), if_neg (by omega)]
    exact up_asc h (fun i a hi hki => by
      have := (h.mono hg hi).1 (by omega)
      omega) ha

theorem dn_asc {n : Nat} {L : List Nat} (h : SubL n L) : ∀ {G : List Int} {last last' : Int}, (∀ (k a : Nat), L[k]? = some a → last < a → last' < k) → (∀ m ∈ G, m.toNat ∈ L) → ascF n last G = 0 → ascF L.length last' (dnG L G) = 0
  | [], _, _, _, _, _ => rfl
  | x :: G, last, last', hl, hG, ha => by
    rw [ascF] at ha
    split at ha
    case isFalse => cases ha
    rename_i h1
    split at ha
    · cases ha
    rename_i h2
    rw [inB_iff] at h1
    have hx := hG x (by simp)
    have hi := List.idxOf_lt_length_iff.2 hx
    have hg : L[L.idxOf x.toNat]? = some x.toNat := by
      rw [List.getElem?_eq_getElem hi, List.getElem_idxOf hi]
    show ascF L.length last' (((L.idxOf x.toNat : Nat) : Int) :: dnG L G) = 0
    rw [ascF]
    have h3 := hl _ _ hg (by omega)
    rw [if_pos (by rw [inB_iff]; omega), if_neg (by omega)]
    exact dn_asc h (fun i a hi hki => by
      have := (h.mono hg hi).2 (by omega)
      omega) (fun m hm => hG m (by simp [hm])) ha

theorem up_dn {n : Nat} {L : List Nat} (h : SubL n L) {G : List Int} (hG : ∀ m ∈ G, m.toNat ∈ L ∧ 0 ≤ m) : upG L (dnG L G) = G := by
  unfold upG dnG
  rw [List.map_map]
  have : ∀ m ∈ G, ((fun k : Int => ((L.getD k.toNat 0 : Nat) : Int)) ∘ fun m : Int => ((L.idxOf m.toNat : Nat) : Int)) m = m := by
    intro m hm
    obtain ⟨h1, h2⟩ := hG m hm
    have hi := List.idxOf_lt_length_iff.2 h1
    show ((L.getD ((L.idxOf m.toNat : Nat) : Int).toNat 0 : Nat) : Int) = m
    rw [Int.toNat_natCast, List.getD_eq_getElem?_getD, List.getElem?_eq_getElem hi, Option.getD_some, List.getElem_idxOf hi]
    omega
  rw [List.map_congr_left this]
  simp
end Go.PX

namespace Go.PX
open Go.Proofs

/- Watch: some men alone, and a crew of them. -/

def AsSub (L : List Nat) (t T : Tired) : Prop := t.slot = T.slot ∧ ∀ k m, L[k]? = some m → t.get k = T.get m

theorem up_mem {L : List Nat} {g : List Int} {m : Int} (h : m ∈ upG L g) : ∃ k ∈ g, m = ((L.getD k.toNat 0 : Nat) : Int) := by
  obtain ⟨k, hk, he⟩ := List.mem_map.1 h
  exact ⟨k, hk, he.symm⟩

theorem at_get {L : List Nat} {k : Int} (h : 0 ≤ k ∧ k < L.length) : L[k.toNat]? = some (L.getD k.toNat 0) := by
  have : k.toNat < L.length := by omega
  rw [List.getD_eq_getElem?_getD, List.getElem?_eq_getElem this]; rfl

theorem sub_man {c : WCase} {L : List Nat} {k : Int} (h : 0 ≤ k ∧ k < L.length) : manAt (subF c L) k = manAt c ((L.getD k.toNat 0 : Nat) : Int) := by
  have h1 := at_get h
  unfold manAt subF
  simp only [List.getElem?_map, h1, Option.map_some, Option.getD_some]
  rfl

theorem sub_why {c : WCase} {L : List Nat} (hl : SubL c.men.length L) {S : Int} (hR' : WR (subF c L)) (hS : ∀ m ∈ L, inSet S (m : Int) = true) {t T : Tired} (hr : AsSub L t T) {g : List Int} (hg : ∀ k ∈ g, 0 ≤ k ∧ k < L.length) :
    (whyT (subF c L) (allMen (subF c L)) t g).1 = 0 ↔ (whyT c S T (upG L g)).1 = 0 := by
  have hlen : (subF c L).men.length = L.length := by simp [subF]
  have hsl : slotAt c T = slotAt (subF c L) t := by unfold slotAt; rw [← hr.1]; rfl
  have hin : ∀ k ∈ g, inSet (allMen (subF c L)) k = true := fun k hk => inSet_all hR' (by rw [hlen]; exact hg k hk)
  have hget : ∀ k ∈ g, t.get k.toNat = T.get (L.getD k.toNat 0) := fun k hk => hr.2 _ _ (at_get (hg k hk))
  have hmem : ∀ k ∈ g, L.getD k.toNat 0 ∈ L := fun k hk => List.mem_of_getElem? (at_get (hg k hk))
  have hup : ∀ k ∈ g, ((L.getD k.toNat 0 : Nat) : Int) ∈ upG L g := fun k hk => List.mem_map.2 ⟨k, hk, rfl⟩
  have hlu : (upG L g).length = g.length := by simp [upG]
  unfold whyT
  rw [hsl]
  constructor
  · intro hw
    obtain ⟨h1, ⟨x, hx, h2⟩, h3, h4, h5⟩ := why_zero hw
    refine why_of (by rw [hlu]; exact h1) ⟨_, hup x hx, by rw [← sub_man (hg x hx)]; exact h2⟩ (fun m hm => ?_) (fun m hm => ?_) (fun m hm => ?_)
    all_goals
      obtain ⟨k, hk, rfl⟩ := up_mem hm
    · refine ⟨hS _ (hmem k hk), ?_⟩
      rw [← sub_man (hg k hk), ← hr.1]
      exact (h3 k hk).2
    · rw [Int.toNat_natCast, ← hget k hk]; exact h4 k hk
    · rw [Int.toNat_natCast, ← hget k hk]; exact h5 k hk
  · intro hw
    obtain ⟨h1, ⟨x, hx, h2⟩, h3, h4, h5⟩ := why_zero hw
    obtain ⟨k0, hk0, rfl⟩ := up_mem hx
    refine why_of (by rw [← hlu]; exact h1) ⟨k0, hk0, by rw [sub_man (hg k0 hk0)]; exact h2⟩ (fun k hk => ⟨hin k hk, ?_⟩) (fun k hk => ?_) (fun k hk => ?_)
    · rw [sub_man (hg k hk), hr.1]
      exact (h3 _ (hup k hk)).2
    · have := h4 _ (hup k hk)
      rw [Int.toNat_natCast, ← hget k hk] at this
      exact this
    · have := h5 _ (hup k hk)
      rw [Int.toNat_natCast, ← hget k hk] at this
      exact this

theorem sub_behind {c : WCase} (hR : WR c) {L : List Nat} (hl : SubL c.men.length L) (hR' : WR (subF c L)) {t T : Tired} (hr : AsSub L t T) {g : List Int} (hg : ∀ k ∈ g, 0 ≤ k ∧ k < L.length) : AsSub L (behindF (subF c L) t g) (behindF c T (upG L g)) := by
  have hm := hR.men
  have hm' := hR'.men
  have hlen : (subF c L).men.length = L.length := by simp [subF]
  refine ⟨?_, fun k m hk => ?_⟩
  · show (behindF (subF c L) t g).slot = (behindF c T (upG L g)).slot
    unfold behindF
    rw [tireTo_slot, tireTo_slot]
    show (t.slot + 1).tmod _ = (T.slot + 1).tmod _
    rw [hr.1]; rfl
  · have hkl : k < L.length := (List.getElem?_eq_some_iff.1 hk).1
    have hmn := hl.lt m (List.mem_of_getElem? hk)
    rw [behind_get hR' (by omega), behind_get hR (by omega), if_pos (by rw [hlen]; exact hkl), if_pos hmn, hr.2 k m hk]
    have : decide ((k : Int) ∈ g) = decide ((m : Int) ∈ upG L g) := by
      by_cases h : (k : Int) ∈ g
      · rw [decide_eq_true h, decide_eq_true]
        refine List.mem_map.2 ⟨k, h, ?_⟩
        rw [Int.toNat_natCast, List.getD_eq_getElem?_getD, hk]; rfl
      · rw [decide_eq_false h, decide_eq_false]
        intro h2
        obtain ⟨k', hk', he⟩ := up_mem h2
        have h3 := at_get (hg k' hk')
        have h4 : L.getD k'.toNat 0 = m := by omega
        rw [h4] at h3
        have h5 := hl.inj h3 hk
        have h6 := hg k' hk'
        exact h (by rw [show (k : Int) = k' by omega]; exact hk')
    rw [this]
    rfl

theorem asc_in' {n : Nat} : ∀ {l : List Int} {last : Int}, ascF n last l = 0 → ∀ k ∈ l, 0 ≤ k ∧ k < n
  | [], _, _, k, h => by cases h
  | x :: l, last, h, k, hk => by
    rw [ascF] at h
    split at h
    case isFalse => cases h
    rename_i h1
    rw [inB_iff] at h1
    split at h
    · cases h
    rcases List.mem_cons.1 hk with rfl | hk
    · omega
    · exact asc_in' h k hk

/-- Some men alone can go on for ever if a crew of them can. -/
theorem sub_end {c : WCase} (hR : WR c) {L : List Nat} (hl : SubL c.men.length L) (hR' : WR (subF c L)) {S : Int} (hS : ∀ m, m < c.men.length → (inSet S (m : Int) = true ↔ m ∈ L)) : endB (subF c L) (allMen (subF c L)) .zero = endB c S .zero := by
  have hlen : (subF c L).men.length = L.length := by simp [subF]
  have h0 : AsSub L .zero .zero := by
    refine ⟨rfl, fun k m hk => ?_⟩
    have : ∀ j, Tired.get .zero j = 0 := fun j => by
      match j with
      | 0 => rfl
      | 1 => rfl
      | 2 => rfl
      | 3 => rfl
      | _ + 4 => rfl
    rw [this, this]
  have hSin : ∀ m ∈ L, inSet S (m : Int) = true := fun m hm => (hS m (hl.lt m hm)).2 hm
  have fwd : ∀ t T, AsSub L t T → ∀ u ∈ succF (subF c L) (allMen (subF c L)) t, ∃ u' ∈ succF c S T, AsSub L u u' := by
    intro t T hr u hu
    obtain ⟨x, hx, rfl⟩ := List.mem_map.1 hu
    obtain ⟨hw, he⟩ := group_why hx
    have ha := group_asc hx
    rw [hlen] at ha
    have hg : ∀ k ∈ x.1, 0 ≤ k ∧ k < L.length := asc_in' ha
    have hw2 := (sub_why hl hR' hSin hr hg).1 hw
    have hp := group_mem' (up_asc hl (last := -1) (last' := -1) (fun k a _ _ => by omega) ha) hw2
    exact ⟨_, List.mem_map.2 ⟨_, hp, rfl⟩, by rw [he]; exact sub_behind hR hl hR' hr hg⟩
  have bwd : ∀ T t, AsSub L t T → ∀ u ∈ succF c S T, ∃ u' ∈ succF (subF c L) (allMen (subF c L)) t, AsSub L u' u := by
    intro T t hr u hu
    obtain ⟨x, hx, rfl⟩ := List.mem_map.1 hu
    obtain ⟨hw, he⟩ := group_why hx
    have ha := group_asc hx
    have hin := asc_in ha
    obtain ⟨_, _, h3, _, _⟩ := why_zero hw
    have hG : ∀ m ∈ x.1, m.toNat ∈ L ∧ 0 ≤ m := fun m hm => by
      have h1 := hin m hm
      refine ⟨(hS m.toNat (by omega)).1 ?_, h1.1⟩
      rw [show ((m.toNat : Nat) : Int) = m by omega]
      exact (h3 m hm).1
    have ha2 := dn_asc hl (last := -1) (last' := -1) (fun k a _ _ => by omega) (fun m hm => (hG m hm).1) ha
    have hud := up_dn hl hG
    have hg := asc_in' ha2
    have hw2 := (sub_why (g := dnG L x.1) hl hR' hSin hr hg).2 (by rw [hud]; exact hw)
    have hp := group_mem' (c := subF c L) (by rw [hlen]; exact ha2) hw2
    refine ⟨_, List.mem_map.2 ⟨_, hp, rfl⟩, ?_⟩
    rw [he]
    have := sub_behind hR hl hR' hr hg
    rw [hud] at this
    exact this
  have hz := endB_iff hR (set := S) (InU.zero hR)
  have hz' := endB_iff hR' (set := allMen (subF c L)) (InU.zero hR')
  rw [Bool.eq_iff_iff, hz, hz']
  exact ⟨fun h => sim_alive (AsSub L) fwd h0 h, fun h => sim_alive (fun T t => AsSub L t T) bwd h0 h⟩
end Go.PX

namespace Go.PX
open Go.Proofs

/- Watch: WatchFurther. -/

def Man.d (m : Man) : D := .agg m.cells

theorem val_WR {c : WCase} (h : valW c = true) : WR c := wR (of_decide_eq_true h)
theorem val_chk {c : WCase} (h : valW c = true) : (checkW c).2.2 = 0 := of_decide_eq_true h

theorem replO_vv {g : Nat → Option DO} {l : List V} {l' : List D} (h : dsOf (replL g l) = some l') : replO g (.box (.vv l)) = .box (.dd l') := by
  simp only [replO, h]

theorem next_len {c : WCase} (hR : WR c) {rota : List (List Int)} : (nextL c rota).length ≤ 25 ∧ ∀ r ∈ nextL c rota, r.length ≤ 2 := by
  refine ⟨?_, fun r hr => ?_⟩
  · unfold nextL nextG
    rw [List.length_map]
    exact Nat.le_trans (List.length_filter_le ..) (groups_many hR)
  · obtain ⟨u, hu, _⟩ := next_mem hr
    exact groups_len hR hu

theorem wa14 (c : WCase) (x : GapX) (hx : x.Ok) (m : Man) : FnV Try.prog 14 [c.d, x.d, m.d] (.bool true) := by
  refine fnV_of mixed tysOk Try.func14 rfl (ft := ft14) 3 (by decide +kernel) (by rfl) fun {σ} Y st => ?_
  conv => whnf
  refine CallA_v (wa43 c) rfl rfl ?_
  conv => whnf
  cases hv : valW c with
  | false =>
    conv => whnf
    refine CallA_v (wa27) rfl rfl ?_
    conv => whnf
    exact RetA_view 0 rfl ⟨⟨rfl, rfl⟩, rfl⟩
  | true =>
    have hR := val_WR hv
    have hm := hR.men
    conv => whnf
    refine ownK_whole rfl ?_
    conv => whnf
    refine chk_i (by rw [Bool.and_eq_true]; exact ⟨lenAllD_map (fun _ => ⟨rfl, rfl⟩) _, rfl⟩) ?_
    conv => whnf
    refine chk_i (decide_eq_true (by
      show (0 + (c.men.map Man.cells).length) * 48 ≤ 140737488355328
      rw [List.length_map]; omega)) ?_
    conv => whnf
    refine ownK_whole rfl ?_
    conv => whnf
    refine ownK_whole (by simp [Els.len]) ?_
    conv => whnf
    refine chk_i (decide_eq_true (by
      show (([] ++ c.men.map Man.cells).length + 1) * 48 ≤ 140737488355328
      simp; omega)) ?_
    conv => whnf
    generalize hc2 : plusM c m = c2
    have hcd : V.d c2.d = .d (.agg [mansD (c.men ++ [m]), slotsD c.slots, i64 c.run, i64 c.rest]) := by rw [← hc2]; rfl
    refine CallA_sub (e' := [(3, .ptr 3 0), (4, .ptr 4 0), (6, .d (.bool false)), (7, .ptr 7 0)]) (h' := [(3, .box (.dd c.cells)), (4, .box (.dd x.cells)), (7, .box (.vv [.sl 30 3 0 (c.men.length + 1), .d (slotsD c.slots), .d (i64 c.run), .d (i64 c.rest)])), (30, .arr 3 (.dd ((c.men ++ [m]).map Man.cells)))]) (args' := [.agg [.sl 30 3 0 (c.men.length + 1), .d (slotsD c.slots), .d (i64 c.run), .d (i64 c.rest)]]) ⟨rfl, rfl, rfl, rfl, trivial⟩ ⟨rfl, rfl, ?_, ?_, trivial⟩ ?_ ?_
    · show some (Obj.box (Cells.vv [.sl 30 3 0 (([] ++ c.men.map Man.cells).length + 1), .d (slotsD c.slots), .d (i64 c.run), .d (i64 c.rest)])) = _
      simp
    · show some (Obj.arr 3 (Els.dd (([] ++ c.men.map Man.cells) ++ [m.cells]))) = _
      simp
    · show [V.agg [V.sl 30 3 0 (([] ++ c.men.map Man.cells).length + 1), .d (slotsD c.slots), .d (i64 c.run), .d (i64 c.rest)]] = _
      simp
    refine CallA_frz 2 [30] ?_
    have hrp : ∀ (h : Heap), get h 30 = some (.arr 3 (.dd ((c.men ++ [m]).map Man.cells))) → replL (objD h 2) [.sl 30 3 0 (c.men.length + 1), .d (slotsD c.slots), .d (i64 c.run), .d (i64 c.rest)] = [.d (mansD (c.men ++ [m])), .d (slotsD c.slots), .d (i64 c.run), .d (i64 c.rest)] := by
      intro h hh
      show [repl _ (V.sl 30 3 0 (c.men.length + 1)), _, _, _] = _
      rw [repl_sl (viewV_sl hh (by simp))]
      rfl
    refine CallA_sub (e' := [(3, .ptr 3 0), (4, .ptr 4 0), (6, .d (.bool false)), (7, .ptr 7 0)]) (h' := [(3, .box (.dd c.cells)), (4, .box (.dd x.cells)), (7, .box (.dd c2.cells))]) (args' := [.d c2.d]) ⟨rfl, rfl, rfl, rfl, trivial⟩ ⟨rfl, rfl, ?_, trivial⟩ ?_ ?_
    · refine congrArg some (replO_vv ?_)
      rw [hrp _ rfl, ← hc2]; rfl
    · show [mkAgg (replL (objD (keepT [30] [(3, .box (.dd c.cells)), (4, .box (.dd x.cells)), (7, .box (.vv [.sl 30 3 0 (c.men.length + 1), .d (slotsD c.slots), .d (i64 c.run), .d (i64 c.rest)])), (30, .arr 3 (.dd ((c.men ++ [m]).map Man.cells)))]) 2) _)] = _
      rw [hrp _ rfl, ← hc2]; rfl
    refine CallA_v (ds := [c2.d]) (wa43 c2) rfl rfl ?_
    cases hv2 : valW c2 with
    | false =>
      conv => whnf
      refine CallA_v (wa27) rfl rfl ?_
      conv => whnf
      exact RetA_view 0 rfl ⟨⟨rfl, rfl⟩, rfl⟩
    | true =>
      have hR2 := val_WR hv2
      conv => whnf
      refine CallA_v (ds := [c.d, x.d]) (wa51 c hR x hx) rfl rfl ?_
      have hfg := any_good hR (x := x.rota) (k := x.rows.toNat % 13) (GoodR.nil c)
      obtain ⟨hg, hlen, _⟩ := hfg
      have hg : GoodR c (fullF c x) := hg
      have hlen : (fullF c x).length ≤ 40 := by
        have : (fullF c x).length ≤ 0 + x.rows.toNat % 13 := hlen
        omega
      generalize fullF c x = full at hg hlen ⊢
      have hsame : SameRows c c2 (allMen c) (allMen c2) (AsTired c.men.length) := by
        subst hc2; exact plus_same hR hR2
      have h00 : AsTired c.men.length .zero .zero := ⟨rfl, fun j _ => rfl⟩
      obtain ⟨hg2, _⟩ := hsame.rota h00 hg
      have hB : badF c2 full = (-1, 0, 0, 0) := by
        obtain ⟨a, _, _⟩ := hsame.walk (Int.le_refl 0) h00 hg.good hg.asc
        unfold badF
        rw [if_pos (hg2.ent (val_chk hv2) hlen), a]
      have hnx := hsame.next hR hR2 h00 hg
      conv => whnf
      refine CallA_v (ds := [c2.d, rotaD full]) (wa17 c2 full) rfl rfl ?_
      rw [hB]
      conv => whnf
      refine CallA_v (ds := [c.d, rotaD full]) (wa25 c full) rfl rfl ?_
      rw [hg.zero (val_chk hv) hlen, if_pos rfl]
      conv => whnf
      refine CallA_v (ds := [c2.d, rotaD full]) (wa25 c2 full) rfl rfl ?_
      rw [hg2.zero (val_chk hv2) hlen, if_pos rfl]
      have hn1 := next_len hR (rota := full)
      have hn2 := next_len hR2 (rota := full)
      generalize nextL c full = L1 at hnx hn1 ⊢
      generalize nextL c2 full = L2 at hnx hn2 ⊢
      cases L1 with
      | nil =>
        conv => whnf
        refine LoopA_i (T := tys) tysOk (by exact drawsB_spec mixed tysOk (by decide +kernel)) ([] : List Nat) (fun i (_ : Unit) => ⟨[(14, .d .nils), (18, .d (i64 i))], [], st⟩) (fun i r _ => True) () (Wk.sub ⟨(by first | rfl | (simp only [List.length_map]; rfl) | simp [PX.get]), (by first | rfl | (simp only [List.length_map]; rfl) | simp [PX.get]), trivial⟩ trivial) trivial ?_ ?_
        · intro i x r _ hx
          cases hx
        · intro _ _
          conv => whnf
          refine CallA_v (wa27) rfl rfl ?_
          conv => whnf
          exact RetA_view 0 rfl ⟨⟨rfl, rfl⟩, rfl⟩
      | cons a1 l1 =>
        cases L2 with
        | nil =>
          have := hnx a1 (by simp)
          cases this
        | cons a2 l2 =>
          conv => whnf
          refine LoopA_i (T := tys) tysOk (by exact drawsB_spec mixed tysOk (by decide +kernel)) (a1 :: l1) (fun i (_ : Unit) => ⟨[(14, .d (rotaD (a1 :: l1))), (16, .d (rotaD (a2 :: l2))), (6, .d (.bool false)), (18, .d (i64 i))], [], st⟩) (fun i r _ => True) () (Wk.sub ⟨(by first | rfl | (simp only [List.length_map]; rfl) | simp [PX.get]), (by first | rfl | (simp only [List.length_map]; rfl) | simp [PX.get]), (by first | rfl | (simp only [List.length_map]; rfl) | simp [PX.get]), (by first | rfl | (simp only [List.length_map]; rfl) | simp [PX.get]), trivial⟩ trivial) trivial ?_ ?_
          · intro i x r _ hx hi hr _
            conv => whnf
            refine brk_i (fun _ => ?_) (fun h => absurd hi (by have := of_decide_eq_false h; simp at this ⊢; omega))
            conv => whnf
            refine elemK_nat hx ?_
            conv => whnf
            refine CallA_v (ds := [rotaD (a2 :: l2), intsD x]) (wa54 (a2 :: l2) x (by omega) (fun r h => by have := hn2.2 r h; omega)) rfl rfl ?_
            rw [decide_eq_true (hnx x (List.mem_of_getElem? hx))]
            conv => whnf
            refine arith_in (wrap_i64 (by (try dsimp only); omega)) ?_
            conv => whnf
            exact ⟨(), trivial, (Wk.sub ⟨(by first | rfl | (simp only [List.length_map]; rfl) | simp [PX.get]), (by first | rfl | (simp only [List.length_map]; rfl) | simp [PX.get]), (by first | rfl | (simp only [List.length_map]; rfl) | simp [PX.get]), (by first | rfl | (simp only [List.length_map]; rfl) | simp [PX.get]), trivial⟩ trivial)⟩
          · intro _ _
            conv => whnf
            refine brk_i (fun h => absurd h (by simp)) (fun _ => ?_)
            conv => whnf
            refine CallA_v (wa27) rfl rfl ?_
            conv => whnf
            exact RetA_view 0 rfl ⟨⟨rfl, rfl⟩, rfl⟩
end Go.PX

namespace Go.PX
open Go.Proofs

/- Watch: an easier case. -/

structure Easier (c e : WCase) : Prop where
  len : e.men.length = c.men.length
  slots : e.slots.length = c.slots.length
  run : c.run ≤ e.run
  rest : e.rest ≤ c.rest ∧ 1 ≤ e.rest
  slot : ∀ t : Tired, (slotAt e t).men = (slotAt c t).men ∧ (slotAt e t).least ≤ (slotAt c t).least
  man : ∀ m, (manAt e m).kind = (manAt c m).kind ∧ ∀ k ∈ (manAt e m).no, k ∈ (manAt c m).no

def LessTired (n : Nat) (t t' : Tired) : Prop := t.slot = t'.slot ∧ ∀ j, j < n → t.get j = t'.get j ∨ (t.get j ≤ t'.get j ∧ t'.get j ≤ 0)

theorem easier_same {c e : WCase} (hR : WR c) (hE : WR e) (h : Easier c e) : SameRows c e (allMen c) (allMen e) (LessTired c.men.length) := by
  intro t t' g hr ha hw
  have hm := hR.men
  have hin := asc_in ha
  have hin' : RowIn e g := fun x hx => by rw [h.len]; exact hin x hx
  obtain ⟨h1, ⟨x, hx, h2⟩, h3, h4, h5⟩ := why_zero hw
  have hsl : slotAt e t' = slotAt e t := by unfold slotAt; rw [hr.1]
  obtain ⟨hs1, hs2⟩ := h.slot t
  have hget : ∀ x ∈ g, t'.get x.toNat = t.get x.toNat := fun x hx => by
    have h6 := hr.2 x.toNat (by have := hin x hx; omega)
    have h7 := h5 x hx
    omega
  refine ⟨by rw [h.len]; exact ha, ?_, ?_, ?_⟩
  · unfold whyT
    rw [hsl]
    refine why_of (h1.trans hs1.symm) ⟨x, hx, ?_⟩ (fun y hy => ⟨inSet_all hE (hin' y hy), fun hk => (h3 y hy).2 ?_⟩) (fun y hy => ?_) (fun y hy => ?_)
    · rw [(h.man x).1]; omega
    · rw [← hr.1] at hk; exact (h.man y).2 _ hk
    · rw [hget y hy]; have := h4 y hy; have := h.run; omega
    · rw [hget y hy]; exact h5 y hy
  · show (behindF c t g).slot = (behindF e t' g).slot
    unfold behindF
    rw [tireTo_slot, tireTo_slot]
    show (t.slot + 1).tmod _ = (t'.slot + 1).tmod _
    rw [hr.1, h.slots]
  · intro j hj
    rw [behind_get hR (by omega), behind_get hE (by omega), if_pos hj, if_pos (by rw [h.len]; exact hj)]
    have h6 := hr.2 j hj
    obtain ⟨h7, h8⟩ := h.rest
    unfold tireF
    by_cases hg : (j : Int) ∈ g
    · rw [decide_eq_true hg]
      have h9 := hget _ hg
      simp only [Int.toNat_natCast] at h9
      simp only [if_true]
      omega
    · rw [decide_eq_false hg]
      simp only [Bool.false_eq_true, if_false]
      repeat' split
      all_goals omega

theorem lon_easier {c e : WCase} (hR : WR c) (hE : WR e) (h : SameRows c e (allMen c) (allMen e) (LessTired c.men.length)) : lonW e = -1 ∨ (lonW c ≠ -1 ∧ lonW c ≤ lonW e) := by
  cases he : endB e (allMen e) .zero with
  | true => left; exact (lon_bd hE).2.2.2 he
  | false =>
    right
    have h00 : LessTired c.men.length .zero .zero := ⟨rfl, fun j _ => .inl rfl⟩
    obtain ⟨h1, h2⟩ := sim_dead _ h.succ fuelW .zero .zero h00 (dead_fuel hE (InU.zero hE) he)
    have hc : endB c (allMen c) .zero = false := by
      cases hc : endB c (allMen c) .zero with
      | false => rfl
      | true => exact absurd h1 ((endB_iff hR (InU.zero hR)).1 hc fuelW)
    rw [lon_dead hR hc, lon_dead hE he]
    have := hgt_bd (c := c) (set := allMen c) fuelW .zero
    exact ⟨by omega, h2⟩

def easeRun (b : Bool) (n : Int) : Int := if b then min 3 (n + 1) else n
def easeRest (b : Bool) (n : Int) : Int := if b then max 1 (n - 1) else n
def easeSlot (b : Bool) (s : Slot) : Slot := if b then ⟨s.men, max 0 (s.least - 1)⟩ else s
def easeMan (b : Bool) (m : Man) : Man := if b && decide (0 < m.no.length) then ⟨m.name, m.kind, m.no.tail⟩ else m
def easeF (c : WCase) (b1 b2 b3 b4 : Bool) : WCase := ⟨c.men.map (easeMan b4), c.slots.map (easeSlot b3), easeRun b1 c.run, easeRest b2 c.rest⟩

theorem easeMan_name (b : Bool) (m : Man) : (easeMan b m).name = m.name ∧ (easeMan b m).kind = m.kind ∧ ∀ k ∈ (easeMan b m).no, k ∈ m.no := by
  unfold easeMan
  split
  · exact ⟨rfl, rfl, fun k hk => List.mem_of_mem_tail hk⟩
  · exact ⟨rfl, rfl, fun k hk => hk⟩

theorem asc_weak {n : Int} : ∀ {l : List Int} {a b : Int}, a ≤ b → ascF n b l = 0 → ascF n a l = 0
  | [], _, _, _, _ => rfl
  | x :: l, a, b, hab, h => by
    rw [ascF] at h ⊢
    split at h
    case isFalse => cases h
    rename_i h1
    split at h
    · cases h
    rw [if_pos h1, if_neg (by omega)]
    exact h

theorem asc_tail {n : Int} {l : List Int} (h : ascF n (-1) l = 0) : ascF n (-1) l.tail = 0 := by
  cases l with
  | nil => rfl
  | cons x l =>
    rw [ascF] at h
    split at h
    case isFalse => cases h
    rename_i h1
    rw [inB_iff] at h1
    split at h
    · cases h
    exact asc_weak (by omega) h

theorem man_ease {s : Int} {b : Bool} {bf : List Man} {x : Man} (h : manF s bf x = 0) : manF s (bf.map (easeMan b)) (easeMan b x) = 0 := by
  unfold manF at h ⊢
  obtain ⟨h1, h2, _⟩ := easeMan_name b x
  rw [h1, h2]
  have hany : ((bf.map (easeMan b)).any fun y => decide (y.name = x.name)) = bf.any fun y => decide (y.name = x.name) := by
    rw [List.any_map]
    congr 1
    funext y
    simp only [Function.comp_apply, (easeMan_name b y).1]
  rw [hany]
  split at h
  case isFalse => cases h
  rename_i a1
  split at h
  · cases h
  rename_i a2
  split at h
  case isFalse => cases h
  rename_i a3
  rw [if_pos a1, if_neg a2, if_pos a3]
  unfold easeMan
  split
  · exact asc_tail h
  · exact h

theorem firstE_map {α : Type} {f g : List α → α → Int} {k : α → α} (h : ∀ b x, f b x = 0 → g (b.map k) (k x) = 0) : ∀ {l b : List α} {i j : Int}, (firstE f b l i).2 = 0 → (firstE g (b.map k) (l.map k) j).2 = 0
  | [], _, _, _, _ => rfl
  | x :: r, b, i, j, hz => by
    simp only [firstE] at hz
    rw [List.map_cons]
    simp only [firstE]
    split at hz
    · rename_i h0
      rw [if_pos (h b x h0)]
      have := firstE_map h (l := r) (b := b ++ [x]) (i := i + 1) (j := j + 1) hz
      simpa using this
    · rename_i h0
      exact absurd hz h0

theorem ease_valid {c : WCase} (hv : (checkW c).2.2 = 0) (b1 b2 b3 b4 : Bool) : (checkW (easeF c b1 b2 b3 b4)).2.2 = 0 := by
  have hR := wR hv
  have hru := hR.run
  have hre := hR.rest
  have hz := hv
  unfold checkW at hz ⊢
  have hml : (easeF c b1 b2 b3 b4).men.length = c.men.length := by simp [easeF]
  have hsl : (easeF c b1 b2 b3 b4).slots.length = c.slots.length := by simp [easeF]
  rw [hml, hsl]
  split at hz
  case isFalse => cases hz
  rename_i h0
  rw [if_pos h0]
  split at hz
  case isFalse => cases hz
  have h1 : (inB (easeF c b1 b2 b3 b4).run 1 3 && inB (easeF c b1 b2 b3 b4).rest 1 3) = true := by
    simp only [Bool.and_eq_true, inB_iff]
    unfold easeF easeRun easeRest
    simp only
    constructor <;> split <;> omega
  rw [h1]
  simp only [if_true]
  dsimp only at hz
  by_cases h2 : (firstE slotF [] c.slots 0).2 = 0
  · rw [if_pos h2] at hz
    have h2' : (firstE slotF [] (easeF c b1 b2 b3 b4).slots 0).2 = 0 := by
      refine firstE_map (k := easeSlot b3) (f := slotF) (b := []) (i := 0) (fun b x hx => ?_) h2
      unfold slotF at hx ⊢
      split at hx
      case isFalse => cases hx
      rename_i h4
      simp only [Bool.and_eq_true, inB_iff] at h4
      rw [if_pos]
      simp only [Bool.and_eq_true, inB_iff]
      unfold easeSlot
      split <;> (try simp only) <;> omega
    rw [if_pos h2']
    unfold checkM at hz ⊢
    dsimp only at hz ⊢
    by_cases h3 : (firstE (manF c.slots.length) [] c.men 0).2 = 0
    · have h3' : (firstE (manF (easeF c b1 b2 b3 b4).slots.length) [] (easeF c b1 b2 b3 b4).men 0).2 = 0 := by
        rw [hsl]
        exact firstE_map (k := easeMan b4) (f := manF c.slots.length) (b := []) (i := 0) (fun b x hx => man_ease hx) h3
      rw [if_pos h3']
    · rw [if_neg h3] at hz; exact absurd hz h3
  · rw [if_neg h2] at hz; exact absurd hz h2

theorem ease_easier {c : WCase} (hR : WR c) (b1 b2 b3 b4 : Bool) : Easier c (easeF c b1 b2 b3 b4) := by
  have hru := hR.run
  have hre := hR.rest
  refine ⟨by simp [easeF], by simp [easeF], ?_, ?_, fun t => ?_, fun m => ?_⟩
  · unfold easeF easeRun
    simp only
    split <;> omega
  · unfold easeF easeRest
    simp only
    split <;> omega
  · unfold slotAt easeF
    simp only [List.getElem?_map]
    cases h : c.slots[t.slot.toNat]? with
    | none => exact ⟨rfl, Int.le_refl _⟩
    | some s =>
      have := (hR.slot s (List.mem_of_getElem? h)).2
      simp only [Option.map_some, Option.getD_some]
      unfold easeSlot
      split
      · exact ⟨rfl, by simp only; omega⟩
      · exact ⟨rfl, Int.le_refl _⟩
  · unfold manAt easeF
    simp only [List.getElem?_map]
    cases h : c.men[m.toNat]? with
    | none => exact ⟨rfl, fun k hk => hk⟩
    | some s =>
      simp only [Option.map_some, Option.getD_some]
      exact (easeMan_name b4 s).2
end Go.PX
