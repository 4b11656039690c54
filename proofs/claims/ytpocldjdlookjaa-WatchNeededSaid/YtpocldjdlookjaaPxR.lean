import Derived.Test.YtpocldjdlookjaaPxQ
import Derived.Test.YtpocldjdlookjaaPxP
set_option linter.all false
set_option maxRecDepth 10000
namespace Go.PX
open Go.Proofs

/- Watch: WatchMissing. -/

theorem wa53 (l : List (List Int)) (m : Int) (hl : l.length < 1000000) (hr : ∀ r ∈ l, r.length < 1000000) : FnV Try.prog 53 [rotaD l, i64 m] (.bool (l.any fun r => decide (m ∈ r))) := by
  refine fnV_of mixed tysOk Try.func53 rfl (ft := ft53) 2 (by decide +kernel) (by rfl) fun {σ} Y st => ?_
  conv => whnf
  refine LoopA_i (T := tys) tysOk (by exact drawsB_spec mixed tysOk (by decide +kernel)) l (fun i (_ : Unit) => ⟨[(0, .d (rotaD l)), (1, .d (i64 m)), (4, .d (.bool false)), (5, .d (i64 i))], [], st⟩)
    (fun i r _ => (l.any fun r => decide (m ∈ r)) = (r.any fun r => decide (m ∈ r))) () (Wk.sub ⟨(by first | rfl | (simp only [List.length_map]; rfl) | simp [PX.get]), (by first | rfl | (simp only [List.length_map]; rfl) | simp [PX.get]), (by first | rfl | (simp only [List.length_map]; rfl) | simp [PX.get]), (by first | rfl | (simp only [List.length_map]; rfl) | simp [PX.get]), trivial⟩ trivial) rfl ?_ ?_
  · intro i x r _ hx hi hr' he
    have hxr := hr x (List.mem_of_getElem? hx)
    rw [List.any_cons] at he
    conv => whnf
    refine brk_i (fun _ => ?_) (fun h => absurd hi (by have := of_decide_eq_false h; simp at this; omega))
    conv => whnf
    refine elemK_nat hx ?_
    conv => whnf
    refine CallA_v (wa49 x m (by omega)) rfl rfl ?_
    conv => whnf
    cases h1 : decide (m ∈ x) with
    | true =>
      conv => whnf
      rw [he, h1]
      exact RetA_view 0 rfl ⟨⟨rfl, rfl⟩, rfl⟩
    | false =>
      rw [h1] at he
      conv => whnf
      refine arith_in (wrap_i64 (by (try dsimp only); omega)) ?_
      conv => whnf
      exact ⟨(), by simpa using he, (Wk.sub ⟨(by first | rfl | (simp only [List.length_map]; rfl) | simp [PX.get]), (by first | rfl | (simp only [List.length_map]; rfl) | simp [PX.get]), (by first | rfl | (simp only [List.length_map]; rfl) | simp [PX.get]), (by first | rfl | (simp only [List.length_map]; rfl) | simp [PX.get]), trivial⟩ trivial)⟩
  · intro _ he
    rw [he]
    conv => whnf
    refine brk_i (fun h => absurd h (by simp)) (fun _ => ?_)
    conv => whnf
    exact RetA_view 0 rfl ⟨⟨rfl, rfl⟩, rfl⟩

theorem miss_zero {c : WCase} (hv : (checkW c).2.2 = 0) {full : List (List Int)} (hg : GoodR c full) (hl : full.length ≤ 12) {fr : Nat} (hf : fr ≤ full.length) : missE c full fr = 0 := by
  have h := hg.good
  unfold goodW at h
  unfold missE
  rw [if_pos (hg.ent hv (by omega)), if_neg (by omega), h]
  rfl

theorem miss_need {c : WCase} (hR : WR c) {full more : List (List Int)} (hg : GoodR c more) {fr : Nat} (ht : more.take fr = full.take fr) (hl : more.length = full.length) {j : Nat} (hj : j < c.men.length) (hn : (j : Int) ∉ missL c full fr) : ((more.drop fr).any fun r => decide ((j : Int) ∈ r)) = true := by
  refine Classical.byContradiction fun hc => hn ?_
  have hall : ∀ r ∈ more.drop fr, (j : Int) ∉ r := by
    intro r hr hm
    exact hc (List.any_eq_true.2 ⟨r, hr, decide_eq_true hm⟩)
  have h1 : goodW c (more.take fr ++ more.drop fr) := by rw [List.take_append_drop]; exact hg.good
  have h2 : goodW c (more.take fr) := walk_app (l2 := more.drop fr) (Int.le_refl 0) h1
  have h3 := (walk_app_iff (l2 := more.drop fr) h2).1.1 h1
  have h4 := but_same hR hj (Int.le_refl 0) h3 fun r hr => ⟨hg.asc r (List.mem_of_mem_drop hr), hall r hr⟩
  rw [ht] at h4
  have hlen : (more.drop fr).length = full.length - fr := by rw [List.length_drop, hl]
  obtain ⟨l', h5, _⟩ := fill0_some (rows := List.replicate (full.length - fr) []) (Int.le_refl 0) (fits_nil hlen) h4 fun r hr => hg.asc r (List.mem_of_mem_drop hr)
  have hcd : canDo c (missT c full fr) (full.length - ((fr : Nat) : Int).toNat) j = true := by
    unfold canDo
    rw [fillW_0, Int.toNat_natCast]
    show (fill0 c (butSet c j) _ (walkF c (allMen c) .zero (full.take fr) 0).2).isSome = true
    rw [h5]; rfl
  unfold missL
  refine List.mem_map.2 ⟨j, List.mem_filter.2 ⟨List.mem_range.2 hj, hcd⟩, rfl⟩

theorem miss_asc (c : WCase) (full : List (List Int)) (fr : Int) : (∀ m ∈ missL c full fr, 0 ≤ m ∧ m < c.men.length) ∧ (missL c full fr).Pairwise (· < ·) := by
  unfold missL
  refine ⟨fun m hm => ?_, ?_⟩
  · obtain ⟨j, hj, rfl⟩ := List.mem_map.1 hm
    have := List.mem_range.1 (List.mem_filter.1 hj).1
    omega
  · rw [List.pairwise_map]
    refine List.Pairwise.imp ?_ (List.Pairwise.filter _ List.pairwise_lt_range)
    intro a b h
    omega

theorem asc_next {l : List Int} (hp : l.Pairwise (· < ·)) {i : Nat} {a b : Int} (ha : l[i]? = some a) (hb : l[i + 1]? = some b) : a < b := by
  obtain ⟨h1, h2⟩ := List.getElem?_eq_some_iff.1 ha
  obtain ⟨h3, h4⟩ := List.getElem?_eq_some_iff.1 hb
  rw [← h2, ← h4]
  exact List.pairwise_iff_getElem.1 hp i (i + 1) h1 h3 (by omega)

theorem wk_ints {σ : Type} {h : Heap} {s : σ} {e : Env} {t : Nat} {l : List Int} (h1 : get e t = some (.d (intsN l))) : Wk (⟨e, h, s⟩ : St σ) ⟨put e t (.d (intsD l)), h, s⟩ := by
  cases l with
  | nil => exact Wk.nilvs t h1
  | cons a r => 
    intro cx rr m L F b w hg
    refine ⟨L, F, hg.sub (fun i v hi => ?_) (fun i v hi => hi), Tr.refl F w⟩
    have hi : get (put e t (.d (intsD (a :: r)))) i = some v := hi
    rw [get_put] at hi
    split at hi
    · rename_i e1
      cases hi
      rw [e1]; exact h1
    · exact hi

theorem wa12 (c : WCase) (x : GapX) (hx : x.Ok) (other : List Int) (ho : ∀ b ∈ other, 0 ≤ b ∧ b ≤ 255) : FnV Try.prog 12 [c.d, x.d, bytesD other] (.bool true) := by
  refine fnV_of mixed tysOk Try.func12 rfl (ft := ft12) 3 (by decide +kernel) (by rfl) fun {σ} Y st => ?_
  conv => whnf
  refine CallA_v (wa43 c) rfl rfl ?_
  conv => whnf
  cases hv : valW c with
  | false =>
    have hc : (checkW c).2.2 ≠ 0 := of_decide_eq_false hv
    conv => whnf
    refine CallA_rep (args' := [.d c.d, .d (rotaD []), .d (i64 0)]) (fun yv L F w l h => by
      obtain ⟨x1, l1, rfl, h1, x2, l2, rfl, h2, h3⟩ := h
      exact ⟨x1, _, rfl, h1, x2, _, rfl, RepD.relax .nils x2 h2, h3⟩) ?_
    refine CallA_v (ds := [c.d, rotaD [], i64 0]) (wa38 c [] 0) rfl rfl ?_
    have hE : missE c [] 0 ≠ 0 := by
      unfold missE
      rw [ent_nil, if_neg hc]; exact hc
    rw [if_neg hE]
    conv => whnf
    refine brk_i (fun _ => ?_) (fun h => absurd h (by simp [hE]))
    conv => whnf
    refine CallA_v (wa27) rfl rfl ?_
    conv => whnf
    exact RetA_view 0 rfl ⟨⟨rfl, rfl⟩, rfl⟩
  | true =>
    have hR := val_WR hv
    have hm := hR.men
    obtain ⟨hb1, hb2, hb3⟩ := hx
    conv => whnf
    refine CallA_v (ds := [c.d, x.d]) (wa51 c hR x ⟨hb1, hb2, hb3⟩) rfl rfl ?_
    obtain ⟨hg, hlen, _⟩ := any_good hR (x := x.rota) (k := x.rows.toNat % 13) (GoodR.nil c)
    have hg : GoodR c (fullF c x) := hg
    have hlen : (fullF c x).length ≤ 12 := by
      have : (fullF c x).length ≤ 0 + x.rows.toNat % 13 := hlen
      omega
    generalize fullF c x = full at hg hlen ⊢
    conv => whnf
    refine arith_in (wrap_i64 (by omega)) ?_
    conv => whnf
    refine arith_to ((full.length + 1 : Nat) : Int) (by simp) (wrap_i64 (by omega)) ?_
    obtain ⟨fr, hfr, hfl⟩ : ∃ fr : Nat, x.empty.tmod ((full.length + 1 : Nat) : Int) = fr ∧ fr ≤ full.length := by
      refine ⟨(x.empty.tmod ((full.length + 1 : Nat) : Int)).toNat, ?_, ?_⟩
      · have := Int.tmod_nonneg ((full.length + 1 : Nat) : Int) hb3.1
        omega
      · have := Int.tmod_lt_of_pos x.empty (b := ((full.length + 1 : Nat) : Int)) (by omega)
        have := Int.tmod_nonneg ((full.length + 1 : Nat) : Int) hb3.1
        omega
    conv => whnf
    rw [hfr]
    refine CallA_v (ds := [c.d, rotaD full, i64 fr]) (wa38 c full fr) rfl rfl ?_
    rw [miss_zero (val_chk hv) hg hlen hfl, if_pos rfl]
    have hneed := fun (more : List (List Int)) (hgm : GoodR c more) (ht : more.take fr = full.take fr) (hl : more.length = full.length) (j : Nat) (hj : j < c.men.length) => miss_need hR hgm ht hl hj
    obtain ⟨hLin, hLp⟩ := miss_asc c full fr
    have hLl : (missL c full fr).length ≤ 5 := by
      unfold missL
      rw [List.length_map]
      exact Nat.le_trans (List.length_filter_le ..) (by rw [List.length_range]; omega)
    generalize missL c full fr = L at hneed hLin hLp hLl ⊢
    have hlm : ((full.map fun r => [intsD r]).length : Int) = full.length := by simp
    conv => whnf
    refine chk_i (by rw [hlm]; simp; omega) ?_
    conv => whnf
    refine chk_i (by cases full <;> rfl) ?_
    conv => whnf
    have htk : (((full.map fun r => [intsD r]).take ((fr : Int)).toNat).drop 0) = (full.take fr).map fun r => [intsD r] := by simp [List.map_take]
    rw [htk, List.length_map]
    have hgt : GoodR c (full.take fr) := GoodR.pre (b := full.drop fr) (by rw [List.take_append_drop]; exact hg)
    have htl : (full.take fr).length = fr := by rw [List.length_take]; omega
    refine DrawCall_v (ds := [c.d, rotaD (full.take fr), bytesD other, i64 full.length]) (wa47 c hR other ho (full.take fr) (by omega) (fun r hr => hgt.rows hR r hr) full.length (by omega)) rfl rfl ?_
    obtain ⟨hgm, hml, l0, hm0⟩ := any_good hR (x := other) (k := full.length - (full.take fr).length) hgt
    have hmt : (anyF c other (full.length - (full.take fr).length) (full.take fr)).take fr = full.take fr := by
      rw [hm0]
      exact List.take_left' htl
    have hml : (anyF c other (full.length - (full.take fr).length) (full.take fr)).length ≤ 12 := by omega
    have hmf : fr ≤ (anyF c other (full.length - (full.take fr).length) (full.take fr)).length := by
      rw [hm0, List.length_append]; omega
    generalize anyF c other (full.length - (full.take fr).length) (full.take fr) = more at hgm hmt hml hmf ⊢
    conv => whnf
    refine LoopA_i (T := tys) tysOk (by exact drawsB_spec mixed tysOk (by decide +kernel)) c.men (fun i (_ : Unit) => ⟨[(3, .ptr 3 0), (6, .d (.bool false)), (9, .d (rotaD full)), (11, .d (i64 fr)), (12, .d (intsD L)), (14, .d (rotaD more)), (15, .d (i64 i))], [(3, .box (.dd c.cells))], st⟩)
      (fun i r _ => True) () ((wk_ints (t := 12) (l := L) rfl).trans (Wk.sub ⟨rfl, rfl, rfl, rfl, rfl, rfl, rfl, trivial⟩ ⟨rfl, trivial⟩)) trivial ?_ ?_
    · intro i y r _ hy hi hr _
      conv => whnf
      refine brk_i (fun _ => ?_) (fun h => absurd hi (by have := of_decide_eq_false h; simp at this; omega))
      conv => whnf
      refine CallA_v (ds := [intsD L, i64 i]) (wa49 L i (by omega)) rfl rfl ?_
      by_cases hin : (i : Int) ∈ L
      · rw [decide_eq_true hin]
        conv => whnf
        refine arith_in (wrap_i64 (by (try dsimp only); omega)) ?_
        conv => whnf
        exact ⟨(), trivial, (Wk.sub ⟨(by first | rfl | (simp only [List.length_map]; rfl) | simp [PX.get]), (by first | rfl | (simp only [List.length_map]; rfl) | simp [PX.get]), (by first | rfl | (simp only [List.length_map]; rfl) | simp [PX.get]), (by first | rfl | (simp only [List.length_map]; rfl) | simp [PX.get]), (by first | rfl | (simp only [List.length_map]; rfl) | simp [PX.get]), (by first | rfl | (simp only [List.length_map]; rfl) | simp [PX.get]), (by first | rfl | (simp only [List.length_map]; rfl) | simp [PX.get]), trivial⟩ ⟨(by first | rfl | (simp only [List.length_map]; rfl) | simp [PX.get]), trivial⟩)⟩
      · rw [decide_eq_false hin]
        conv => whnf
        refine chk_i (by rw [hlm]; simp; omega) ?_
        conv => whnf
        refine chk_i (by cases full <;> rfl) ?_
        conv => whnf
        have hdr : ((full.map fun r => [intsD r]).take ((full.map fun r => [intsD r]).length)).drop ((fr : Int)).toNat = (full.drop fr).map fun r => [intsD r] := by
          rw [List.take_length, List.map_drop, Int.toNat_natCast]
        rw [hdr]
        refine CallA_v (ds := [rotaD (full.drop fr), i64 i]) (wa53 (full.drop fr) i (by rw [List.length_drop]; omega) (fun r hr => (hg.rows hR r (List.mem_of_mem_drop hr)).2)) rfl rfl ?_
        rw [hneed full hg rfl rfl i hi hin]
        conv => whnf
        refine brk_i (fun h1 => ?_) (fun h1 => ?_)
        · have h1 : more.length = full.length := by have := of_decide_eq_true h1; simp at this; omega
          conv => whnf
          refine chk_i (by simp; omega) ?_
          conv => whnf
          refine chk_i (by cases more <;> rfl) ?_
          conv => whnf
          have hdr : ((more.map fun r => [intsD r]).take ((more.map fun r => [intsD r]).length)).drop ((fr : Int)).toNat = (more.drop fr).map fun r => [intsD r] := by
            rw [List.take_length, List.map_drop, Int.toNat_natCast]
          rw [hdr]
          refine CallA_v (ds := [rotaD (more.drop fr), i64 i]) (wa53 (more.drop fr) i (by rw [List.length_drop]; omega) (fun r hr => (hgm.rows hR r (List.mem_of_mem_drop hr)).2)) rfl rfl ?_
          rw [hneed more hgm hmt h1 i hi hin]
          conv => whnf
          refine arith_in (wrap_i64 (by (try dsimp only); omega)) ?_
          conv => whnf
          exact ⟨(), trivial, (Wk.sub ⟨(by first | rfl | (simp only [List.length_map]; rfl) | simp [PX.get]), (by first | rfl | (simp only [List.length_map]; rfl) | simp [PX.get]), (by first | rfl | (simp only [List.length_map]; rfl) | simp [PX.get]), (by first | rfl | (simp only [List.length_map]; rfl) | simp [PX.get]), (by first | rfl | (simp only [List.length_map]; rfl) | simp [PX.get]), (by first | rfl | (simp only [List.length_map]; rfl) | simp [PX.get]), (by first | rfl | (simp only [List.length_map]; rfl) | simp [PX.get]), trivial⟩ ⟨(by first | rfl | (simp only [List.length_map]; rfl) | simp [PX.get]), trivial⟩)⟩
        · conv => whnf
          refine arith_in (wrap_i64 (by (try dsimp only); omega)) ?_
          conv => whnf
          exact ⟨(), trivial, (Wk.sub ⟨(by first | rfl | (simp only [List.length_map]; rfl) | simp [PX.get]), (by first | rfl | (simp only [List.length_map]; rfl) | simp [PX.get]), (by first | rfl | (simp only [List.length_map]; rfl) | simp [PX.get]), (by first | rfl | (simp only [List.length_map]; rfl) | simp [PX.get]), (by first | rfl | (simp only [List.length_map]; rfl) | simp [PX.get]), (by first | rfl | (simp only [List.length_map]; rfl) | simp [PX.get]), (by first | rfl | (simp only [List.length_map]; rfl) | simp [PX.get]), trivial⟩ ⟨(by first | rfl | (simp only [List.length_map]; rfl) | simp [PX.get]), trivial⟩)⟩
    · intro _ _
      conv => whnf
      refine brk_i (fun h => absurd h (by simp)) (fun _ => ?_)
      conv => whnf
      refine LoopA_i (T := tys) tysOk (by exact drawsB_spec mixed tysOk (by decide +kernel)) L (fun i (_ : Unit) => ⟨[(3, .ptr 3 0), (6, .d (.bool false)), (12, .d (intsD L)), (16, .d (i64 i))], [(3, .box (.dd c.cells))], st⟩)
        (fun i r _ => True) () (Wk.sub ⟨(by first | rfl | (simp only [List.length_map]; rfl) | simp [PX.get]), (by first | rfl | (simp only [List.length_map]; rfl) | simp [PX.get]), (by first | rfl | (simp only [List.length_map]; rfl) | simp [PX.get]), (by first | rfl | (simp only [List.length_map]; rfl) | simp [PX.get]), trivial⟩ ⟨(by first | rfl | (simp only [List.length_map]; rfl) | simp [PX.get]), trivial⟩) trivial ?_ ?_
      · intro i y r _ hy hi hr _
        obtain ⟨hy1, hy2⟩ := hLin y (List.mem_of_getElem? hy)
        conv => whnf
        refine brk_i (fun _ => ?_) (fun h => absurd hi (by have := of_decide_eq_false h; simp at this; omega))
        conv => whnf
        refine elemK_nat hy ?_
        conv => whnf
        refine brk_i (fun h => absurd h (by simp; omega)) (fun _ => ?_)
        conv => whnf
        refine elemK_nat hy ?_
        conv => whnf
        refine brk_i (fun h => absurd h (by simp; omega)) (fun _ => ?_)
        conv => whnf
        refine brk_i (fun h1 => ?_) (fun h1 => ?_)
        · have h1 : (i : Int) > 0 := of_decide_eq_true h1
          obtain ⟨k, rfl⟩ : ∃ k, i = k + 1 := ⟨i - 1, by omega⟩
          obtain ⟨z, hz⟩ : ∃ z, L[k]? = some z := ⟨_, List.getElem?_eq_getElem (by omega)⟩
          have hlt := asc_next hLp hz hy
          conv => whnf
          refine elemK_nat hy ?_
          conv => whnf
          refine arith_to ((k : Int)) (by (try dsimp only); omega) (wrap_i64 (by (try dsimp only); omega)) ?_
          conv => whnf
          refine elemK_nat hz ?_
          conv => whnf
          refine brk_i (fun h => absurd h (by simp; omega)) (fun _ => ?_)
          conv => whnf
          refine arith_in (wrap_i64 (by (try dsimp only); omega)) ?_
          conv => whnf
          exact ⟨(), trivial, (Wk.sub ⟨(by first | rfl | (simp only [List.length_map]; rfl) | simp [PX.get]), (by first | rfl | (simp only [List.length_map]; rfl) | simp [PX.get]), (by first | rfl | (simp only [List.length_map]; rfl) | simp [PX.get]), (by first | rfl | (simp only [List.length_map]; rfl) | simp [PX.get]), trivial⟩ ⟨(by first | rfl | (simp only [List.length_map]; rfl) | simp [PX.get]), trivial⟩)⟩
        · conv => whnf
          refine arith_in (wrap_i64 (by (try dsimp only); omega)) ?_
          conv => whnf
          exact ⟨(), trivial, (Wk.sub ⟨(by first | rfl | (simp only [List.length_map]; rfl) | simp [PX.get]), (by first | rfl | (simp only [List.length_map]; rfl) | simp [PX.get]), (by first | rfl | (simp only [List.length_map]; rfl) | simp [PX.get]), (by first | rfl | (simp only [List.length_map]; rfl) | simp [PX.get]), trivial⟩ ⟨(by first | rfl | (simp only [List.length_map]; rfl) | simp [PX.get]), trivial⟩)⟩
      · intro _ _
        conv => whnf
        refine brk_i (fun h => absurd h (by simp)) (fun _ => ?_)
        conv => whnf
        refine CallA_v (wa27) rfl rfl ?_
        conv => whnf
        exact RetA_view 0 rfl ⟨⟨rfl, rfl⟩, rfl⟩
end Go.PX

namespace Go.PX
open Go.Proofs

/- Watch: Fewest: law. -/

theorem best_fold {w : Int → Bool} {all : List Int} (hall : ∀ x ∈ all, 0 ≤ x) : ∀ (l done : List Int) (best : Int), (∀ x ∈ l, x ∈ all) → ((best = -1 ∧ ∀ x ∈ done, w x = false) ∨ (best ∈ all ∧ w best = true ∧ ∀ x ∈ done, w x = true → popC best ≤ popC x)) →
    ((l.foldl (bestF w) best = -1 ∧ ∀ x ∈ done ++ l, w x = false) ∨ (l.foldl (bestF w) best ∈ all ∧ w (l.foldl (bestF w) best) = true ∧ ∀ x ∈ done ++ l, w x = true → popC (l.foldl (bestF w) best) ≤ popC x))
  | [], done, best, _, h => by simpa using h
  | y :: r, done, best, hl, h => by
    rw [List.foldl_cons]
    have hs : done ++ y :: r = (done ++ [y]) ++ r := by simp
    rw [hs]
    refine best_fold hall r (done ++ [y]) _ (fun x hx => hl x (by simp [hx])) ?_
    have hy := hl y (by simp)
    unfold bestF
    split
    · rename_i h1
      rw [Bool.and_eq_true] at h1
      refine .inr ⟨hy, h1.2, fun x hx hw => ?_⟩
      rcases List.mem_append.1 hx with hx | hx
      · rcases h with ⟨_, h3⟩ | ⟨h2, _, h3⟩
        · rw [h3 x hx] at hw; cases hw
        · have h4 := h3 x hx hw
          have h5 := h1.1
          have h6 := hall best h2
          unfold beforeB at h5
          simp only [Bool.or_eq_true, Bool.and_eq_true, decide_eq_true_eq] at h5
          omega
      · rw [List.mem_singleton] at hx
        subst hx; exact Int.le_refl _
    · rename_i h1
      rcases h with ⟨h2, h3⟩ | ⟨h2, h4, h3⟩
      · refine .inl ⟨h2, fun x hx => ?_⟩
        rcases List.mem_append.1 hx with hx | hx
        · exact h3 x hx
        · rw [List.mem_singleton] at hx
          subst hx
          subst h2
          cases hw : w x with
          | false => rfl
          | true =>
            rw [hw] at h1
            exact absurd rfl h1
      · refine .inr ⟨h2, h4, fun x hx hw => ?_⟩
        rcases List.mem_append.1 hx with hx | hx
        · exact h3 x hx hw
        · rw [List.mem_singleton] at hx
          subst hx
          rw [hw, Bool.and_true] at h1
          unfold beforeB at h1
          simp only [Bool.or_eq_true, Bool.and_eq_true, decide_eq_true_eq, not_or] at h1
          omega

theorem sets_pos {many : Nat} : ∀ x ∈ setsL many, 1 ≤ x ∧ x < 2 ^ many := by
  intro x hx
  obtain ⟨i, hi, rfl⟩ := List.mem_map.1 hx
  rw [List.mem_range'_1] at hi
  have h1 : 1 ≤ (2 : Nat) ^ many := Nat.one_le_two_pow
  have h2 : ((2 : Int) ^ many) = ((2 ^ many : Nat) : Int) := by simp
  omega

theorem sets_mem {many : Nat} {x : Int} (h : 1 ≤ x ∧ x < 2 ^ many) : x ∈ setsL many := by
  have h2 : ((2 : Int) ^ many) = ((2 ^ many : Nat) : Int) := by simp
  exact List.mem_map.2 ⟨x.toNat, by rw [List.mem_range'_1]; omega, by omega⟩

theorem first_law (w : Int → Bool) (many : Nat) : (firstS w many = -1 ∧ ∀ x ∈ setsL many, w x = false) ∨ (firstS w many ∈ setsL many ∧ w (firstS w many) = true ∧ ∀ x ∈ setsL many, w x = true → popC (firstS w many) ≤ popC x) := by
  have := best_fold (w := w) (all := setsL many) (fun x hx => by have := sets_pos x hx; omega) (setsL many) [] (-1) (fun x hx => hx) (.inl ⟨rfl, fun x hx => by cases hx⟩)
  simpa [firstS] using this

/-- What is so for all small sets. -/
def smallB : Bool := (List.range 6).all fun n => (List.range 256).all fun k => (List.range n).all (fun m => inSet ((k % 2 ^ n : Nat) : Int) m == bit8 k m) && decide (popC ((k % 2 ^ n : Nat) : Int) = (idxL n (bit8 k)).length)

theorem small_all : smallB = true := by decide +kernel

theorem small {n k : Nat} (hn : n ≤ 5) (hk : k < 256) : (∀ m, m < n → inSet ((k % 2 ^ n : Nat) : Int) m = bit8 k m) ∧ popC ((k % 2 ^ n : Nat) : Int) = (idxL n (bit8 k)).length := by
  have h := small_all
  unfold smallB at h
  have h1 := List.all_eq_true.1 h n (by simp; omega)
  have h2 := List.all_eq_true.1 h1 k (by simpa using hk)
  rw [Bool.and_eq_true] at h2
  refine ⟨fun m hm => ?_, of_decide_eq_true h2.2⟩
  have := List.all_eq_true.1 h2.1 m (by simpa using hm)
  simpa using this

theorem small_set {n : Nat} (hn : n ≤ 5) {s : Int} (hs : s ∈ setsL n) : popC s = (menOf s n).length ∧ menOf s n = natI (idxL n (bit8 s)) ∧ ∀ m, m < n → inSet s m = bit8 s m := by
  obtain ⟨h1, h2⟩ := sets_pos s hs
  have hp : (2 : Nat) ^ n ≤ 32 := by
    have : n = 0 ∨ n = 1 ∨ n = 2 ∨ n = 3 ∨ n = 4 ∨ n = 5 := by omega
    rcases this with rfl | rfl | rfl | rfl | rfl | rfl <;> decide
  have hpc : ((2 : Int) ^ n) = ((2 ^ n : Nat) : Int) := by simp
  obtain ⟨k, rfl⟩ : ∃ k : Nat, s = k := ⟨s.toNat, by omega⟩
  have hk : k < 2 ^ n := by omega
  obtain ⟨h3, h4⟩ := small (n := n) (k := k) hn (by omega)
  rw [Nat.mod_eq_of_lt hk] at h3 h4
  have hM : menOf (k : Int) n = natI (idxL n (bit8 k)) := by
    unfold menOf natI idxL
    congr 1
    refine List.filter_congr fun m hm => ?_
    rw [decide_eq_true (by omega), Bool.true_and, h3 m (List.mem_range.1 hm)]
  exact ⟨by rw [hM, h4]; simp [natI], hM, h3⟩

theorem mem_idx {n : Nat} {p : Nat → Bool} {m : Nat} (h : m < n) : m ∈ idxL n p ↔ p m = true := by
  unfold idxL
  rw [List.mem_filter, List.mem_range]
  exact ⟨fun h => h.2, fun h2 => ⟨h, h2⟩⟩

/-- Men of a set alone. -/
theorem alone_law {c : WCase} (hv : (checkW c).2.2 = 0) {S : Int} {p : Nat → Bool} (hS : ∀ m, m < c.men.length → inSet S (m : Int) = p m) (hne : idxL c.men.length p ≠ []) : entE (subF c (idxL c.men.length p)) [] = 0 ∧ (lonW (subF c (idxL c.men.length p)) = -1 ↔ endB c S .zero = true) := by
  have hR := wR hv
  have hvs := sub_valid hv p hne
  have hR' := wR hvs
  refine ⟨by rw [ent_nil]; exact hvs, ?_⟩
  rw [(lon_bd hR').2.2, sub_end hR (idx_sub _ p) hR' (S := S) fun m hm => by rw [hS m hm, mem_idx hm]]

/-- What Fewest returns. -/
theorem few_law {c : WCase} (hv : (checkW c).2.2 = 0) : (fewL c = [] ∧ ∀ S ∈ setsL c.men.length, endB c S .zero = false) ∨
    (∃ s ∈ setsL c.men.length, endB c s .zero = true ∧ fewL c = natI (idxL c.men.length (bit8 s)) ∧ fewL c ≠ [] ∧ (∀ m, m < c.men.length → inSet s m = bit8 s m) ∧ ∀ S ∈ setsL c.men.length, endB c S .zero = true → ((fewL c).length : Int) ≤ popC S) := by
  have hR := wR hv
  have hm := hR.men
  rcases first_law (fun S => endB c S .zero) c.men.length with ⟨h1, h2⟩ | ⟨h1, h2, h3⟩
  · left
    refine ⟨?_, h2⟩
    unfold fewL
    rw [h1]
    unfold menOf
    rw [List.filter_eq_nil_iff.2 (by intro m _; simp)]
    rfl
  · right
    obtain ⟨h4, h5, h6⟩ := small_set hm.2 h1
    refine ⟨_, h1, h2, h5, ?_, h6, fun S hS hw => ?_⟩
    · intro he
      have hl : ∀ m ∈ List.range c.men.length, bit8 (firstS (fun S => endB c S .zero) c.men.length) m = false := by
        have he : menOf (firstS (fun S => endB c S .zero) c.men.length) c.men.length = [] := he
        rw [h5] at he
        unfold natI idxL at he
        have := List.map_eq_nil_iff.1 he
        intro m hm
        have := List.filter_eq_nil_iff.1 this m hm
        simpa using this
      have hz : ∀ n s, n ≤ 5 → s ∈ setsL n → (List.range n).all (fun m => !bit8 s m) = false := by
        intro n s hn hs
        obtain ⟨a, b⟩ := sets_pos s hs
        have : n = 0 ∨ n = 1 ∨ n = 2 ∨ n = 3 ∨ n = 4 ∨ n = 5 := by omega
        have hsl : ((List.range 6).all fun n => (setsL n).all fun s => !((List.range n).all fun m => !bit8 s m)) = true := by decide +kernel
        have h7 := List.all_eq_true.1 hsl n (by simp; omega)
        have h8 := List.all_eq_true.1 h7 s hs
        simpa using h8
      have h7 := hz _ _ hm.2 h1
      rw [List.all_eq_true.2 (fun m hm => by rw [hl m hm]; rfl)] at h7
      cases h7
    · have := h3 S hS hw
      rw [h4] at this
      exact this
end Go.PX

namespace Go.PX
open Go.Proofs

/- Watch: WatchFewest. -/

theorem nat_asc {n : Nat} {p : Nat → Bool} : (∀ m ∈ natI (idxL n p), 0 ≤ m ∧ m < n) ∧ (natI (idxL n p)).Pairwise (· < ·) := by
  obtain ⟨h1, h2⟩ := idx_sub n p
  refine ⟨fun m hm => ?_, ?_⟩
  · obtain ⟨j, hj, rfl⟩ := List.mem_map.1 hm
    have := h1 j hj
    omega
  · unfold natI
    rw [List.pairwise_map]
    exact h2.imp fun h => by omega

theorem idx_len (n : Nat) (p : Nat → Bool) : (idxL n p).length ≤ n := by
  have := List.length_filter_le p (List.range n)
  rw [List.length_range] at this
  exact this

theorem wa8 (c : WCase) (set : Int) (hset : 0 ≤ set ∧ set ≤ 255) : FnV Try.prog 8 [c.d, .int .u8 set] (.bool true) := by
  refine fnV_of mixed tysOk Try.func8 rfl (ft := ft8) 2 (by decide +kernel) (by rfl) fun {σ} Y st => ?_
  conv => whnf
  refine CallA_v (wa32 c) rfl rfl ?_
  conv => whnf
  cases hv : valW c with
  | false =>
    have hc : (checkW c).2.2 ≠ 0 := of_decide_eq_false hv
    have hE : entE c [] ≠ 0 := by rw [ent_nil]; exact hc
    rw [if_neg hE, if_neg hE]
    conv => whnf
    refine CallA_v (wa43 c) rfl rfl ?_
    conv => whnf
    rw [hv]
    conv => whnf
    refine brk_i (fun _ => ?_) (fun h => absurd h (by simp [hE]))
    conv => whnf
    refine CallA_v (wa27) rfl rfl ?_
    conv => whnf
    exact RetA_view 0 rfl ⟨⟨rfl, rfl⟩, rfl⟩
  | true =>
    have hR := val_WR hv
    have hm := hR.men
    have hc := val_chk hv
    have hE : entE c [] = 0 := by rw [ent_nil]; exact hc
    rw [if_pos hE, if_pos hE]
    have hfew := few_law hc
    obtain ⟨k, rfl⟩ : ∃ k : Nat, set = k := ⟨set.toNat, by omega⟩
    obtain ⟨hS, hpop⟩ := small (n := c.men.length) (k := k) hm.2 (by omega)
    have hnl : (natI (idxL c.men.length (bit8 k))).length = (idxL c.men.length (bit8 k)).length := by simp [natI]
    have hset : idxL c.men.length (bit8 k) ≠ [] → ((k % 2 ^ c.men.length : Nat) : Int) ∈ setsL c.men.length := by
      intro hne
      have h2 : ((2 : Int) ^ c.men.length) = ((2 ^ c.men.length : Nat) : Int) := by simp
      have h3 : k % 2 ^ c.men.length < 2 ^ c.men.length := Nat.mod_lt _ (Nat.two_pow_pos _)
      refine sets_mem ⟨?_, by omega⟩
      have h4 := List.length_pos_iff.2 hne
      rcases Nat.eq_zero_or_pos (k % 2 ^ c.men.length) with h5 | h5
      · rw [h5] at hpop
        have : popC ((0 : Nat) : Int) = 0 := by decide +kernel
        omega
      · omega
    cases hF : fewL c with
    | nil =>
      rcases hfew with ⟨_, hno⟩ | ⟨s, _, _, _, h2, _⟩
      case inr => exact absurd hF h2
      conv => whnf
      refine CallA_v (wa43 c) rfl rfl ?_
      conv => whnf
      rw [hv]
      conv => whnf
      refine CallA_v (ds := [c.d, .int .u8 k]) (wa45 c hm.2 k) rfl rfl ?_
      conv => whnf
      refine brk_i (fun h1 => ?_) (fun h1 => ?_)
      · have h1 : 0 < (idxL c.men.length (bit8 k)).length := by have := of_decide_eq_true h1; simp at this; omega
        have hne : idxL c.men.length (bit8 k) ≠ [] := List.length_pos_iff.1 h1
        obtain ⟨he2, hlon⟩ := alone_law hc hS hne
        rw [hno _ (hset hne)] at hlon
        conv => whnf
        refine CallA_v (ds := [c.d, intsD (natI (idxL c.men.length (bit8 k)))]) (wa46 c hm.2 _ (idx_sub _ _) (by have := idx_len c.men.length (bit8 k); omega)) rfl rfl ?_
        conv => whnf
        refine CallA_v (ds := [(subF c (idxL c.men.length (bit8 k))).d]) (wa28 _) rfl rfl ?_
        rw [he2, if_pos rfl]
        generalize lonW (subF c (idxL c.men.length (bit8 k))) = lon at hlon ⊢
        have hlon : lon ≠ -1 := fun h => by have := hlon.1 h; cases this
        conv => whnf
        refine brk_i (fun _ => ?_) (fun h => absurd h (by simp [hlon]))
        conv => whnf
        refine CallA_v (wa27) rfl rfl ?_
        conv => whnf
        exact RetA_view 0 rfl ⟨⟨rfl, rfl⟩, rfl⟩
      · conv => whnf
        refine CallA_v (wa27) rfl rfl ?_
        conv => whnf
        exact RetA_view 0 rfl ⟨⟨rfl, rfl⟩, rfl⟩
    | cons a l =>
      rcases hfew with ⟨h1, _⟩ | ⟨s, hs, hw, hl, _, hin, hmin⟩
      case inl => rw [hF] at h1; cases h1
      rw [hF] at hl hmin
      have hne3 : idxL c.men.length (bit8 s) ≠ [] := by
        intro h; rw [h] at hl; cases hl
      obtain ⟨he3, hlon3⟩ := alone_law hc hin hne3
      have hLa := nat_asc (n := c.men.length) (p := bit8 s)
      rw [← hl] at hLa
      obtain ⟨hLin, hLp⟩ := hLa
      have hll : (a :: l).length = (idxL c.men.length (bit8 s)).length := by rw [hl]; simp [natI]
      have hpl := List.length_pos_iff.2 hne3
      have hl5 : (a :: l).length ≤ 5 := by have := idx_len c.men.length (bit8 s); omega
      have hl6 : l.length ≤ 4 := by simpa using hl5
      have hnl3 : (natI (idxL c.men.length (bit8 s))).length = (idxL c.men.length (bit8 s)).length := by simp [natI]
      conv => whnf
      refine CallA_v (wa43 c) rfl rfl ?_
      conv => whnf
      rw [hv]
      conv => whnf
      refine CallA_v (ds := [c.d, .int .u8 k]) (wa45 c hm.2 k) rfl rfl ?_
      conv => whnf
      refine brk_i (fun h1 => ?_) (fun h1 => ?_)
      · have h1 : 0 < (idxL c.men.length (bit8 k)).length := by have := of_decide_eq_true h1; simp at this; omega
        have hne : idxL c.men.length (bit8 k) ≠ [] := List.length_pos_iff.1 h1
        obtain ⟨he2, hlon⟩ := alone_law hc hS hne
        have hmn := hmin _ (hset hne)
        rw [hpop] at hmn
        conv => whnf
        refine CallA_v (ds := [c.d, intsD (natI (idxL c.men.length (bit8 k)))]) (wa46 c hm.2 _ (idx_sub _ _) (by have := idx_len c.men.length (bit8 k); omega)) rfl rfl ?_
        conv => whnf
        refine CallA_v (ds := [(subF c (idxL c.men.length (bit8 k))).d]) (wa28 _) rfl rfl ?_
        rw [he2, if_pos rfl]
        generalize lonW (subF c (idxL c.men.length (bit8 k))) = lon at hlon ⊢
        conv => whnf
        refine LoopA_i (T := tys) tysOk (by exact drawsB_spec mixed tysOk (by decide +kernel)) (a :: l) (fun i (_ : Unit) => ⟨[(2, .ptr 2 0), (4, .d (.bool false)), (5, .d (intsD (a :: l))), (7, .d (intsD (natI (idxL c.men.length (bit8 k))))), (8, .d (.bool (decide (lon = -1)))), (11, .d (i64 i))], [(2, .box (.dd c.cells))], st⟩)
          (fun i r _ => True) () (Wk.sub ⟨(by first | rfl | (simp only [List.length_map]; rfl) | simp [PX.get]), (by first | rfl | (simp only [List.length_map]; rfl) | simp [PX.get]), (by first | rfl | (simp only [List.length_map]; rfl) | simp [PX.get]), (by first | rfl | (simp only [List.length_map]; rfl) | simp [PX.get]), (by first | rfl | (simp only [List.length_map]; rfl) | simp [PX.get]), (by first | rfl | (simp only [List.length_map]; rfl) | simp [PX.get]), trivial⟩ ⟨(by first | rfl | (simp only [List.length_map]; rfl) | simp [PX.get]), trivial⟩) trivial ?_ ?_
        · intro i y r _ hy hi hr _
          obtain ⟨hy1, hy2⟩ := hLin y (List.mem_of_getElem? hy)
          conv => whnf
          refine brk_i (fun _ => ?_) (fun h => absurd hi (by have := of_decide_eq_false h; simp at this ⊢; omega))
          conv => whnf
          refine elemK_nat hy ?_
          conv => whnf
          refine brk_i (fun h => absurd h (by simp; omega)) (fun _ => ?_)
          conv => whnf
          refine elemK_nat hy ?_
          conv => whnf
          refine brk_i (fun h => absurd h (by simp; omega)) (fun _ => ?_)
          conv => whnf
          refine brk_i (fun h1 => ?_) (fun h1 => ?_)
          · have h1 : (i : Int) > 0 := of_decide_eq_true h1
            obtain ⟨k, rfl⟩ : ∃ k, i = k + 1 := ⟨i - 1, by omega⟩
            obtain ⟨z, hz⟩ : ∃ z, (a :: l)[k]? = some z := ⟨_, List.getElem?_eq_getElem (by omega)⟩
            have hlt := asc_next hLp hz hy
            conv => whnf
            refine elemK_nat hy ?_
            conv => whnf
            refine arith_to ((k : Int)) (by (try dsimp only); omega) (wrap_i64 (by (try dsimp only); omega)) ?_
            conv => whnf
            refine elemK_nat hz ?_
            conv => whnf
            refine brk_i (fun h => absurd h (by simp; omega)) (fun _ => ?_)
            conv => whnf
            refine arith_in (wrap_i64 (by (try dsimp only); omega)) ?_
            conv => whnf
            exact ⟨(), trivial, (Wk.sub ⟨(by first | rfl | (simp only [List.length_map]; rfl) | simp [PX.get]), (by first | rfl | (simp only [List.length_map]; rfl) | simp [PX.get]), (by first | rfl | (simp only [List.length_map]; rfl) | simp [PX.get]), (by first | rfl | (simp only [List.length_map]; rfl) | simp [PX.get]), (by first | rfl | (simp only [List.length_map]; rfl) | simp [PX.get]), (by first | rfl | (simp only [List.length_map]; rfl) | simp [PX.get]), trivial⟩ ⟨(by first | rfl | (simp only [List.length_map]; rfl) | simp [PX.get]), trivial⟩)⟩
          · conv => whnf
            refine arith_in (wrap_i64 (by (try dsimp only); omega)) ?_
            conv => whnf
            exact ⟨(), trivial, (Wk.sub ⟨(by first | rfl | (simp only [List.length_map]; rfl) | simp [PX.get]), (by first | rfl | (simp only [List.length_map]; rfl) | simp [PX.get]), (by first | rfl | (simp only [List.length_map]; rfl) | simp [PX.get]), (by first | rfl | (simp only [List.length_map]; rfl) | simp [PX.get]), (by first | rfl | (simp only [List.length_map]; rfl) | simp [PX.get]), (by first | rfl | (simp only [List.length_map]; rfl) | simp [PX.get]), trivial⟩ ⟨(by first | rfl | (simp only [List.length_map]; rfl) | simp [PX.get]), trivial⟩)⟩
        · intro _ _
          conv => whnf
          refine brk_i (fun h => absurd h (by simp)) (fun _ => ?_)
          conv => whnf
          rw [hl]
          refine CallA_v (ds := [c.d, intsD (natI (idxL c.men.length (bit8 s)))]) (wa46 c hm.2 _ (idx_sub _ _) (by have := idx_len c.men.length (bit8 s); omega)) rfl rfl ?_
          conv => whnf
          refine CallA_v (ds := [(subF c (idxL c.men.length (bit8 s))).d]) (wa28 _) rfl rfl ?_
          rw [he3, if_pos rfl, hlon3.2 hw]
          conv => whnf
          refine brk_i (fun _ => ?_) (fun h => absurd h (by simp [natI]; omega))
          conv => whnf
          refine brk_i (fun h5 => ?_) (fun h5 => ?_)
          · conv => whnf
            refine CallA_v (wa27) rfl rfl ?_
            conv => whnf
            exact RetA_view 0 rfl ⟨⟨rfl, rfl⟩, rfl⟩
          · have h5 : lon = -1 := by simpa using h5
            have h6 := hmn (hlon.1 h5)
            conv => whnf
            refine brk_i (fun _ => ?_) (fun h => absurd h (by simp [natI]; simp only [List.length_cons] at h6 hll; omega))
            conv => whnf
            refine CallA_v (wa27) rfl rfl ?_
            conv => whnf
            exact RetA_view 0 rfl ⟨⟨rfl, rfl⟩, rfl⟩
      · conv => whnf
        refine LoopA_i (T := tys) tysOk (by exact drawsB_spec mixed tysOk (by decide +kernel)) (a :: l) (fun i (_ : Unit) => ⟨[(2, .ptr 2 0), (4, .d (.bool false)), (5, .d (intsD (a :: l))), (7, .d (intsD (natI (idxL c.men.length (bit8 k))))), (8, .d (.bool (false))), (11, .d (i64 i))], [(2, .box (.dd c.cells))], st⟩)
          (fun i r _ => True) () (Wk.sub ⟨(by first | rfl | (simp only [List.length_map]; rfl) | simp [PX.get]), (by first | rfl | (simp only [List.length_map]; rfl) | simp [PX.get]), (by first | rfl | (simp only [List.length_map]; rfl) | simp [PX.get]), (by first | rfl | (simp only [List.length_map]; rfl) | simp [PX.get]), (by first | rfl | (simp only [List.length_map]; rfl) | simp [PX.get]), (by first | rfl | (simp only [List.length_map]; rfl) | simp [PX.get]), trivial⟩ ⟨(by first | rfl | (simp only [List.length_map]; rfl) | simp [PX.get]), trivial⟩) trivial ?_ ?_
        · intro i y r _ hy hi hr _
          obtain ⟨hy1, hy2⟩ := hLin y (List.mem_of_getElem? hy)
          conv => whnf
          refine brk_i (fun _ => ?_) (fun h => absurd hi (by have := of_decide_eq_false h; simp at this ⊢; omega))
          conv => whnf
          refine elemK_nat hy ?_
          conv => whnf
          refine brk_i (fun h => absurd h (by simp; omega)) (fun _ => ?_)
          conv => whnf
          refine elemK_nat hy ?_
          conv => whnf
          refine brk_i (fun h => absurd h (by simp; omega)) (fun _ => ?_)
          conv => whnf
          refine brk_i (fun h1 => ?_) (fun h1 => ?_)
          · have h1 : (i : Int) > 0 := of_decide_eq_true h1
            obtain ⟨k, rfl⟩ : ∃ k, i = k + 1 := ⟨i - 1, by omega⟩
            obtain ⟨z, hz⟩ : ∃ z, (a :: l)[k]? = some z := ⟨_, List.getElem?_eq_getElem (by omega)⟩
            have hlt := asc_next hLp hz hy
            conv => whnf
            refine elemK_nat hy ?_
            conv => whnf
            refine arith_to ((k : Int)) (by (try dsimp only); omega) (wrap_i64 (by (try dsimp only); omega)) ?_
            conv => whnf
            refine elemK_nat hz ?_
            conv => whnf
            refine brk_i (fun h => absurd h (by simp; omega)) (fun _ => ?_)
            conv => whnf
            refine arith_in (wrap_i64 (by (try dsimp only); omega)) ?_
            conv => whnf
            exact ⟨(), trivial, (Wk.sub ⟨(by first | rfl | (simp only [List.length_map]; rfl) | simp [PX.get]), (by first | rfl | (simp only [List.length_map]; rfl) | simp [PX.get]), (by first | rfl | (simp only [List.length_map]; rfl) | simp [PX.get]), (by first | rfl | (simp only [List.length_map]; rfl) | simp [PX.get]), (by first | rfl | (simp only [List.length_map]; rfl) | simp [PX.get]), (by first | rfl | (simp only [List.length_map]; rfl) | simp [PX.get]), trivial⟩ ⟨(by first | rfl | (simp only [List.length_map]; rfl) | simp [PX.get]), trivial⟩)⟩
          · conv => whnf
            refine arith_in (wrap_i64 (by (try dsimp only); omega)) ?_
            conv => whnf
            exact ⟨(), trivial, (Wk.sub ⟨(by first | rfl | (simp only [List.length_map]; rfl) | simp [PX.get]), (by first | rfl | (simp only [List.length_map]; rfl) | simp [PX.get]), (by first | rfl | (simp only [List.length_map]; rfl) | simp [PX.get]), (by first | rfl | (simp only [List.length_map]; rfl) | simp [PX.get]), (by first | rfl | (simp only [List.length_map]; rfl) | simp [PX.get]), (by first | rfl | (simp only [List.length_map]; rfl) | simp [PX.get]), trivial⟩ ⟨(by first | rfl | (simp only [List.length_map]; rfl) | simp [PX.get]), trivial⟩)⟩
        · intro _ _
          conv => whnf
          refine brk_i (fun h => absurd h (by simp)) (fun _ => ?_)
          conv => whnf
          rw [hl]
          refine CallA_v (ds := [c.d, intsD (natI (idxL c.men.length (bit8 s)))]) (wa46 c hm.2 _ (idx_sub _ _) (by have := idx_len c.men.length (bit8 s); omega)) rfl rfl ?_
          conv => whnf
          refine CallA_v (ds := [(subF c (idxL c.men.length (bit8 s))).d]) (wa28 _) rfl rfl ?_
          rw [he3, if_pos rfl, hlon3.2 hw]
          conv => whnf
          refine brk_i (fun _ => ?_) (fun h => absurd h (by simp [natI]; omega))
          conv => whnf
          refine CallA_v (wa27) rfl rfl ?_
          conv => whnf
          exact RetA_view 0 rfl ⟨⟨rfl, rfl⟩, rfl⟩
end Go.PX

namespace Go.PX
open Go.Proofs

/- Watch: WatchNeeded. -/

theorem set_mono {c : WCase} (hR : WR c) {S S' : Int} (h : ∀ m : Int, 0 ≤ m ∧ m < c.men.length → inSet S m = true → inSet S' m = true) (ha : endB c S .zero = true) : endB c S' .zero = true := by
  have hs : SameRows c c S S' (fun t t' => t = t') := by
    intro t t' g hr hga hw
    subst hr
    have hin := asc_in hga
    obtain ⟨h1, h2, h3, h4, h5⟩ := why_zero hw
    exact ⟨hga, why_of h1 h2 (fun m hm => ⟨h m (hin m hm) (h3 m hm).1, (h3 m hm).2⟩) h4 h5, rfl⟩
  exact (endB_iff hR (InU.zero hR)).2 (sim_alive _ hs.succ rfl ((endB_iff hR (InU.zero hR)).1 ha))

theorem need_one {c : WCase} (hR : WR c) (h1 : c.men.length = 1) {j : Nat} (hj : j < c.men.length) : endB c (butSet c j) .zero = false := by
  cases hb : endB c (butSet c j) .zero with
  | false => rfl
  | true =>
    obtain ⟨u, hu, _⟩ := alive_step ((endB_iff hR (InU.zero hR)).1 hb)
    obtain ⟨x, hx, rfl⟩ := List.mem_map.1 hu
    obtain ⟨hw, _⟩ := group_why hx
    have hin := asc_in (group_asc hx)
    obtain ⟨_, ⟨m, hm, _⟩, h3, _, _⟩ := why_zero hw
    have h4 := (h3 m hm).1
    have h5 := hin m hm
    rw [inSet_but hR hj h5] at h4
    have h4 := of_decide_eq_true h4
    omega

theorem need_mem {c : WCase} {j : Nat} (hj : j < c.men.length) : (j : Int) ∈ needL c ↔ endB c (butSet c j) .zero = false := by
  unfold needL
  constructor
  · intro h
    obtain ⟨i, hi, he⟩ := List.mem_map.1 h
    have : i = j := by omega
    subst this
    simpa using (List.mem_filter.1 hi).2
  · intro h
    exact List.mem_map.2 ⟨j, List.mem_filter.2 ⟨List.mem_range.2 hj, by rw [h]; rfl⟩, rfl⟩

theorem need_in {c : WCase} : ∀ m ∈ needL c, 0 ≤ m ∧ m < c.men.length := by
  intro m hm
  obtain ⟨i, hi, rfl⟩ := List.mem_map.1 hm
  have := List.mem_range.1 (List.mem_filter.1 hi).1
  omega

/-- A man who is needed is among those of Fewest. -/
theorem need_few {c : WCase} (hv : (checkW c).2.2 = 0) (ha : endB c (allMen c) .zero = true) : fewL c ≠ [] ∧ ∀ m ∈ needL c, m ∈ fewL c := by
  have hR := wR hv
  have hm := hR.men
  have hall : allMen c ∈ setsL c.men.length := by
    refine sets_mem ?_
    unfold allMen
    have h2 : ((2 : Int) ^ c.men.length) = ((2 ^ c.men.length : Nat) : Int) := by simp
    have h3 : 2 ≤ 2 ^ c.men.length := by
      calc 2 = 2 ^ 1 := rfl
        _ ≤ 2 ^ c.men.length := Nat.pow_le_pow_right (by omega) hm.1
    omega
  rcases few_law hv with ⟨_, h2⟩ | ⟨s, hs, hw, hl, hne, hin, _⟩
  · rw [h2 _ hall] at ha; cases ha
  · refine ⟨hne, fun m hmn => ?_⟩
    have h1 := need_in m hmn
    obtain ⟨j, rfl⟩ : ∃ j : Nat, m = j := ⟨m.toNat, by omega⟩
    have hj : j < c.men.length := by omega
    have h2 := (need_mem hj).1 hmn
    rw [hl]
    refine List.mem_map.2 ⟨j, (mem_idx hj).2 ?_, rfl⟩
    cases hb : bit8 s j with
    | true => rfl
    | false =>
      have := set_mono hR (S := s) (S' := butSet c j) (fun k hk hks => by
        rw [inSet_but hR hj hk]
        refine decide_eq_true ?_
        rintro rfl
        rw [hin j hj, hb] at hks
        cases hks) hw
      rw [h2] at this
      cases this

theorem need_len (c : WCase) : (needL c).length ≤ c.men.length := by
  unfold needL
  rw [List.length_map]
  have := List.length_filter_le (fun (i : Nat) => !endB c (butSet c i) .zero) (List.range c.men.length)
  rw [List.length_range] at this
  exact this

theorem wa10 (c : WCase) (which : Int) (hwh : 0 ≤ which ∧ which ≤ 255) : FnV Try.prog 10 [c.d, .int .u8 which] (.bool true) := by
  refine fnV_of mixed tysOk Try.func10 rfl (ft := ft10) 2 (by decide +kernel) (by rfl) fun {σ} Y st => ?_
  conv => whnf
  refine CallA_v (wa34 c) rfl rfl ?_
  conv => whnf
  by_cases hc : (checkW c).2.2 = 0
  · have hR := wR hc
    have hm := hR.men
    have hv : valW c = true := decide_eq_true hc
    have hE : entE c [] = 0 := by rw [ent_nil]; exact hc
    simp only [hE, true_and, if_true]
    cases ha : endB c (allMen c) .zero with
    | false =>
      have hfe : fewL c = [] := by
        rcases few_law hc with ⟨h1, _⟩ | ⟨s, _, hw, _⟩
        · exact h1
        · have := set_mono hR (S := s) (S' := allMen c) (fun m hm _ => inSet_all hR hm) hw
          rw [ha] at this; cases this
      conv => whnf
      refine CallA_v (wa32 c) rfl rfl ?_
      conv => whnf
      rw [hE, if_pos rfl, if_pos rfl, hfe]
      conv => whnf
      refine CallA_v (wa43 c) rfl rfl ?_
      conv => whnf
      rw [hv]
      conv => whnf
      refine CallA_v (wa27) rfl rfl ?_
      conv => whnf
      exact RetA_view 0 rfl ⟨⟨rfl, rfl⟩, rfl⟩
    | true =>
      obtain ⟨hne, hsub⟩ := need_few hc ha
      have hnl := need_len c
      have hmem := fun (j : Nat) (hj : j < c.men.length) => need_mem (c := c) hj
      have hflen : (fewL c).length ≤ 5 := by
        rcases few_law hc with ⟨h1, _⟩ | ⟨s, _, _, h2, _⟩
        · rw [h1]; simp
        · rw [h2]
          have := idx_len c.men.length (bit8 s)
          simp [natI]; omega
      generalize needL c = N at hsub hnl hmem ⊢
      simp only [if_true]
      conv => whnf
      refine CallA_v (wa32 c) rfl rfl ?_
      conv => whnf
      rw [hE, if_pos rfl, if_pos rfl, if_neg hne]
      generalize fewL c = M at hne hsub hflen ⊢
      cases M with
      | nil => exact absurd rfl hne
      | cons a l =>
        conv => whnf
        refine CallA_v (wa43 c) rfl rfl ?_
        conv => whnf
        rw [hv]
        conv => whnf
        refine LoopA_i (T := tys) tysOk (by exact drawsB_spec mixed tysOk (by decide +kernel)) N (fun i (_ : Unit) => ⟨[(1, .d (.int .u8 which)), (2, .ptr 2 0), (4, .d (.bool false)), (5, .d (intsD N)), (7, .d (intsD (a :: l))), (8, .d (i64 0)), (9, .d (i64 i))], [(2, .box (.dd c.cells))], st⟩)
          (fun i r _ => True) () ((wk_ints (t := 5) (l := N) rfl).trans (Wk.sub ⟨rfl, rfl, rfl, rfl, rfl, rfl, rfl, trivial⟩ ⟨rfl, trivial⟩)) trivial ?_ ?_
        · intro i y r _ hy hi hr _
          conv => whnf
          refine brk_i (fun _ => ?_) (fun h => absurd hi (by have := of_decide_eq_false h; simp at this; omega))
          conv => whnf
          refine elemK_nat hy ?_
          conv => whnf
          refine CallA_v (ds := [intsD (a :: l), i64 y]) (wa49 (a :: l) y (by omega)) rfl rfl ?_
          rw [decide_eq_true (hsub y (List.mem_of_getElem? hy))]
          conv => whnf
          refine arith_in (wrap_i64 (by (try dsimp only); omega)) ?_
          conv => whnf
          exact ⟨(), trivial, (Wk.sub ⟨(by first | rfl | (simp only [List.length_map]; rfl) | simp [PX.get]), (by first | rfl | (simp only [List.length_map]; rfl) | simp [PX.get]), (by first | rfl | (simp only [List.length_map]; rfl) | simp [PX.get]), (by first | rfl | (simp only [List.length_map]; rfl) | simp [PX.get]), (by first | rfl | (simp only [List.length_map]; rfl) | simp [PX.get]), (by first | rfl | (simp only [List.length_map]; rfl) | simp [PX.get]), (by first | rfl | (simp only [List.length_map]; rfl) | simp [PX.get]), trivial⟩ ⟨(by first | rfl | (simp only [List.length_map]; rfl) | simp [PX.get]), trivial⟩)⟩
        · intro _ _
          conv => whnf
          refine brk_i (fun h => absurd h (by simp)) (fun _ => ?_)
          conv => whnf
          refine arith_in (wrap_i64 (by omega)) ?_
          conv => whnf
          refine chk_i (decide_eq_true (by rw [List.length_map]; omega)) ?_
          conv => whnf
          rw [List.length_map]
          obtain ⟨j, hj, hjn⟩ : ∃ j : Nat, which.tmod (c.men.length : Int) = j ∧ j < c.men.length := by
            have h1 := Int.tmod_nonneg (c.men.length : Int) hwh.1
            have h2 := Int.tmod_lt_of_pos which (b := (c.men.length : Int)) (by omega)
            exact ⟨(which.tmod (c.men.length : Int)).toNat, by omega, by omega⟩
          rw [hj]
          have hjm := hmem j hjn
          refine brk_i (fun h1 => ?_) (fun h1 => ?_)
          · have h1 : 1 < c.men.length := by have := of_decide_eq_true h1; (try simp at this); omega
            have hS : ∀ m, m < c.men.length → inSet (butSet c j) (m : Int) = (fun m : Nat => decide ((m : Int) ≠ (j : Int))) m := fun m hm2 => inSet_but hR hjn (by omega)
            have hne2 : idxL c.men.length (fun m : Nat => decide ((m : Int) ≠ (j : Int))) ≠ [] := by
              have : (if j = 0 then 1 else 0) ∈ idxL c.men.length (fun m : Nat => decide ((m : Int) ≠ (j : Int))) := by
                rw [mem_idx (by split <;> omega)]
                refine decide_eq_true ?_
                split <;> omega
              intro h; rw [h] at this; cases this
            obtain ⟨he2, hlon⟩ := alone_law hc hS hne2
            conv => whnf
            refine DrawCall_v (ds := [c.d, i64 j]) (wa50 c hm.2 j) rfl rfl ?_
            conv => whnf
            refine DrawCall_v (ds := [c.d, intsD (natI (idxL c.men.length fun m => decide ((m : Int) ≠ (j : Int))))]) (wa46 c hm.2 _ (idx_sub _ _) (by have := idx_len c.men.length (fun m : Nat => decide ((m : Int) ≠ (j : Int))); omega)) rfl rfl ?_
            conv => whnf
            refine DrawCall_v (ds := [(subF c (idxL c.men.length fun m => decide ((m : Int) ≠ (j : Int)))).d]) (wa28 _) rfl rfl ?_
            rw [he2, if_pos rfl]
            generalize lonW (subF c (idxL c.men.length fun m => decide ((m : Int) ≠ (j : Int)))) = lon at hlon ⊢
            conv => whnf
            refine CallA_v (ds := [intsD N, i64 j]) (wa49 N j (by omega)) rfl rfl ?_
            cases he : endB c (butSet c j) .zero with
            | true =>
              rw [he] at hlon hjm
              rw [hlon.2 rfl, decide_eq_false (fun h => by have := hjm.1 h; cases this)]
              conv => whnf
              refine CallA_v (wa27) rfl rfl ?_
              conv => whnf
              exact RetA_view 0 rfl ⟨⟨rfl, rfl⟩, rfl⟩
            | false =>
              rw [he] at hlon hjm
              have hl1 : ¬ lon = -1 := fun h => by have := hlon.1 h; cases this
              rw [decide_eq_true (hjm.2 rfl)]
              conv => whnf
              refine brk_i (fun _ => ?_) (fun h => absurd h (by simp [hl1]))
              conv => whnf
              refine CallA_v (wa27) rfl rfl ?_
              conv => whnf
              exact RetA_view 0 rfl ⟨⟨rfl, rfl⟩, rfl⟩
          · have h1 : c.men.length = 1 := by have := of_decide_eq_false h1; (try simp at this); omega
            conv => whnf
            refine CallA_v (ds := [intsD N, i64 j]) (wa49 N j (by omega)) rfl rfl ?_
            rw [decide_eq_true (hjm.2 (need_one hR h1 hjn))]
            conv => whnf
            refine CallA_v (wa27) rfl rfl ?_
            conv => whnf
            exact RetA_view 0 rfl ⟨⟨rfl, rfl⟩, rfl⟩
  · have hv : valW c = false := decide_eq_false hc
    have hE : entE c [] ≠ 0 := by rw [ent_nil]; exact hc
    simp only [hE, false_and, if_false]
    conv => whnf
    refine CallA_v (wa32 c) rfl rfl ?_
    conv => whnf
    rw [if_neg hE, if_neg hE]
    conv => whnf
    refine CallA_v (wa43 c) rfl rfl ?_
    conv => whnf
    rw [hv]
    conv => whnf
    refine brk_i (fun _ => ?_) (fun h => absurd h (by simp [hE]))
    conv => whnf
    refine brk_i (fun _ => ?_) (fun h => absurd h (by simp))
    conv => whnf
    refine CallA_v (wa27) rfl rfl ?_
    conv => whnf
    exact RetA_view 0 rfl ⟨⟨rfl, rfl⟩, rfl⟩
end Go.PX
