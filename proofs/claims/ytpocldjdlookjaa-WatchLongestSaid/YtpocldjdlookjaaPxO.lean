import Derived.Test.YtpocldjdlookjaaPxN
import Derived.Test.YtpocldjdlookjaaPxL
set_option linter.all false
set_option maxRecDepth 10000
namespace Go.PX
open Go.Proofs

/- Watch: the history of a good rota is how tired men are (plain law); First, Bad. -/

structure Hist (c : WCase) (h : List (List Int)) (t : Tired) : Prop where
  slot : t.slot = slotI c h.length
  run : ∀ j : Nat, j < c.men.length → 0 < rowH j h → t.get j = rowH j h
  new : ∀ j : Nat, j < c.men.length → rowH j h = 0 → restH j h = -1 → t.get j = 0
  rest : ∀ j : Nat, j < c.men.length → rowH j h = 0 → 0 < restH j h → t.get j = min 0 (restH j h - c.rest)

theorem rowH_ge (m : Int) : ∀ h, 0 ≤ rowH m h
  | [] => by simp [rowH]
  | r :: h => by
    have := rowH_ge m h
    rw [rowH]; split <;> omega

theorem rest_row (m : Int) : ∀ h, restH m h = 0 ↔ 0 < rowH m h
  | [] => by simp [restH, rowH]
  | r :: h => by
    have h1 := rowH_ge m h
    have h2 := restH_ge m h
    rw [restH, rowH]
    by_cases hm : m ∈ r
    · rw [if_pos hm, if_pos hm]; omega
    · rw [if_neg hm, if_neg hm]
      by_cases h3 : restH m h = -1
      · rw [if_pos h3]; omega
      · rw [if_neg h3]; omega

theorem Hist.zero {c : WCase} (hR : WR c) : Hist c [] .zero := by
  have hm := hR.men
  have hz : ∀ j : Nat, j < c.men.length → Tired.zero.get j = 0 := by
    intro j hj
    have h2 : j = 0 ∨ j = 1 ∨ j = 2 ∨ j = 3 ∨ j = 4 := by omega
    rcases h2 with rfl | rfl | rfl | rfl | rfl <;> rfl
  refine ⟨by simp [slotI, Tired.zero], fun j hj h => by simp [rowH] at h, fun j hj _ _ => hz j hj, fun j hj _ h => by simp [restH] at h⟩

theorem slot_step {c : WCase} (hR : WR c) (n : Nat) : (slotI c n + 1).tmod c.slots.length = slotI c (n + 1) := by
  have hs := hR.slots
  unfold slotI
  have h1 : (0 : Int) ≤ (n : Int).tmod c.slots.length := Int.tmod_nonneg _ (by omega)
  rw [Int.tmod_eq_emod_of_nonneg (by omega), Int.tmod_eq_emod_of_nonneg (by omega), Int.tmod_eq_emod_of_nonneg (by omega), Int.emod_add_emod]
  rfl

theorem Hist.step {c : WCase} (hR : WR c) {set : Int} {h : List (List Int)} {t : Tired} {s : Slot} {g : List Int} (hh : Hist c h t) (hw : (whyF c set t s g).1 = 0) : Hist c (g :: h) (behindF c t g) := by
  have hm := hR.men
  have hre := hR.rest
  obtain ⟨_, _, _, _, h5⟩ := why_zero hw
  have hb : ∀ j : Nat, j < c.men.length → (behindF c t g).get j = tireF c.rest (decide ((j : Int) ∈ g)) (t.get j) := fun j hj => by
    rw [behind_get hR (by omega), if_pos hj]
  have ht : ∀ j : Nat, j < c.men.length → (0 < rowH j h ∧ t.get j = rowH j h) ∨ (rowH j h = 0 ∧ restH j h = -1 ∧ t.get j = 0) ∨ (rowH j h = 0 ∧ 0 < restH j h ∧ t.get j = min 0 (restH j h - c.rest)) := by
    intro j hj
    have h1 := rowH_ge (j : Int) h
    have h2 := restH_ge (j : Int) h
    have h3 := rest_row (j : Int) h
    rcases Int.lt_or_eq_of_le h1 with h4 | h4
    · exact .inl ⟨h4, hh.run j hj h4⟩
    · by_cases h6 : restH (j : Int) h = -1
      · exact .inr (.inl ⟨h4.symm, h6, hh.new j hj h4.symm h6⟩)
      · have h7 : 0 < restH (j : Int) h := by omega
        exact .inr (.inr ⟨h4.symm, h7, hh.rest j hj h4.symm h7⟩)
  refine ⟨?_, fun j hj hp => ?_, fun j hj hp hq => ?_, fun j hj hp hq => ?_⟩
  · show (behindF c t g).slot = _
    unfold behindF
    rw [tireTo_slot]
    show (t.slot + 1).tmod _ = _
    rw [hh.slot, slot_step hR]; rfl
  · rw [rowH] at hp ⊢
    split at hp
    · rename_i hin
      rw [if_pos hin, hb j hj, tireF, if_pos (by simpa using hin)]
      have h8 := h5 _ hin
      simp only [Int.toNat_natCast] at h8
      have := ht j hj
      omega
    · omega
  · rw [rowH] at hp
    rw [restH] at hq
    split at hp
    · have := rowH_ge (j : Int) h; omega
    · rename_i hin
      rw [if_neg hin] at hq
      have := restH_ge (j : Int) h
      rw [hb j hj, tireF, if_neg (by simpa using hin)]
      have h9 := ht j hj
      have h3 := rest_row (j : Int) h
      split at hq
      · have h10 : t.get j = 0 := by omega
        rw [h10]; simp
      · omega
  · rw [rowH] at hp
    rw [restH] at hq ⊢
    split at hp
    · have := rowH_ge (j : Int) h; omega
    · rename_i hin
      rw [if_neg hin] at hq ⊢
      rw [hb j hj, tireF, if_neg (by simpa using hin)]
      have h9 := ht j hj
      have h3 := rest_row (j : Int) h
      split at hq
      · omega
      · rename_i hne
        rw [if_neg hne]
        rcases h9 with ⟨h10, h11⟩ | ⟨h10, h11, h12⟩ | ⟨h10, h11, h12⟩
        · have h13 := h3.2 h10
          rw [if_pos (by omega), h13]; omega
        · omega
        · rw [h12]
          split
          · omega
          · split <;> omega

theorem inSet_all {c : WCase} (hR : WR c) {m : Int} (h : 0 ≤ m ∧ m < c.men.length) : inSet (allMen c) m = true := by
  have hm := hR.men
  obtain ⟨j, rfl⟩ : ∃ j : Nat, m = j := ⟨m.toNat, by omega⟩
  unfold allMen
  generalize hn : c.men.length = n at *
  have h1 : n = 1 ∨ n = 2 ∨ n = 3 ∨ n = 4 ∨ n = 5 := by omega
  have h2 : j = 0 ∨ j = 1 ∨ j = 2 ∨ j = 3 ∨ j = 4 := by omega
  rcases h1 with rfl | rfl | rfl | rfl | rfl <;> rcases h2 with rfl | rfl | rfl | rfl | rfl <;> first | (exact absurd h.2 (by decide)) | decide

theorem find_congr {α : Type} {p q : α → Bool} : ∀ {l : List α}, (∀ x ∈ l, p x = q x) → l.find? p = l.find? q
  | [], _ => rfl
  | x :: r, h => by
    rw [List.find?_cons, List.find?_cons, h x (by simp), find_congr fun y hy => h y (by simp [hy])]

/-- Why a group cannot stand, by the rota, is why it cannot, by how tired men are. -/
theorem why_eq {c : WCase} (hR : WR c) {rota : List (List Int)} {t : Tired} (hh : Hist c rota.reverse t) {g : List Int} (hg : RowIn c g) : whyR c rota g = whyT c (allMen c) t g := by
  have hm := hR.men
  have hru := hR.run
  have hs : slotAt c t = slotOf c rota.length := by
    unfold slotAt slotOf
    rw [hh.slot, List.length_reverse]
  have hsl : t.slot = slotI c rota.length := by rw [hh.slot, List.length_reverse]
  have e3 : g.find? (noP c (slotI c rota.length)) = g.find? fun m => !inSet (allMen c) m || decide (t.slot ∈ (manAt c m).no) := find_congr fun m hm' => by
    rw [inSet_all hR (hg m hm'), hsl]; rfl
  have e4 : g.find? (runP c rota.reverse) = g.find? fun m => decide (t.get m.toNat ≥ c.run) := find_congr fun m hm' => by
    obtain ⟨h1, h2⟩ := hg m hm'
    obtain ⟨j, rfl⟩ : ∃ j : Nat, m = j := ⟨m.toNat, by omega⟩
    have hj : j < c.men.length := by omega
    unfold runP
    refine decide_eq_decide.2 ?_
    simp only [Int.toNat_natCast]
    have h3 := rowH_ge (j : Int) rota.reverse
    have h4 := restH_ge (j : Int) rota.reverse
    have h5 := rest_row (j : Int) rota.reverse
    have h6 := hh.run j hj
    have h7 := hh.new j hj
    have h8 := hh.rest j hj
    rcases Int.lt_or_eq_of_le h3 with h9 | h9
    · rw [h6 h9]
    · by_cases h10 : restH (j : Int) rota.reverse = -1
      · have := h7 h9.symm h10; omega
      · have := h8 h9.symm (by omega); omega
  have e5 : g.find? (restP c rota.reverse) = g.find? fun m => decide (t.get m.toNat < 0) := find_congr fun m hm' => by
    obtain ⟨h1, h2⟩ := hg m hm'
    obtain ⟨j, rfl⟩ : ∃ j : Nat, m = j := ⟨m.toNat, by omega⟩
    have hj : j < c.men.length := by omega
    unfold restP
    rw [← Bool.decide_and]
    refine decide_eq_decide.2 ?_
    simp only [Int.toNat_natCast]
    have h3 := rowH_ge (j : Int) rota.reverse
    have h4 := restH_ge (j : Int) rota.reverse
    have h5 := rest_row (j : Int) rota.reverse
    have h6 := hh.run j hj
    have h7 := hh.new j hj
    have h8 := hh.rest j hj
    rcases Int.lt_or_eq_of_le h3 with h9 | h9
    · have := h6 h9; omega
    · by_cases h10 : restH (j : Int) rota.reverse = -1
      · have := h7 h9.symm h10; omega
      · have := h8 h9.symm (by omega); omega
  unfold whyR whyT whyF
  rw [e3, e4, e5, hs]
  all_goals
    generalize (g.find? fun m => !inSet (allMen c) m || decide (t.slot ∈ (manAt c m).no)) = f3
    generalize (g.find? fun m => decide (t.get m.toNat ≥ c.run)) = f4
    generalize (g.find? fun m => decide (t.get m.toNat < 0)) = f5
    cases f3 <;> cases f4 <;> cases f5 <;> rfl

theorem wa44 (c : WCase) (hR : WR c) (rota : List (List Int)) (hl : rota.length < 1000000) (hr : ∀ r ∈ rota, RowIn c r ∧ r.length < 1000000) :
    FnV Try.prog 44 [c.d, rotaD rota] (.tup [i64 (walkF c (allMen c) .zero rota 0).1.1, i64 (walkF c (allMen c) .zero rota 0).1.2.1, i64 (walkF c (allMen c) .zero rota 0).1.2.2]) := by
  refine fnV_of mixed tysOk Try.func44 rfl (ft := ft44) 2 (by decide +kernel) (by rfl) fun {σ} Y st => ?_
  conv => whnf
  refine LoopA_i (T := tys) tysOk (by exact drawsB_spec mixed tysOk (by decide +kernel)) rota (fun i (u : Tired) => ⟨[(1, .d (rotaD rota)), (2, .ptr 2 0), (4, .d (i64 0)), (5, .d (i64 0)), (6, .d (i64 0)), (7, .d (i64 i))], [(2, .box (.dd c.cells))], st⟩)
    (fun i r u => walkF c (allMen c) .zero rota 0 = walkF c (allMen c) u r i ∧ Hist c (rota.take i).reverse u) .zero (Wk.sub ⟨(by first | rfl | (simp only [List.length_map]; rfl) | simp [PX.get]), (by first | rfl | (simp only [List.length_map]; rfl) | simp [PX.get]), (by first | rfl | (simp only [List.length_map]; rfl) | simp [PX.get]), (by first | rfl | (simp only [List.length_map]; rfl) | simp [PX.get]), (by first | rfl | (simp only [List.length_map]; rfl) | simp [PX.get]), (by first | rfl | (simp only [List.length_map]; rfl) | simp [PX.get]), trivial⟩ ⟨(by first | rfl | (simp only [List.length_map]; rfl) | simp [PX.get]), trivial⟩) ⟨rfl, Hist.zero hR⟩ ?_ ?_
  · rintro i x r u hx hi hr2 ⟨he, hh⟩
    have hxm := List.mem_of_getElem? hx
    have htk : rota.take (i + 1) = rota.take i ++ [x] := by rw [List.take_succ, hx]; rfl
    have hwe := why_eq hR hh (hr x hxm).1
    rw [walkF] at he
    conv => whnf
    refine brk_i (fun _ => ?_) (fun h => absurd hi (by have := of_decide_eq_false h; simp at this; omega))
    refine chk_i (by simp; omega) ?_
    conv => whnf
    refine chk_i (by cases rota <;> rfl) ?_
    conv => whnf
    refine elemK_nat hx ?_
    conv => whnf
    have htd : (((rota.map fun r => [intsD r]).take (i : Int).toNat).drop 0) = (rota.take i).map fun r => [intsD r] := by simp [List.map_take]
    rw [htd]
    refine DrawCall_v (ds := [c.d, rotaD (rota.take i), intsD x]) (wa71 c hR (rota.take i) (by rw [List.length_take]; omega) (fun r h => (hr r (List.mem_of_mem_take h)).2) x (hr x hxm).1 (hr x hxm).2) rfl rfl ?_
    rw [hwe]
    conv => whnf
    refine brk_i (fun h1 => ?_) (fun h1 => ?_)
    · have h1 : ¬ (whyT c (allMen c) u x).1 = 0 := by simpa using h1
      rw [if_neg h1] at he
      conv => whnf
      rw [he]
      exact RetA_view 0 rfl ⟨⟨rfl, rfl⟩, rfl⟩
    · have h1 : (whyT c (allMen c) u x).1 = 0 := by simpa using h1
      rw [if_pos h1] at he
      conv => whnf
      refine arith_in (wrap_i64 (by (try dsimp only); omega)) ?_
      conv => whnf
      refine ⟨behindF c u x, ⟨he, ?_⟩, (Wk.sub ⟨(by first | rfl | (simp only [List.length_map]; rfl) | simp [PX.get]), (by first | rfl | (simp only [List.length_map]; rfl) | simp [PX.get]), (by first | rfl | (simp only [List.length_map]; rfl) | simp [PX.get]), (by first | rfl | (simp only [List.length_map]; rfl) | simp [PX.get]), (by first | rfl | (simp only [List.length_map]; rfl) | simp [PX.get]), (by first | rfl | (simp only [List.length_map]; rfl) | simp [PX.get]), trivial⟩ ⟨(by first | rfl | (simp only [List.length_map]; rfl) | simp [PX.get]), trivial⟩)⟩
      rw [htk, List.reverse_append]
      exact hh.step hR h1
  · rintro u ⟨he, _⟩
    rw [walkF] at he
    conv => whnf
    refine brk_i (fun h => absurd h (by simp)) (fun _ => ?_)
    conv => whnf
    rw [he]
    exact RetA_view 0 rfl ⟨⟨rfl, rfl⟩, rfl⟩

theorem wa18 (c : WCase) (rota : List (List Int)) : FnV Try.prog 18 [c.d, rotaD rota] (.tup [i64 (badF c rota).1, i64 (badF c rota).2.1, i64 (badF c rota).2.2.1, i64 (badF c rota).2.2.2]) := by
  refine fnV_of mixed tysOk Try.func18 rfl (ft := ft18) 2 (by decide +kernel) (by rfl) fun {σ} Y st => ?_
  conv => whnf
  refine CallA_v (wa65 c rota) rfl rfl ?_
  conv => whnf
  unfold badF
  by_cases h0 : entE c rota = 0
  · obtain ⟨hR, hl, _⟩ := ent_ok h0
    rw [h0]
    simp only [if_true]
    conv => whnf
    have hrs : ∀ r ∈ rota, RowIn c r ∧ r.length < 1000000 := fun r hr => ⟨(rows_ok h0 r hr).1, by
      obtain ⟨_, _, hall⟩ := ent_ok h0
      have hm := hR.men
      rcases ascF_len (hall r hr) with h1 | h1
      · rw [h1]; simp
      · omega⟩
    refine CallA_v (ds := [c.d, rotaD rota]) (wa44 c hR rota (by omega) hrs) rfl rfl ?_
    conv => whnf
    exact RetA_view 0 rfl ⟨⟨rfl, rfl⟩, rfl⟩
  · rw [if_neg h0]
    conv => whnf
    refine brk_i (fun _ => ?_) (fun h1 => absurd h1 (by simp [h0]))
    conv => whnf
    exact RetA_view 0 rfl ⟨⟨rfl, rfl⟩, rfl⟩
end Go.PX

namespace Go.PX
open Go.Proofs

/- Watch: the reference: good, Stood. -/

theorem rows_in {c : WCase} {rota : List (List Int)} (h0 : entE c rota = 0) : ∀ r ∈ rota, RowIn c r ∧ r.length < 1000000 := fun r hr => ⟨(rows_ok h0 r hr).1, by
  have := rows_small h0 r hr
  omega⟩

theorem wa67 (c : WCase) (rota : List (List Int)) : FnV Try.prog 67 [c.d, rotaD rota] (i64 (goodE c rota)) := by
  refine fnV_of mixed tysOk Try.func67 rfl (ft := ft67) 2 (by decide +kernel) (by rfl) fun {σ} Y st => ?_
  conv => whnf
  refine CallA_v (wa65 c rota) rfl rfl ?_
  conv => whnf
  unfold goodE
  refine brk_i (fun h0 => ?_) (fun h0 => ?_)
  · have h0 : ¬ entE c rota = 0 := by simpa using h0
    rw [if_neg h0]
    conv => whnf
    exact RetA_view 0 rfl ⟨⟨rfl, rfl⟩, rfl⟩
  · have h0 : entE c rota = 0 := by simpa using h0
    obtain ⟨hR, hl, _⟩ := ent_ok h0
    rw [if_pos h0]
    conv => whnf
    refine CallA_v (ds := [c.d, rotaD rota]) (wa44 c hR rota (by omega) (rows_in h0)) rfl rfl ?_
    conv => whnf
    refine brk_i (fun h1 => ?_) (fun h1 => ?_)
    · have h1 : (walkF c (allMen c) .zero rota 0).1.1 ≥ 0 := of_decide_eq_true h1
      rw [if_pos h1]
      conv => whnf
      exact RetA_view 0 rfl ⟨⟨rfl, rfl⟩, rfl⟩
    · have h1 : ¬ (walkF c (allMen c) .zero rota 0).1.1 ≥ 0 := of_decide_eq_false h1
      rw [if_neg h1]
      conv => whnf
      exact RetA_view 0 rfl ⟨⟨rfl, rfl⟩, rfl⟩

def cntR (rota : List (List Int)) (j : Nat) : Nat := (rota.filter fun r => decide ((j : Int) ∈ r)).length
def stoodR (n : Nat) (rota : List (List Int)) : List Int := (List.range n).map fun j => (cntR rota j : Int)

theorem cntR_cons (x : List Int) (r : List (List Int)) (j : Nat) : cntR (x :: r) j = (if (j : Int) ∈ x then 1 else 0) + cntR r j := by
  unfold cntR
  rw [List.filter_cons]
  by_cases h : (j : Int) ∈ x
  · rw [if_pos (by simpa using h), if_pos h]; simp; omega
  · rw [if_neg (by simpa using h), if_neg h]; omega

theorem wa20 (c : WCase) (rota : List (List Int)) : FnV Try.prog 20 [c.d, rotaD rota] (.tup [if goodE c rota = 0 then intsD (stoodR c.men.length rota) else .nils, i64 (goodE c rota)]) := by
  refine fnV_of mixed tysOk Try.func20 rfl (ft := ft20) 2 (by decide +kernel) (by rfl) fun {σ} Y st => ?_
  conv => whnf
  refine CallA_v (wa67 c rota) rfl rfl ?_
  conv => whnf
  by_cases h0 : goodE c rota = 0
  · obtain ⟨hR, hl, _⟩ := goodT_ok h0
    have hE : entE c rota = 0 := by
      unfold goodE at h0
      split at h0
      · assumption
      · exact h0
    have hm := hR.men
    have hrs := rows_in hE
    rw [h0]
    simp only [if_true]
    conv => whnf
    generalize hM : stoodR c.men.length rota = M
    refine LoopA_i (T := tys) tysOk (by exact drawsB_spec mixed tysOk (by decide +kernel)) (List.range c.men.length) (fun j (_ : Unit) => ⟨[(1, .d (rotaD rota)), (2, .ptr 2 0), (5, .d (i64 0)), (7, .sl 41 1 0 j), (8, .d (i64 j))], [(2, .box (.dd c.cells)), (41, .arr 1 (.dd (intsC (stoodR j rota))))], st⟩)
      (fun j r _ => True) () ((Wk.born 7 41 1 rfl rfl rfl).trans (Wk.sub ⟨(by first | rfl | (simp only [List.length_map]; rfl) | simp [PX.get]), (by first | rfl | (simp only [List.length_map]; rfl) | simp [PX.get]), (by first | rfl | (simp only [List.length_map]; rfl) | simp [PX.get]), (by first | rfl | (simp only [List.length_map]; rfl) | simp [PX.get]), (by first | rfl | (simp only [List.length_map]; rfl) | simp [PX.get]), trivial⟩ ⟨(by first | rfl | (simp only [List.length_map]; rfl) | simp [PX.get]), (by first | rfl | (simp only [List.length_map]; rfl) | simp [PX.get]), trivial⟩)) trivial ?_ ?_
    · intro j x r _ hx hj hr2 _
      have hjm : j < c.men.length := by simpa using hj
      conv => whnf
      refine brk_i (fun _ => ?_) (fun h => absurd hjm (by have := of_decide_eq_false h; simp at this; omega))
      conv => whnf
      refine LoopA_i (T := tys) tysOk (by exact drawsB_spec mixed tysOk (by decide +kernel)) rota (fun i (n : Nat) => ⟨[(1, .d (rotaD rota)), (2, .ptr 2 0), (5, .d (i64 0)), (7, .sl 41 1 0 j), (8, .d (i64 j)), (9, .d (i64 n)), (10, .d (i64 i))], [(2, .box (.dd c.cells)), (41, .arr 1 (.dd (intsC (stoodR j rota))))], st⟩)
        (fun i r n => n ≤ i ∧ cntR rota j = n + cntR r j) 0 (Wk.sub ⟨(by first | rfl | (simp only [List.length_map]; rfl) | simp [PX.get]), (by first | rfl | (simp only [List.length_map]; rfl) | simp [PX.get]), (by first | rfl | (simp only [List.length_map]; rfl) | simp [PX.get]), (by first | rfl | (simp only [List.length_map]; rfl) | simp [PX.get]), (by first | rfl | (simp only [List.length_map]; rfl) | simp [PX.get]), (by first | rfl | (simp only [List.length_map]; rfl) | simp [PX.get]), (by first | rfl | (simp only [List.length_map]; rfl) | simp [PX.get]), trivial⟩ ⟨(by first | rfl | (simp only [List.length_map]; rfl) | simp [PX.get]), (by first | rfl | (simp only [List.length_map]; rfl) | simp [PX.get]), trivial⟩) ⟨by simp, by simp⟩ ?_ ?_
      · rintro i y r2 n hy hi hr3 ⟨hn, he⟩
        have hyr := (hrs y (List.mem_of_getElem? hy)).2
        rw [cntR_cons] at he
        conv => whnf
        refine brk_i (fun _ => ?_) (fun h => absurd hi (by have := of_decide_eq_false h; simp at this; omega))
        conv => whnf
        refine elemK_nat hy ?_
        conv => whnf
        refine CallA_v (ds := [intsD y, i64 j]) (wa49 y j (by omega)) rfl rfl ?_
        conv => whnf
        refine brk_i (fun h1 => ?_) (fun h1 => ?_)
        · have h1 : (j : Int) ∈ y := of_decide_eq_true h1
          rw [if_pos h1] at he
          conv => whnf
          refine arith_to (((n + 1 : Nat) : Int)) (by (try dsimp only); omega) (wrap_i64 (by (try dsimp only); omega)) ?_
          conv => whnf
          refine arith_in (wrap_i64 (by (try dsimp only); omega)) ?_
          conv => whnf
          exact ⟨n + 1, ⟨by omega, by omega⟩, (Wk.sub ⟨(by first | rfl | (simp only [List.length_map]; rfl) | simp [PX.get]), (by first | rfl | (simp only [List.length_map]; rfl) | simp [PX.get]), (by first | rfl | (simp only [List.length_map]; rfl) | simp [PX.get]), (by first | rfl | (simp only [List.length_map]; rfl) | simp [PX.get]), (by first | rfl | (simp only [List.length_map]; rfl) | simp [PX.get]), (by first | rfl | (simp only [List.length_map]; rfl) | simp [PX.get]), (by first | rfl | (simp only [List.length_map]; rfl) | simp [PX.get]), trivial⟩ ⟨(by first | rfl | (simp only [List.length_map]; rfl) | simp [PX.get]), (by first | rfl | (simp only [List.length_map]; rfl) | simp [PX.get]), trivial⟩)⟩
        · have h1 : ¬ (j : Int) ∈ y := of_decide_eq_false h1
          rw [if_neg h1] at he
          conv => whnf
          refine arith_in (wrap_i64 (by (try dsimp only); omega)) ?_
          conv => whnf
          exact ⟨n, ⟨by omega, by omega⟩, (Wk.sub ⟨(by first | rfl | (simp only [List.length_map]; rfl) | simp [PX.get]), (by first | rfl | (simp only [List.length_map]; rfl) | simp [PX.get]), (by first | rfl | (simp only [List.length_map]; rfl) | simp [PX.get]), (by first | rfl | (simp only [List.length_map]; rfl) | simp [PX.get]), (by first | rfl | (simp only [List.length_map]; rfl) | simp [PX.get]), (by first | rfl | (simp only [List.length_map]; rfl) | simp [PX.get]), (by first | rfl | (simp only [List.length_map]; rfl) | simp [PX.get]), trivial⟩ ⟨(by first | rfl | (simp only [List.length_map]; rfl) | simp [PX.get]), (by first | rfl | (simp only [List.length_map]; rfl) | simp [PX.get]), trivial⟩)⟩
      · rintro n ⟨hn, he⟩
        have he : cntR rota j = n := by simpa [cntR] using he
        have hsl : (stoodR j rota).length = j := by simp [stoodR]
        conv => whnf
        refine brk_i (fun h => absurd h (by simp)) (fun _ => ?_)
        conv => whnf
        refine ownK_whole rfl ?_
        conv => whnf
        refine ownK_whole (by simp [Els.len, intsC, hsl]) ?_
        conv => whnf
        refine chk_i (decide_eq_true (by
          show ((intsC (stoodR j rota)).length + 1) * 8 ≤ 140737488355328
          simp [intsC, hsl]; omega)) ?_
        conv => whnf
        refine arith_in (wrap_i64 (by (try dsimp only); omega)) ?_
        conv => whnf
        refine ⟨(), trivial, Wk.sub ⟨rfl, rfl, rfl, ?_, rfl, trivial⟩ ⟨rfl, ?_, trivial⟩⟩
        · show some (V.sl 41 1 0 ((intsC (stoodR j rota)).length + 1)) = _
          simp [intsC, hsl]
        · show some (Obj.arr 1 (Els.dd (intsC (stoodR j rota) ++ [[i64 n]]))) = some (Obj.arr 1 (Els.dd (intsC (stoodR (j + 1) rota))))
          simp [intsC, stoodR, List.range_succ, he]
    · intro _ _
      conv => whnf
      refine brk_i (fun h => absurd h (by simp)) (fun _ => ?_)
      conv => whnf
      rw [List.length_range]
      rw [hM]
      refine RetA_view 1 (ds := [intsD M, i64 0]) ?_ ⟨⟨rfl, rfl⟩, rfl⟩
      exact viewL_cons (viewV_sl (es := intsC M) rfl (by subst hM; simp [intsC, stoodR])) rfl
  · rw [if_neg h0]
    conv => whnf
    refine brk_i (fun _ => ?_) (fun h1 => absurd h1 (by simp [h0]))
    conv => whnf
    exact RetA_view 0 rfl ⟨⟨rfl, rfl⟩, rfl⟩

/- The plain law. -/

theorem asc_ge {many : Int} : ∀ {l : List Int} {last : Int}, ascF many last l = 0 → ∀ m ∈ l, last < m
  | [], _, _, m, hm => by cases hm
  | i :: r, last, h, m, hm => by
    rw [ascF] at h
    split at h
    case isFalse => cases h
    split at h
    · cases h
    rename_i h2
    rcases List.mem_cons.1 hm with rfl | hm
    · omega
    · have := asc_ge h m hm; omega

theorem bumps_get {many : Int} : ∀ {x : List Int} {last : Int} {l : List Int} {j : Nat}, ascF many last x = 0 → (∀ m ∈ x, 0 ≤ m ∧ m < l.length) → j < l.length → (x.foldl bump l).getD j 0 = l.getD j 0 + (if (j : Int) ∈ x then 1 else 0)
  | [], _, l, j, _, _, _ => by simp
  | m :: r, last, l, j, h, hin, hj => by
    rw [ascF] at h
    split at h
    case isFalse => cases h
    split at h
    · cases h
    have hm := hin m (by simp)
    have hge := asc_ge h
    rw [List.foldl_cons, bumps_get h (fun m hm => by rw [bump_len]; exact hin m (by simp [hm])) (by rw [bump_len]; exact hj)]
    by_cases hjm : (j : Int) = m
    · have hnr : ¬ (j : Int) ∈ r := fun hr => by have := hge _ hr; omega
      have hmj : m.toNat = j := by omega
      rw [if_neg hnr, if_pos (by rw [hjm]; simp)]
      unfold bump
      rw [hmj, List.getD_eq_getElem?_getD, List.getElem?_set_self (by omega)]
      simp
    · have hmj : m.toNat ≠ j := by omega
      have e1 : (bump l m).getD j 0 = l.getD j 0 := by
        unfold bump
        rw [List.getD_eq_getElem?_getD, List.getElem?_set_ne hmj, ← List.getD_eq_getElem?_getD]
      rw [e1]
      congr 1
      by_cases hr : (j : Int) ∈ r
      · rw [if_pos hr, if_pos (List.mem_cons_of_mem _ hr)]
      · rw [if_neg hr, if_neg (fun h => (List.mem_cons.1 h).elim hjm hr)]

theorem stood_eq {c : WCase} {rota : List (List Int)} (h0 : goodE c rota = 0) : stoodL c.men.length rota = stoodR c.men.length rota := by
  have hE : entE c rota = 0 := by
    unfold goodE at h0
    split at h0
    · assumption
    · exact h0
  obtain ⟨hR, hl, hall⟩ := ent_ok hE
  have key : ∀ (rows : List (List Int)) (l : List Int), (∀ r ∈ rows, ascF c.men.length (-1) r = 0) → l.length = c.men.length → (rows.foldl (fun l r => r.foldl bump l) l).length = c.men.length ∧ ∀ j, j < c.men.length → (rows.foldl (fun l r => r.foldl bump l) l).getD j 0 = l.getD j 0 + (cntR rows j : Int) := by
    intro rows
    induction rows with
    | nil => exact fun l _ hl => ⟨hl, fun j _ => by simp [cntR]⟩
    | cons x r ih =>
      intro l ha hl
      have hx := ha x (by simp)
      obtain ⟨h1, h2⟩ := ih (x.foldl bump l) (fun r hr => ha r (by simp [hr])) (by rw [bumps_len]; exact hl)
      refine ⟨by rw [List.foldl_cons]; exact h1, fun j hj => ?_⟩
      rw [List.foldl_cons, h2 j hj, bumps_get hx (fun m hm => by rw [hl]; exact asc_in hx m hm) (by omega), cntR_cons]
      split <;> simp <;> omega
  obtain ⟨h1, h2⟩ := key rota (List.replicate c.men.length 0) hall (by simp)
  have hS : stoodL c.men.length rota = rota.foldl (fun l r => r.foldl bump l) (List.replicate c.men.length 0) := rfl
  rw [hS]
  generalize rota.foldl (fun l r => r.foldl bump l) (List.replicate c.men.length 0) = S at h1 h2
  refine List.ext_getElem (by rw [h1]; simp [stoodR]) fun j hj1 hj2 => ?_
  have hj : j < c.men.length := by simpa [stoodR] using hj2
  have := h2 j hj
  rw [List.getD_eq_getElem?_getD, List.getElem?_eq_getElem hj1, Option.getD_some] at this
  rw [this]
  simp [stoodR, hj]
end Go.PX

namespace Go.PX
open Go.Proofs

/- Watch: the reference: Lists, Can. -/

def startF (p : List Int) : Nat := match p.getLast? with
  | none => 0
  | some x => (x + 1).toNat

/-- All ascending lists that begin so, in order. -/
def listsF (below : Nat) : Nat → List Int → List (List Int)
  | 0, p => [p]
  | many + 1, p => (List.range' (startF p) (below - startF p)).flatMap fun (i : Nat) => listsF below many (p ++ [(i : Int)])

theorem listsF_many {below : Nat} (hb : below ≤ 5) : ∀ {many : Nat} {p : List Int}, (listsF below many p).length ≤ 5 ^ many
  | 0, p => by simp [listsF]
  | many + 1, p => by
    rw [listsF]
    refine Nat.le_trans (flatMap_len (k := 5 ^ many) fun i _ => listsF_many hb) ?_
    rw [List.length_range', Nat.pow_succ, Nat.mul_comm]
    exact Nat.mul_le_mul_left _ (by omega)

theorem startF_le {below : Nat} {p : List Int} (hp : ∀ x ∈ p, 0 ≤ x ∧ x < below) : startF p ≤ below := by
  unfold startF
  cases h : p.getLast? with
  | none => simp
  | some x =>
    have := hp x (List.mem_of_getLast? h)
    simp only; omega

theorem wa70 (below : Nat) (hb : below ≤ 5) : ∀ (many : Nat), many ≤ 5 → ∀ (p : List Int), (∀ x ∈ p, 0 ≤ x ∧ x < below) → p.length + many ≤ 10 → FnV Try.prog 70 [intsD p, i64 many, i64 below] (rotaD (listsF below many p))
  | 0, _, p, hp, hl => by
    refine fnV_of mixed tysOk Try.func70 rfl (ft := ft70) 3 (by decide +kernel) (by rfl) fun {σ} Y st => ?_
    conv => whnf
    exact RetA_view 1 rfl ⟨⟨rfl, rfl⟩, rfl⟩
  | many + 1, hm, p, hp, hl => by
    have ih := wa70 below hb many (by omega)
    have hst := startF_le hp
    have h5 : (5 : Nat) ^ many ≤ 625 := Nat.le_trans (Nat.pow_le_pow_right (by omega) (show many ≤ 4 by omega)) (by decide)
    have hall : (listsF below (many + 1) p).length ≤ 5 ^ (many + 1) := listsF_many hb
    have h6 : (5 : Nat) ^ (many + 1) ≤ 3125 := by rw [Nat.pow_succ]; omega
    refine fnV_of mixed tysOk Try.func70 rfl (ft := ft70) 3 (by decide +kernel) (by rfl) fun {σ} Y st => ?_
    conv => whnf
    have hlm : ((p.map fun n => [i64 n]).length : Int) = p.length := by simp
    generalize hM : listsF below (many + 1) p = M at hall ⊢
    rw [listsF] at hM
    cases hlast : p.getLast? with
    | none =>
      have hpe : p = [] := by simpa using hlast
      have hs0 : startF p = 0 := by unfold startF; rw [hlast]
      rw [hs0] at hM
      refine brk_i (fun h => absurd h (by rw [hpe]; simp)) (fun _ => ?_)
      conv => whnf
      refine LoopA_p (T := tys) tysOk (by exact drawsB_spec mixed tysOk (by decide +kernel)) (α := Nat × List (List Int)) (fun y => ⟨[(0, .d (intsD p)), (1, .d (i64 (many + 1 : Nat))), (2, .d (i64 below)), (8, .sl 41 1 0 y.2.length), (9, .d (i64 y.1))], [(41, .arr 1 (.dd (y.2.map fun r => [intsD r])))], st⟩)
        (fun y => y.1 ≤ below ∧ M = y.2 ++ (List.range' y.1 (below - y.1)).flatMap fun (i : Nat) => listsF below many (p ++ [(i : Int)])) (fun y => below - y.1) (0, [])
        ((Wk.born 8 41 1 rfl rfl rfl).trans (Wk.sub ⟨(by first | rfl | (simp only [List.length_map]; rfl) | simp [PX.get]), (by first | rfl | (simp only [List.length_map]; rfl) | simp [PX.get]), (by first | rfl | (simp only [List.length_map]; rfl) | simp [PX.get]), (by first | rfl | (simp only [List.length_map]; rfl) | simp [PX.get]), (by first | rfl | (simp only [List.length_map]; rfl) | simp [PX.get]), trivial⟩ ⟨(by first | rfl | (simp only [List.length_map]; rfl) | simp [PX.get]), trivial⟩)) ⟨by simp only; omega, hM.symm⟩ ?_
      rintro ⟨i, acc⟩ ⟨hi, he⟩
      simp only at hi he
      conv => whnf
      refine brk_i (fun h1 => ?_) (fun h1 => ?_)
      · have h1 : i < below := by have := of_decide_eq_true h1; simp at this; omega
        obtain ⟨k, hk⟩ : ∃ k, below - i = k + 1 := ⟨below - i - 1, by omega⟩
        have hk2 : below - (i + 1) = k := by omega
        rw [hk, List.range'_succ, List.flatMap_cons, ← List.append_assoc] at he
        conv => whnf
        refine ownK_whole rfl ?_
        conv => whnf
        refine chk_i (by rw [Bool.and_eq_true]; exact ⟨lenAllD_map (fun _ => ⟨rfl, rfl⟩) p, rfl⟩) ?_
        conv => whnf
        refine chk_i (decide_eq_true (by
          show (0 + (p.map fun n => [i64 n]).length) * 8 ≤ 140737488355328
          rw [List.length_map]; omega)) ?_
        conv => whnf
        refine ownK_whole rfl ?_
        conv => whnf
        refine ownK_whole (by simp [Els.len]) ?_
        conv => whnf
        refine chk_i (decide_eq_true (by
          show (([] ++ p.map fun n => [i64 n]).length + 1) * 8 ≤ 140737488355328
          simp; omega)) ?_
        conv => whnf
        refine arith_to ((many : Int)) (by (try dsimp only); omega) (wrap_i64 (by (try dsimp only); omega)) ?_
        conv => whnf
        have hin : ∀ x ∈ p ++ [(i : Int)], 0 ≤ x ∧ x < below := by
          intro x hx
          rcases List.mem_append.1 hx with hx | hx
          · exact hp x hx
          · rw [List.mem_singleton] at hx; subst hx; omega
        refine CallA_fz (ds := [intsD (p ++ [(i : Int)]), i64 many, i64 below]) (ih (p ++ [(i : Int)]) hin (by simp; omega)) 1 [36] ?_ rfl ?_
        · have hap : ([] ++ (p.map fun n => [i64 n])) ++ [[i64 (i : Int)]] = (p ++ [(i : Int)]).map fun n => [i64 n] := by simp
          refine viewL_cons (viewV_sl' rfl hap ?_) rfl
          show (([] ++ p.map fun n => [i64 n]).length + 1) = _
          simp
        conv => whnf
        refine ownK_whole (by simp [Els.len]) ?_
        conv => whnf
        refine chk_i (by rw [Bool.and_eq_true]; exact ⟨lenAllD_map (fun _ => ⟨rfl, rfl⟩) _, rfl⟩) ?_
        conv => whnf
        have hal : acc.length ≤ 3125 := by
          rw [he] at hall
          simp only [List.length_append] at hall
          omega
        have hll : (listsF below many (p ++ [(i : Int)])).length ≤ 5 ^ many := listsF_many hb
        refine chk_i (decide_eq_true (by
          show ((acc.map fun r => [intsD r]).length + ((listsF below many (p ++ [(i : Int)])).map fun r => [intsD r]).length) * 24 ≤ 140737488355328
          rw [List.length_map, List.length_map]; omega)) ?_
        conv => whnf
        refine arith_to (((i + 1 : Nat) : Int)) (by (try dsimp only); omega) (wrap_i64 (by (try dsimp only); omega)) ?_
        conv => whnf
        refine ⟨(i + 1, acc ++ listsF below many (p ++ [(i : Int)])), by simp only; omega, ⟨by simp only; omega, by simp only; rw [hk2]; exact he⟩, Wk.sub ⟨rfl, rfl, rfl, ?_, rfl, trivial⟩ ⟨?_, trivial⟩⟩
        · show some (V.sl 41 1 0 ((acc.map fun r => [intsD r]).length + ((listsF below many (p ++ [(i : Int)])).map fun r => [intsD r]).length)) = _
          simp
        · show some (Obj.arr 1 (Els.dd ((acc.map fun r => [intsD r]) ++ (listsF below many (p ++ [(i : Int)])).map fun r => [intsD r]))) = _
          simp
      · have h1 : ¬ i < below := by have := of_decide_eq_false h1; simp at this; omega
        rw [show below - i = 0 by omega] at he
        have he : M = acc := by simpa using he
        rw [he]
        conv => whnf
        refine RetA_view 1 (ds := [rotaD acc]) ?_ ⟨⟨rfl, rfl⟩, rfl⟩
        exact viewL_cons (viewV_sl (es := acc.map fun r => [intsD r]) rfl (by simp)) rfl
    | some x =>
      have hx := hp x (List.mem_of_getLast? hlast)
      have hs0 : startF p = (x + 1).toNat := by unfold startF; rw [hlast]
      have hpl : 0 < p.length := by
        cases p with
        | nil => simp at hlast
        | cons _ _ => simp
      have hpx : p[p.length - 1]? = some x := by rw [← List.getLast?_eq_getElem?]; exact hlast
      rw [hs0] at hM hst
      refine brk_i (fun _ => ?_) (fun h => absurd hpl (by have := of_decide_eq_false h; rw [hlm] at this; omega))
      conv => whnf
      refine arith_to ((p.length - 1 : Nat) : Int) (by simp; omega) (wrap_i64 (by omega)) ?_
      conv => whnf
      refine elemK_nat hpx ?_
      conv => whnf
      refine arith_to ((((x + 1).toNat : Nat) : Int)) (by (try dsimp only); omega) (wrap_i64 (by (try dsimp only); omega)) ?_
      conv => whnf
      refine LoopA_p (T := tys) tysOk (by exact drawsB_spec mixed tysOk (by decide +kernel)) (α := Nat × List (List Int)) (fun y => ⟨[(0, .d (intsD p)), (1, .d (i64 (many + 1 : Nat))), (2, .d (i64 below)), (8, .sl 41 1 0 y.2.length), (9, .d (i64 y.1))], [(41, .arr 1 (.dd (y.2.map fun r => [intsD r])))], st⟩)
        (fun y => y.1 ≤ below ∧ M = y.2 ++ (List.range' y.1 (below - y.1)).flatMap fun (i : Nat) => listsF below many (p ++ [(i : Int)])) (fun y => below - y.1) ((x + 1).toNat, [])
        ((Wk.born 8 41 1 rfl rfl rfl).trans (Wk.sub ⟨(by first | rfl | (simp only [List.length_map]; rfl) | simp [PX.get]), (by first | rfl | (simp only [List.length_map]; rfl) | simp [PX.get]), (by first | rfl | (simp only [List.length_map]; rfl) | simp [PX.get]), (by first | rfl | (simp only [List.length_map]; rfl) | simp [PX.get]), (by first | rfl | (simp only [List.length_map]; rfl) | simp [PX.get]), trivial⟩ ⟨(by first | rfl | (simp only [List.length_map]; rfl) | simp [PX.get]), trivial⟩)) ⟨by simp only; omega, hM.symm⟩ ?_
      rintro ⟨i, acc⟩ ⟨hi, he⟩
      simp only at hi he
      conv => whnf
      refine brk_i (fun h1 => ?_) (fun h1 => ?_)
      · have h1 : i < below := by have := of_decide_eq_true h1; simp at this; omega
        obtain ⟨k, hk⟩ : ∃ k, below - i = k + 1 := ⟨below - i - 1, by omega⟩
        have hk2 : below - (i + 1) = k := by omega
        rw [hk, List.range'_succ, List.flatMap_cons, ← List.append_assoc] at he
        conv => whnf
        refine ownK_whole rfl ?_
        conv => whnf
        refine chk_i (by rw [Bool.and_eq_true]; exact ⟨lenAllD_map (fun _ => ⟨rfl, rfl⟩) p, rfl⟩) ?_
        conv => whnf
        refine chk_i (decide_eq_true (by
          show (0 + (p.map fun n => [i64 n]).length) * 8 ≤ 140737488355328
          rw [List.length_map]; omega)) ?_
        conv => whnf
        refine ownK_whole rfl ?_
        conv => whnf
        refine ownK_whole (by simp [Els.len]) ?_
        conv => whnf
        refine chk_i (decide_eq_true (by
          show (([] ++ p.map fun n => [i64 n]).length + 1) * 8 ≤ 140737488355328
          simp; omega)) ?_
        conv => whnf
        refine arith_to ((many : Int)) (by (try dsimp only); omega) (wrap_i64 (by (try dsimp only); omega)) ?_
        conv => whnf
        have hin : ∀ x ∈ p ++ [(i : Int)], 0 ≤ x ∧ x < below := by
          intro x hx
          rcases List.mem_append.1 hx with hx | hx
          · exact hp x hx
          · rw [List.mem_singleton] at hx; subst hx; omega
        refine CallA_fz (ds := [intsD (p ++ [(i : Int)]), i64 many, i64 below]) (ih (p ++ [(i : Int)]) hin (by simp; omega)) 1 [36] ?_ rfl ?_
        · have hap : ([] ++ (p.map fun n => [i64 n])) ++ [[i64 (i : Int)]] = (p ++ [(i : Int)]).map fun n => [i64 n] := by simp
          refine viewL_cons (viewV_sl' rfl hap ?_) rfl
          show (([] ++ p.map fun n => [i64 n]).length + 1) = _
          simp
        conv => whnf
        refine ownK_whole (by simp [Els.len]) ?_
        conv => whnf
        refine chk_i (by rw [Bool.and_eq_true]; exact ⟨lenAllD_map (fun _ => ⟨rfl, rfl⟩) _, rfl⟩) ?_
        conv => whnf
        have hal : acc.length ≤ 3125 := by
          rw [he] at hall
          simp only [List.length_append] at hall
          omega
        have hll : (listsF below many (p ++ [(i : Int)])).length ≤ 5 ^ many := listsF_many hb
        refine chk_i (decide_eq_true (by
          show ((acc.map fun r => [intsD r]).length + ((listsF below many (p ++ [(i : Int)])).map fun r => [intsD r]).length) * 24 ≤ 140737488355328
          rw [List.length_map, List.length_map]; omega)) ?_
        conv => whnf
        refine arith_to (((i + 1 : Nat) : Int)) (by (try dsimp only); omega) (wrap_i64 (by (try dsimp only); omega)) ?_
        conv => whnf
        refine ⟨(i + 1, acc ++ listsF below many (p ++ [(i : Int)])), by simp only; omega, ⟨by simp only; omega, by simp only; rw [hk2]; exact he⟩, Wk.sub ⟨rfl, rfl, rfl, ?_, rfl, trivial⟩ ⟨?_, trivial⟩⟩
        · show some (V.sl 41 1 0 ((acc.map fun r => [intsD r]).length + ((listsF below many (p ++ [(i : Int)])).map fun r => [intsD r]).length)) = _
          simp
        · show some (Obj.arr 1 (Els.dd ((acc.map fun r => [intsD r]) ++ (listsF below many (p ++ [(i : Int)])).map fun r => [intsD r]))) = _
          simp
      · have h1 : ¬ i < below := by have := of_decide_eq_false h1; simp at this; omega
        rw [show below - i = 0 by omega] at he
        have he : M = acc := by simpa using he
        rw [he]
        conv => whnf
        refine RetA_view 1 (ds := [rotaD acc]) ?_ ⟨⟨rfl, rfl⟩, rfl⟩
        exact viewL_cons (viewV_sl (es := acc.map fun r => [intsD r]) rfl (by simp)) rfl

theorem startF_snoc (p : List Int) (i : Nat) : startF (p ++ [(i : Int)]) = i + 1 := by
  unfold startF
  rw [List.getLast?_append]
  simp only [List.getLast?_singleton, Option.some_or]
  omega

/-- The groups of the program are lists of the reference that can stand. -/
theorem groups_lists {c : WCase} {set : Int} {t : Tired} {s : Slot} : ∀ {left : Nat} {p : List Int} {start : Nat}, startF p = start → groupsL c set t s left p start = ((listsF c.men.length left p).filter fun g => decide ((whyF c set t s g).1 = 0)).map fun g => (g, behindF c t g)
  | 0, p, start, _ => by
    rw [groupsL, listsF, List.filter_cons]
    by_cases h : (whyF c set t s p).1 = 0
    · rw [if_pos h, if_pos (by simpa using h)]; rfl
    · rw [if_neg h, if_neg (by simpa using h)]; rfl
  | left + 1, p, start, hs => by
    rw [groupsL, listsF, hs, List.filter_flatMap, List.map_flatMap]
    congr 1
    funext i
    exact groups_lists (startF_snoc p i)

theorem lists_ok {below : Nat} : ∀ {many : Nat} {p : List Int}, (∀ x ∈ p, 0 ≤ x ∧ x < below) → ∀ g ∈ listsF below many p, g.length = p.length + many ∧ ∀ x ∈ g, 0 ≤ x ∧ x < below
  | 0, p, hp, g, hg => by
    rw [listsF, List.mem_singleton] at hg
    subst hg
    exact ⟨rfl, hp⟩
  | many + 1, p, hp, g, hg => by
    rw [listsF, List.mem_flatMap] at hg
    obtain ⟨i, hi, hg⟩ := hg
    rw [List.mem_range'_1] at hi
    have h1 := startF_le hp
    obtain ⟨h2, h3⟩ := lists_ok (many := many) (p := p ++ [(i : Int)]) (fun x hx => by
      rcases List.mem_append.1 hx with hx | hx
      · exact hp x hx
      · rw [List.mem_singleton] at hx; subst hx; omega) g hg
    refine ⟨by rw [h2]; simp; omega, h3⟩
end Go.PX

namespace Go.PX
open Go.Proofs

/- Watch: the reference: Can. -/

theorem hist_walk {c : WCase} (hR : WR c) : ∀ {rows : List (List Int)} {h : List (List Int)} {t : Tired} {i : Int}, 0 ≤ i → Hist c h t → (walkF c (allMen c) t rows i).1.1 = -1 → Hist c (rows.reverse ++ h) (walkF c (allMen c) t rows i).2
  | [], h, t, i, _, hh, _ => hh
  | r :: rest, h, t, i, hi, hh, hw => by
    rw [walkF] at hw ⊢
    split
    · rename_i h1
      rw [if_pos h1] at hw
      have := hist_walk hR (by omega) (hh.step hR h1) hw
      simpa using this
    · rename_i h1
      rw [if_neg h1] at hw
      simp only at hw
      omega

theorem good_at {c : WCase} {rota : List (List Int)} (h0 : goodE c rota = 0) : entE c rota = 0 ∧ (walkF c (allMen c) .zero rota 0).1.1 = -1 := by
  have hE : entE c rota = 0 := by
    unfold goodE at h0
    split at h0
    · assumption
    · exact h0
  refine ⟨hE, ?_⟩
  rw [goodE, if_pos hE] at h0
  split at h0
  · cases h0
  · rename_i h1
    rcases walk_at (c := c) (set := allMen c) (rota := rota) (t := .zero) (i := 0) with h | h
    · exact h
    · exact absurd h (by omega)

theorem hist_good {c : WCase} {rota : List (List Int)} (h0 : goodE c rota = 0) : Hist c rota.reverse (goodT c rota) := by
  obtain ⟨hE, hw⟩ := good_at h0
  have hR := (goodT_ok h0).1
  have := hist_walk hR (Int.le_refl 0) (Hist.zero hR) hw
  rw [List.append_nil] at this
  exact this

theorem slot_men {c : WCase} (hR : WR c) (n : Nat) : c.slots[(slotI c n).toNat]? = some (slotOf c n) ∧ 1 ≤ (slotOf c n).men ∧ (slotOf c n).men ≤ 2 := by
  have hk := slotI_bd hR n
  have h1 : c.slots[(slotI c n).toNat]? = some (c.slots[(slotI c n).toNat]'(by omega)) := List.getElem?_eq_getElem _
  have h2 : slotOf c n = c.slots[(slotI c n).toNat]'(by omega) := by unfold slotOf; rw [h1]; rfl
  rw [h2]
  have := (hR.slot _ (List.mem_of_getElem? h1)).1
  exact ⟨h1, this.1, this.2⟩

theorem can_eq {c : WCase} {rota : List (List Int)} (h0 : goodE c rota = 0) : canL c rota = (listsF c.men.length (slotOf c rota.length).men.toNat []).filter fun g => decide ((whyR c rota g).1 = 0) := by
  have hR := (goodT_ok h0).1
  have hh := hist_good h0
  have hs : slotAt c (goodT c rota) = slotOf c rota.length := by
    unfold slotAt slotOf
    rw [hh.slot, List.length_reverse]
  unfold canL groupsF
  rw [groups_lists (p := []) (start := 0) rfl, List.map_map, hs]
  rw [show (List.map ((fun (x : List Int × Tired) => x.1) ∘ fun g => (g, behindF c (goodT c rota) g))) = List.map id from rfl, List.map_id]
  refine List.filter_congr fun g hg => ?_
  obtain ⟨_, h2⟩ := lists_ok (p := []) (fun x hx => by cases hx) g hg
  rw [why_eq hR hh h2]
  unfold whyT
  rw [hs]

theorem wa23 (c : WCase) (rota : List (List Int)) : FnV Try.prog 23 [c.d, rotaD rota] (.tup [if goodE c rota = 0 then rotaD (canL c rota) else .nils, i64 (goodE c rota)]) := by
  refine fnV_of mixed tysOk Try.func23 rfl (ft := ft23) 2 (by decide +kernel) (by rfl) fun {σ} Y st => ?_
  conv => whnf
  refine CallA_v (wa67 c rota) rfl rfl ?_
  conv => whnf
  by_cases h0 : goodE c rota = 0
  · obtain ⟨hR, hl, _⟩ := goodT_ok h0
    obtain ⟨hE, _⟩ := good_at h0
    have hm := hR.men
    have hsl := hR.slots
    have hrs := rows_in hE
    obtain ⟨hs1, hs2, hs3⟩ := slot_men hR rota.length
    have hk := slotI_bd hR rota.length
    rw [can_eq h0]
    rw [h0]
    simp only [if_true]
    conv => whnf
    refine chk_i (decide_eq_true (by rw [List.length_map]; omega)) ?_
    conv => whnf
    rw [List.length_map, List.length_map]
    have hkd : ((rota.length : Int).tmod (c.slots.length : Int)) = slotI c rota.length := rfl
    rw [hkd]
    refine elemK_i (slotOf c rota.length).cells ⟨hk.1, by simp [hs1]⟩ ?_
    conv => whnf
    have hmn : (((slotOf c rota.length).men.toNat : Nat) : Int) = (slotOf c rota.length).men := by omega
    refine DrawCall_rep (args' := [.d (intsD []), .d (i64 ((slotOf c rota.length).men.toNat : Nat)), .d (i64 c.men.length)]) (fun yv L F w l h => by
      obtain ⟨x1, l1, rfl, h1, x2, l2, rfl, h2, x3, l3, rfl, h3, h4⟩ := h
      refine ⟨x1, _, rfl, RepD.relax .nils x1 h1, x2, _, rfl, ?_, x3, _, rfl, ?_, h4⟩
      · rw [hmn]; exact h2
      · have h3 : RepD F w (.int .i64 ((List.map Man.cells c.men).length : Int)) x3 := h3
        rw [List.length_map] at h3; exact h3) ?_
    refine DrawCall_v (ds := [intsD [], i64 ((slotOf c rota.length).men.toNat : Nat), i64 c.men.length]) (wa70 c.men.length hm.2 (slotOf c rota.length).men.toNat (by omega) [] (fun x hx => by cases hx) (by simp; omega)) rfl rfl ?_
    have hLok := lists_ok (below := c.men.length) (many := (slotOf c rota.length).men.toNat) (p := []) (fun x hx => by cases hx)
    have hLn : (listsF c.men.length (slotOf c rota.length).men.toNat []).length ≤ 25 := Nat.le_trans (listsF_many hm.2) (Nat.le_trans (Nat.pow_le_pow_right (by omega) (show (slotOf c rota.length).men.toNat ≤ 2 by omega)) (by decide))
    generalize listsF c.men.length (slotOf c rota.length).men.toNat [] = Ls at hLok hLn ⊢
    conv => whnf
    generalize hM : (Ls.filter fun g => decide ((whyR c rota g).1 = 0)) = M
    refine LoopA_i (T := tys) tysOk (by exact drawsB_spec mixed tysOk (by decide +kernel)) Ls (fun i (acc : List (List Int)) => ⟨[(1, .d (rotaD rota)), (2, .ptr 2 0), (5, .d (i64 0)), (7, .d (rotaD Ls)), (8, .sl 57 1 0 acc.length), (9, .d (i64 i))], [(2, .box (.dd c.cells)), (57, .arr 1 (.dd (acc.map fun r => [intsD r])))], st⟩)
      (fun i r acc => acc.length ≤ i ∧ M = acc ++ r.filter fun g => decide ((whyR c rota g).1 = 0)) [] ((Wk.born 8 57 1 rfl rfl rfl).trans (Wk.sub ⟨(by first | rfl | (simp only [List.length_map]; rfl) | simp [PX.get]), (by first | rfl | (simp only [List.length_map]; rfl) | simp [PX.get]), (by first | rfl | (simp only [List.length_map]; rfl) | simp [PX.get]), (by first | rfl | (simp only [List.length_map]; rfl) | simp [PX.get]), (by first | rfl | (simp only [List.length_map]; rfl) | simp [PX.get]), (by first | rfl | (simp only [List.length_map]; rfl) | simp [PX.get]), trivial⟩ ⟨(by first | rfl | (simp only [List.length_map]; rfl) | simp [PX.get]), (by first | rfl | (simp only [List.length_map]; rfl) | simp [PX.get]), trivial⟩)) ⟨by simp, hM.symm⟩ ?_ ?_
    · rintro i x r acc hx hi hr2 ⟨hal, he⟩
      obtain ⟨hx1, hx2⟩ := hLok x (List.mem_of_getElem? hx)
      rw [List.filter_cons] at he
      conv => whnf
      refine brk_i (fun _ => ?_) (fun h => absurd hi (by have := of_decide_eq_false h; simp at this; omega))
      conv => whnf
      refine elemK_nat hx ?_
      conv => whnf
      refine DrawCall_v (ds := [c.d, rotaD rota, intsD x]) (wa71 c hR rota (by omega) (fun r h => (hrs r h).2) x hx2 (by simp at hx1; omega)) rfl rfl ?_
      conv => whnf
      refine brk_i (fun h1 => ?_) (fun h1 => ?_)
      · rw [if_pos h1] at he
        conv => whnf
        refine elemK_nat hx ?_
        conv => whnf
        refine ownK_whole rfl ?_
        conv => whnf
        refine ownK_whole (by simp [Els.len]) ?_
        conv => whnf
        refine chk_i (decide_eq_true (by
          show ((acc.map fun r => [intsD r]).length + 1) * 24 ≤ 140737488355328
          rw [List.length_map]; omega)) ?_
        conv => whnf
        refine arith_in (wrap_i64 (by (try dsimp only); omega)) ?_
        conv => whnf
        refine ⟨acc ++ [x], ⟨by simp; omega, by rw [he]; simp⟩, Wk.sub ⟨rfl, rfl, rfl, rfl, ?_, rfl, trivial⟩ ⟨rfl, ?_, trivial⟩⟩
        · show some (V.sl 57 1 0 ((acc.map fun r => [intsD r]).length + 1)) = _
          simp
        · show some (Obj.arr 1 (Els.dd ((acc.map fun r => [intsD r]) ++ [[intsD x]]))) = _
          simp
      · rw [if_neg (by rw [h1]; simp)] at he
        conv => whnf
        refine arith_in (wrap_i64 (by (try dsimp only); omega)) ?_
        conv => whnf
        exact ⟨acc, ⟨by omega, he⟩, (Wk.sub ⟨(by first | rfl | (simp only [List.length_map]; rfl) | simp [PX.get]), (by first | rfl | (simp only [List.length_map]; rfl) | simp [PX.get]), (by first | rfl | (simp only [List.length_map]; rfl) | simp [PX.get]), (by first | rfl | (simp only [List.length_map]; rfl) | simp [PX.get]), (by first | rfl | (simp only [List.length_map]; rfl) | simp [PX.get]), (by first | rfl | (simp only [List.length_map]; rfl) | simp [PX.get]), trivial⟩ ⟨(by first | rfl | (simp only [List.length_map]; rfl) | simp [PX.get]), (by first | rfl | (simp only [List.length_map]; rfl) | simp [PX.get]), trivial⟩)⟩
    · rintro acc ⟨_, he⟩
      have he : M = acc := by simpa using he
      rw [he]
      conv => whnf
      refine brk_i (fun h => absurd h (by simp)) (fun _ => ?_)
      conv => whnf
      refine RetA_view 1 (ds := [rotaD acc, i64 0]) ?_ ⟨⟨rfl, rfl⟩, rfl⟩
      exact viewL_cons (viewV_sl (es := acc.map fun r => [intsD r]) rfl (by simp)) rfl
  · rw [if_neg h0]
    conv => whnf
    refine brk_i (fun _ => ?_) (fun h1 => absurd h1 (by simp [h0]))
    conv => whnf
    exact RetA_view 0 rfl ⟨⟨rfl, rfl⟩, rfl⟩
end Go.PX

namespace Go.PX
open Go.Proofs

/- Watch: the values of the examples. -/

def aloneC : WCase := { caseC 2 false with men := [adaM, cidM] }

theorem aw1 : badF (caseC 2 false) (rowsL [0, 2, 0]) = (2, 5, 0, 0) := by decide +kernel
theorem aw2 : goodE (caseC 2 false) (rowsL [0, 2, 1, 0]) = 0 ∧ stoodL 3 (rowsL [0, 2, 1, 0]) = [2, 1, 1] := by decide +kernel
theorem aw3 : goodE (caseC 2 false) (rowsL [0]) = 0 ∧ canL (caseC 2 false) (rowsL [0]) = rowsL [1, 2] := by decide +kernel
theorem aw4 : nextL (caseC 2 false) (rowsL [0]) = rowsL [2] := by decide +kernel
theorem aw5 : entE aloneC [] = 0 ∧ lonW aloneC = 2 := by decide +kernel
theorem aw6 : entE (caseC 2 false) [] = 0 ∧ endB (caseC 2 false) (allMen (caseC 2 false)) .zero = true ∧ endlW (caseC 2 false) = (rowsL [0, 2, 1, 0, 2], 2) := by decide +kernel
theorem aw7 : entE (caseC 1 false) [] = 0 ∧ fewL (caseC 1 false) = [0, 1] := by decide +kernel
theorem aw8 : needL (caseC 2 false) = [0, 1, 2] := by decide +kernel
theorem aw9 : fillE (caseC 2 false) [[], [2], []] = 0 ∧ fillL (caseC 2 false) [[], [2], []] = rowsL [0, 2, 1] := by decide +kernel
theorem aw10 : missE (caseC 2 false) (rowsL [0, 2, 1, 0]) 3 = 0 ∧ missL (caseC 2 false) (rowsL [0, 2, 1, 0]) 3 = [1, 2] := by decide +kernel
theorem aw11 : goodE (caseC 2 false) (rowsL [0, 0]) = 9 := by decide +kernel

theorem kr (l : List Int) (x : Int) (r : List Int) (h : l = x :: r) (hl : l.length ≤ 1000) : FnV Try.prog 42 [intsD l] (rotaD (rowsL l)) := by
  subst h
  exact wa42 _ hl

theorem k17 : FnV Try.prog 17 [(caseC 2 false).d, rotaD (rowsL [0, 2, 0])] (.tup [i64 2, i64 5, i64 0, i64 0]) :=
  FnV.cast (wa17 _ _) (by rw [aw1])
theorem k19 : FnV Try.prog 19 [(caseC 2 false).d, rotaD (rowsL [0, 2, 1, 0])] (.tup [intsD [2, 1, 1], i64 0]) :=
  FnV.cast (wa19 _ _) (by rw [aw2.1, if_pos rfl, show (caseC 2 false).men.length = 3 from rfl, aw2.2])
theorem k22 : FnV Try.prog 22 [(caseC 2 false).d, rotaD (rowsL [0])] (.tup [rotaD (rowsL [1, 2]), i64 0]) :=
  FnV.cast (wa22 _ _) (by rw [aw3.1, if_pos rfl, aw3.2]; rfl)
theorem k25 : FnV Try.prog 25 [(caseC 2 false).d, rotaD (rowsL [0])] (.tup [rotaD (rowsL [2]), i64 0]) :=
  FnV.cast (wa25 _ _) (by rw [aw3.1, if_pos rfl, aw4]; rfl)
theorem k28 : FnV Try.prog 28 [aloneC.d] (.tup [i64 2, i64 0]) :=
  FnV.cast (wa28 _) (by rw [aw5.1, if_pos rfl, aw5.2])
theorem k30 : FnV Try.prog 30 [(caseC 2 false).d] (.tup [rotaD (rowsL [0, 2, 1, 0, 2]), i64 2, i64 0]) :=
  FnV.cast (wa30 _) (by rw [aw6.1, aw6.2.1, aw6.2.2]; rfl)
theorem k32 : FnV Try.prog 32 [(caseC 1 false).d] (.tup [intsD [0, 1], i64 0]) :=
  FnV.cast (wa32 _) (by rw [aw7.1, aw7.2]; rfl)
theorem k34 : FnV Try.prog 34 [(caseC 2 false).d] (.tup [intsD [0, 1, 2], i64 0]) :=
  FnV.cast (wa34 _) (by rw [aw6.1, aw6.2.1, aw8]; rfl)
theorem k36 : FnV Try.prog 36 [(caseC 2 false).d, rotaD [[], [2], []]] (.tup [rotaD (rowsL [0, 2, 1]), i64 0]) :=
  FnV.cast (wa36 _ _) (by rw [aw9.1, aw9.2]; rfl)
theorem k38 : FnV Try.prog 38 [(caseC 2 false).d, rotaD (rowsL [0, 2, 1, 0]), i64 3] (.tup [intsD [1, 2], i64 0]) :=
  FnV.cast (wa38 _ _ _) (by rw [aw10.1, aw10.2]; rfl)
theorem k22b : FnV Try.prog 22 [(caseC 2 false).d, rotaD (rowsL [0, 0])] (.tup [.nils, i64 9]) :=
  FnV.cast (wa22 _ _) (by rw [aw11]; rfl)

theorem wa27 : FnV Try.prog 27 [] (.bool true) := by
  refine fnV_of mixed tysOk Try.func27 rfl (ft := ft27) 0 (by decide +kernel) (by rfl) fun {σ} Y st => ?_
  conv => whnf
  refine CallA_v (ds := [i64 2, .bool false]) (wa40 2 false) rfl rfl ?_
  conv => whnf
  refine CallA_v (ds := [i64 2, .bool false]) (wa40 2 false) rfl rfl ?_
  conv => whnf
  refine DrawCall_fz (ds := [intsD [0, 2, 0]]) (kr [0, 2, 0] _ _ rfl (by simp)) 1 rfl rfl ?_
  conv => whnf
  refine DrawCall_v (ds := [(caseC 2 false).d, rotaD (rowsL [0, 2, 0])]) k17 rfl rfl ?_
  conv => whnf
  refine DrawCall_fz (ds := [intsD [0, 2, 1, 0]]) (kr [0, 2, 1, 0] _ _ rfl (by simp)) 1 rfl rfl ?_
  conv => whnf
  refine DrawCall_v (ds := [(caseC 2 false).d, rotaD (rowsL [0, 2, 1, 0])]) k19 rfl rfl ?_
  conv => whnf
  refine DrawCall_fz (ds := [intsD [0]]) (kr [0] _ _ rfl (by simp)) 1 rfl rfl ?_
  conv => whnf
  refine DrawCall_v (ds := [(caseC 2 false).d, rotaD (rowsL [0])]) k22 rfl rfl ?_
  conv => whnf
  refine DrawCall_fz (ds := [intsD [0]]) (kr [0] _ _ rfl (by simp)) 1 rfl rfl ?_
  conv => whnf
  refine DrawCall_v (ds := [(caseC 2 false).d, rotaD (rowsL [0])]) k25 rfl rfl ?_
  conv => whnf
  refine CallA_view (ds := [aloneC.d]) k28 rfl 2 rfl ?_
  conv => whnf
  refine CallA_v (ds := [(caseC 2 false).d]) k30 rfl rfl ?_
  conv => whnf
  refine CallA_v (ds := [i64 1, .bool false]) (wa40 1 false) rfl rfl ?_
  conv => whnf
  refine CallA_v (ds := [(caseC 1 false).d]) k32 rfl rfl ?_
  conv => whnf
  refine CallA_v (ds := [(caseC 2 false).d]) k34 rfl rfl ?_
  conv => whnf
  refine CallA_frz 2 [93, 94] ?_
  refine CallA_rep (args' := [.d (caseC 2 false).d, .d (rotaD [[], [2], []])]) (fun yv L F w l h => by
    obtain ⟨x1, l1, rfl, h1, x2, l2, rfl, h2, h3⟩ := h
    exact ⟨x1, _, rfl, h1, x2, _, rfl, RepD.relax (.vs [[.nils], [intsD [2]], [.nils]]) x2 h2, h3⟩) ?_
  refine CallA_v (ds := [(caseC 2 false).d, rotaD [[], [2], []]]) k36 rfl rfl ?_
  conv => whnf
  refine DrawCall_fz (ds := [intsD [0, 2, 1, 0]]) (kr [0, 2, 1, 0] _ _ rfl (by simp)) 1 rfl rfl ?_
  conv => whnf
  refine DrawCall_v (ds := [(caseC 2 false).d, rotaD (rowsL [0, 2, 1, 0]), i64 3]) k38 rfl rfl ?_
  conv => whnf
  refine DrawCall_fz (ds := [intsD [0, 0]]) (kr [0, 0] _ _ rfl (by simp)) 1 rfl rfl ?_
  conv => whnf
  refine DrawCall_v (ds := [(caseC 2 false).d, rotaD (rowsL [0, 0])]) k22b rfl rfl ?_
  conv => whnf
  refine CallA_view (ds := [intsD [2, 1, 1], intsD [2, 1, 1]]) (fn19 [2, 1, 1] [2, 1, 1] (by simp)) rfl 1 rfl ?_
  conv => whnf
  refine CallA_fz (ds := [intsD [1, 2]]) (kr [1, 2] _ _ rfl (by simp)) 1 [173] rfl rfl ?_
  conv => whnf
  refine CallA_v (ds := [rotaD (rowsL [1, 2]), rotaD (rowsL [1, 2])]) (wa24 (rowsL [1, 2]) (rowsL [1, 2]) (by decide) (by decide)) rfl rfl ?_
  conv => whnf
  refine CallA_fz (ds := [intsD [2]]) (kr [2] _ _ rfl (by simp)) 1 [179] rfl rfl ?_
  conv => whnf
  refine CallA_v (ds := [rotaD (rowsL [2]), rotaD (rowsL [2])]) (wa24 (rowsL [2]) (rowsL [2]) (by decide) (by decide)) rfl rfl ?_
  conv => whnf
  refine CallA_fz (ds := [intsD [0, 2, 1, 0, 2]]) (kr [0, 2, 1, 0, 2] _ _ rfl (by simp)) 1 [189] rfl rfl ?_
  conv => whnf
  refine CallA_v (ds := [rotaD (rowsL [0, 2, 1, 0, 2]), rotaD (rowsL [0, 2, 1, 0, 2])]) (wa24 (rowsL [0, 2, 1, 0, 2]) (rowsL [0, 2, 1, 0, 2]) (by decide) (by decide)) rfl rfl ?_
  conv => whnf
  refine CallA_view (ds := [intsD [0, 1], intsD [0, 1]]) (fn19 [0, 1] [0, 1] (by simp)) rfl 1 rfl ?_
  conv => whnf
  refine CallA_view (ds := [intsD [0, 1, 2], intsD [0, 1, 2]]) (fn19 [0, 1, 2] [0, 1, 2] (by simp)) rfl 1 rfl ?_
  conv => whnf
  refine CallA_fz (ds := [intsD [0, 2, 1]]) (kr [0, 2, 1] _ _ rfl (by simp)) 1 [209] rfl rfl ?_
  conv => whnf
  refine CallA_v (ds := [rotaD (rowsL [0, 2, 1]), rotaD (rowsL [0, 2, 1])]) (wa24 (rowsL [0, 2, 1]) (rowsL [0, 2, 1]) (by decide) (by decide)) rfl rfl ?_
  conv => whnf
  refine CallA_view (ds := [intsD [1, 2], intsD [1, 2]]) (fn19 [1, 2] [1, 2] (by simp)) rfl 1 rfl ?_
  conv => whnf
  exact RetA_view 0 rfl ⟨⟨rfl, rfl⟩, rfl⟩
end Go.PX

namespace Go.PX
open Go.Proofs

/- Watch: WatchKept. -/

def valW (c : WCase) : Bool := decide ((checkW c).2.2 = 0)

theorem wa43 (c : WCase) : FnV Try.prog 43 [c.d] (.bool (valW c)) := by
  refine fnV_of mixed tysOk Try.func43 rfl (ft := ft43) 1 (by decide +kernel) (by rfl) fun {σ} Y st => ?_
  conv => whnf
  refine CallA_v (wa16 c) rfl rfl ?_
  conv => whnf
  exact RetA_view 0 rfl ⟨⟨rfl, rfl⟩, rfl⟩

theorem ent_nil (c : WCase) : entE c [] = (checkW c).2.2 := by
  unfold entE
  split
  · rename_i h; rw [h]; rfl
  · rfl

def endT (c : WCase) (rota : List (List Int)) : Tired := (walkF c (allMen c) .zero rota 0).2
def goodW (c : WCase) (rota : List (List Int)) : Prop := (walkF c (allMen c) .zero rota 0).1.1 = -1

/-- A walk goes on where another one ends. -/
theorem walk_append {c : WCase} {set : Int} : ∀ {l1 l2 : List (List Int)} {t : Tired} {i : Int}, 0 ≤ i → (walkF c set t l1 i).1.1 = -1 → walkF c set t (l1 ++ l2) i = walkF c set (walkF c set t l1 i).2 l2 (i + l1.length)
  | [], l2, t, i, _, _ => by simp [walkF]
  | r :: l1, l2, t, i, hi, h => by
    rw [walkF] at h
    rw [List.cons_append, walkF, walkF]
    split
    · rename_i h1
      rw [if_pos h1] at h
      rw [walk_append (by omega) h]
      congr 1
      simp; omega
    · rename_i h1
      rw [if_neg h1] at h
      simp only at h
      omega

/-- A walk does not hang on the number of its first row, but for the number of the bad one. -/
theorem walk_shift {c : WCase} {set : Int} : ∀ {l : List (List Int)} {t : Tired} {i j : Int}, 0 ≤ i → 0 ≤ j → ((walkF c set t l i).1.1 = -1 ↔ (walkF c set t l j).1.1 = -1) ∧ (walkF c set t l i).2 = (walkF c set t l j).2
  | [], t, i, j, _, _ => by simp [walkF]
  | r :: l, t, i, j, hi, hj => by
    rw [walkF, walkF]
    split
    · exact walk_shift (by omega) (by omega)
    · exact ⟨⟨fun h => by simp only at h; omega, fun h => by simp only at h; omega⟩, rfl⟩

theorem walk_app_iff {c : WCase} {set : Int} {l1 l2 : List (List Int)} {t : Tired} (h : (walkF c set t l1 0).1.1 = -1) : ((walkF c set t (l1 ++ l2) 0).1.1 = -1 ↔ (walkF c set (walkF c set t l1 0).2 l2 0).1.1 = -1) ∧ (walkF c set t (l1 ++ l2) 0).2 = (walkF c set (walkF c set t l1 0).2 l2 0).2 := by
  rw [walk_append (Int.le_refl 0) h]
  exact walk_shift (by omega) (Int.le_refl 0)

theorem group_why {c : WCase} {set : Int} {t : Tired} {x : List Int × Tired} (h : x ∈ groupsF c set t) : (whyT c set t x.1).1 = 0 ∧ x.2 = behindF c t x.1 := groupsL_ok h

theorem group_in {c : WCase} {set : Int} {t : Tired} {x : List Int × Tired} (h : x ∈ groupsF c set t) : RowIn c x.1 := by
  unfold groupsF at h
  rw [groups_lists (p := []) (start := 0) rfl, List.mem_map] at h
  obtain ⟨g, hg, rfl⟩ := h
  exact (lists_ok (p := []) (fun x hx => by cases hx) g (List.mem_filter.1 hg).1).2

structure EndlOk (c : WCase) (r : List (List Int) × Int) : Prop where
  good : goodW c r.1
  frm : 0 ≤ r.2 ∧ r.2 < r.1.length
  same : endT c (r.1.take r.2.toNat) = endT c r.1
  rows : ∀ x ∈ r.1, RowIn c x ∧ x.length ≤ 2
  len : r.1.length ≤ fuelW

theorem endl_ok {c : WCase} (hR : WR c) : ∀ (n : Nat) (seen : Kn) (rota : List (List Int)) (t : Tired), InU c t → endB c (allMen c) t = true → cntN c seen < n → goodW c rota → endT c rota = t →
    (∀ u i, getK seen u = some i → (0 ≤ i ∧ i < rota.length) ∧ endT c (rota.take i.toNat) = u) → (∀ x ∈ rota, RowIn c x ∧ x.length ≤ 2) → rota.length + cntN c seen ≤ fuelW → EndlOk c (endlF c n seen rota t)
  | 0, _, _, _, _, _, h, _, _, _, _, _ => by omega
  | n + 1, seen, rota, t, ht, ha, hn, hg, he, hs, hr, hl => by
    rw [endlF]
    cases hk : getK seen t with
    | some i =>
      obtain ⟨h1, h2⟩ := hs t i hk
      exact ⟨hg, h1, by rw [h2, he], hr, by simp only; omega⟩
    | none =>
      obtain ⟨⟨g, u⟩, hf⟩ := first_some hR ht ha
      rw [hf]
      simp only
      have hp0 : (g, u) ∈ groupsF c (allMen c) t := List.mem_of_find?_eq_some hf
      have ha0 : endB c (allMen c) u = true := by have := List.find?_some hf; exact this
      obtain ⟨hw, hu⟩ := group_why hp0
      have hc := cntN_put ht hk rota.length
      have hlen := groups_len hR hp0
      obtain ⟨a1, a2⟩ := walk_app_iff (l2 := [g]) hg
      have hst : (walkF c (allMen c) (walkF c (allMen c) .zero rota 0).2 [g] 0) = ((-1, 0, 0), u) := by
        have he' : (walkF c (allMen c) .zero rota 0).2 = t := he
        rw [he', walkF, if_pos hw, walkF, ← hu]
      rw [hst] at a1 a2
      refine endl_ok hR n _ _ u (groups_InU hR ht hp0) ha0 (by omega) (a1.2 rfl) a2 (fun v i hv => ?_) (fun x hx => ?_) (by simp; omega)
      · rw [get_put_kn] at hv
        split at hv
        · rename_i e
          cases hv
          subst e
          refine ⟨by simp; omega, ?_⟩
          simp only [Int.toNat_natCast, List.take_left']
          exact he
        · obtain ⟨h1, h2⟩ := hs v i hv
          refine ⟨by simp; omega, ?_⟩
          rw [List.take_append_of_le_length (by omega)]
          exact h2
      · rcases List.mem_append.1 hx with hx | hx
        · exact hr x hx
        · rw [List.mem_singleton] at hx
          subst hx
          exact ⟨group_in hp0, hlen⟩

theorem endlW_ok {c : WCase} (hR : WR c) (h : endB c (allMen c) .zero = true) : EndlOk c (endlW c) := by
  have h1 : cntN c [] ≤ (univ c).length := List.length_filter_le ..
  have := univ_fuel hR
  exact endl_ok hR (fuelW + 1) [] [] .zero (InU.zero hR) h (by omega) rfl rfl (fun u i h => by cases h) (fun x hx => by cases hx) (by simp; omega)

/-- So many times the rows from from on. -/
def againF (r : List (List Int) × Int) : Nat → List (List Int)
  | 0 => r.1
  | n + 1 => againF r n ++ r.1.drop r.2.toNat

theorem again_ok {c : WCase} {r : List (List Int) × Int} (h : EndlOk c r) : ∀ n, goodW c (againF r n) ∧ endT c (againF r n) = endT c r.1
  | 0 => ⟨h.good, rfl⟩
  | n + 1 => by
    obtain ⟨h1, h2⟩ := again_ok h n
    obtain ⟨a1, a2⟩ := walk_app_iff (l2 := r.1.drop r.2.toNat) h1
    have hg := h.good
    have hsplit : r.1 = r.1.take r.2.toNat ++ r.1.drop r.2.toNat := (List.take_append_drop ..).symm
    have hgt : (walkF c (allMen c) .zero (r.1.take r.2.toNat) 0).1.1 = -1 := walk_app (l2 := r.1.drop r.2.toNat) (Int.le_refl 0) (by rw [← hsplit]; exact hg)
    obtain ⟨b1, b2⟩ := walk_app_iff (l2 := r.1.drop r.2.toNat) hgt
    rw [← hsplit] at b1 b2
    have e1 : (walkF c (allMen c) .zero (againF r n) 0).2 = (walkF c (allMen c) .zero (r.1.take r.2.toNat) 0).2 := h2.trans h.same.symm
    rw [e1] at a1 a2
    exact ⟨a1.2 (b1.1 hg), a2.trans b2.symm⟩

theorem end_slot {c : WCase} (hR : WR c) {rota : List (List Int)} (h : goodW c rota) : (endT c rota).slot = slotI c rota.length := by
  have := (hist_walk hR (Int.le_refl 0) (Hist.zero hR) h).slot
  simpa [endT] using this

theorem kept_mod {c : WCase} (hR : WR c) {r : List (List Int) × Int} (h : EndlOk c r) : ((r.1.length : Int) - r.2).tmod c.slots.length = 0 := by
  have hs := hR.slots
  have hf := h.frm
  have hgt : goodW c (r.1.take r.2.toNat) := walk_app (l2 := r.1.drop r.2.toNat) (Int.le_refl 0) (by rw [List.take_append_drop]; exact h.good)
  have h1 := end_slot hR hgt
  have h2 := end_slot hR h.good
  rw [h.same, h2] at h1
  have hl : (r.1.take r.2.toNat).length = r.2.toNat := by rw [List.length_take]; omega
  rw [hl] at h1
  unfold slotI at h1
  rw [Int.tmod_eq_emod_of_nonneg (by omega), Int.tmod_eq_emod_of_nonneg (by omega)] at h1
  rw [Int.tmod_eq_emod_of_nonneg (by omega)]
  have e : ((r.2.toNat : Nat) : Int) = r.2 := by omega
  rw [e] at h1
  exact Int.emod_eq_zero_of_dvd (Int.dvd_of_emod_eq_zero (by rw [Int.sub_emod, h1]; simp))
end Go.PX

namespace Go.PX
open Go.Proofs

/- Watch: any good rota; how long it can be. -/

theorem asc_snoc {many : Int} : ∀ {l : List Int} {last i : Int}, ascF many last l = 0 → (l.getLast?).getD last < i → 0 ≤ i → i < many → ascF many last (l ++ [i]) = 0
  | [], last, i, _, h, h0, h1 => by
    have h : last < i := by simpa using h
    have hb : inB i 0 (many - 1) = true := by rw [inB_iff]; omega
    simp only [List.nil_append, ascF, hb, if_true]
    rw [if_neg (by omega)]
  | x :: l, last, i, h, hi, h0, h1 => by
    rw [ascF] at h
    rw [List.cons_append, ascF]
    split at h
    case isFalse => cases h
    rename_i hb
    split at h
    · cases h
    rename_i hx
    rw [if_pos hb, if_neg hx]
    refine asc_snoc h ?_ h0 h1
    rw [List.getLast?_cons] at hi
    simpa using hi

theorem lists_asc {below : Nat} : ∀ {many : Nat} {p : List Int}, (∀ x ∈ p, 0 ≤ x ∧ x < below) → ascF below (-1) p = 0 → ∀ g ∈ listsF below many p, ascF below (-1) g = 0
  | 0, p, _, ha, g, hg => by
    rw [listsF, List.mem_singleton] at hg
    subst hg; exact ha
  | many + 1, p, hp, ha, g, hg => by
    rw [listsF, List.mem_flatMap] at hg
    obtain ⟨i, hi, hg⟩ := hg
    rw [List.mem_range'_1] at hi
    have h1 := startF_le hp
    refine lists_asc (many := many) (p := p ++ [(i : Int)]) (fun x hx => ?_) (asc_snoc ha ?_ (by omega) (by omega)) g hg
    · rcases List.mem_append.1 hx with hx | hx
      · exact hp x hx
      · rw [List.mem_singleton] at hx; subst hx; omega
    · unfold startF at hi
      cases h : p.getLast? with
      | none => rw [h] at hi; simp only [Option.getD_none]; omega
      | some y => rw [h] at hi; simp only [Option.getD_some] at hi ⊢; omega

theorem lists_mem {below : Nat} : ∀ {r p : List Int}, ascF below ((startF p : Int) - 1) r = 0 → p ++ r ∈ listsF below r.length p
  | [], p, _ => by simp [listsF]
  | i :: r, p, h => by
    rw [ascF] at h
    split at h
    case isFalse => cases h
    rename_i hb
    split at h
    · cases h
    rename_i hx
    rw [inB_iff] at hb
    rw [List.length_cons, listsF, List.mem_flatMap]
    obtain ⟨k, rfl⟩ : ∃ k : Nat, i = k := ⟨i.toNat, by omega⟩
    refine ⟨k, ?_, ?_⟩
    · rw [List.mem_range'_1]; omega
    · have h2 := lists_mem (r := r) (p := p ++ [(k : Int)]) (by
        rw [startF_snoc, show (((k + 1 : Nat) : Int) - 1) = (k : Int) by omega]; exact h)
      simpa using h2

/-- A group that can stand is one of the groups. -/
theorem group_mem {c : WCase} {set : Int} {t : Tired} {g : List Int} (ha : ascF c.men.length (-1) g = 0) (hm : (slotAt c t).men.toNat = g.length) (hw : (whyT c set t g).1 = 0) : (g, behindF c t g) ∈ groupsF c set t := by
  unfold groupsF
  rw [groups_lists (p := []) (start := 0) rfl, List.mem_map]
  refine ⟨g, List.mem_filter.2 ⟨?_, by simpa [whyT] using hw⟩, rfl⟩
  rw [hm]
  have := lists_mem (below := c.men.length) (r := g) (p := []) (by simpa [startF] using ha)
  simpa using this

theorem why_men {c : WCase} {set : Int} {t : Tired} {g : List Int} (hw : (whyT c set t g).1 = 0) : (slotAt c t).men.toNat = g.length := by
  unfold whyT whyF at hw
  split at hw
  · simp at hw
  · rename_i h
    have h : (g.length : Int) = (slotAt c t).men := by simpa using h
    omega

theorem group_mem' {c : WCase} {set : Int} {t : Tired} {g : List Int} (ha : ascF c.men.length (-1) g = 0) (hw : (whyT c set t g).1 = 0) : (g, behindF c t g) ∈ groupsF c set t := group_mem ha (why_men hw) hw

theorem group_asc {c : WCase} {set : Int} {t : Tired} {x : List Int × Tired} (h : x ∈ groupsF c set t) : ascF c.men.length (-1) x.1 = 0 := by
  unfold groupsF at h
  rw [groups_lists (p := []) (start := 0) rfl, List.mem_map] at h
  obtain ⟨g, hg, rfl⟩ := h
  exact lists_asc (p := []) (fun x hx => by cases hx) rfl g (List.mem_filter.1 hg).1

/-- A good rota of ascending rows. -/
structure GoodR (c : WCase) (rota : List (List Int)) : Prop where
  good : goodW c rota
  asc : ∀ r ∈ rota, ascF c.men.length (-1) r = 0

theorem GoodR.nil (c : WCase) : GoodR c [] := ⟨rfl, fun r h => by cases h⟩

theorem GoodR.snoc {c : WCase} {rota : List (List Int)} {x : List Int × Tired} (h : GoodR c rota) (hx : x ∈ groupsF c (allMen c) (endT c rota)) : GoodR c (rota ++ [x.1]) ∧ endT c (rota ++ [x.1]) = x.2 := by
  obtain ⟨hw, hu⟩ := group_why hx
  obtain ⟨a1, a2⟩ := walk_app_iff (l2 := [x.1]) h.good
  have hst : (walkF c (allMen c) (walkF c (allMen c) .zero rota 0).2 [x.1] 0) = ((-1, 0, 0), x.2) := by
    have hw' : (whyT c (allMen c) (walkF c (allMen c) .zero rota 0).2 x.1).1 = 0 := hw
    rw [walkF, if_pos hw', walkF, hu]; rfl
  rw [hst] at a1 a2
  refine ⟨⟨a1.2 rfl, fun r hr => ?_⟩, a2⟩
  rcases List.mem_append.1 hr with hr | hr
  · exact h.asc r hr
  · rw [List.mem_singleton] at hr
    subst hr
    exact group_asc hx

theorem GoodR.pre {c : WCase} {a b : List (List Int)} (h : GoodR c (a ++ b)) : GoodR c a := ⟨walk_app (l2 := b) (Int.le_refl 0) h.good, fun r hr => h.asc r (by simp [hr])⟩

theorem err_all {α : Type} {f : α → Int} : ∀ {l : List α}, (∀ x ∈ l, f x = 0) → firstErr f l = 0
  | [], _ => rfl
  | x :: r, h => by rw [firstErr, if_pos (h x (by simp))]; exact err_all fun y hy => h y (by simp [hy])

theorem GoodR.ent {c : WCase} (hv : (checkW c).2.2 = 0) {rota : List (List Int)} (h : GoodR c rota) (hl : rota.length ≤ 40) : entE c rota = 0 := by
  unfold entE
  rw [if_pos hv, if_neg (by omega)]
  exact err_all h.asc

theorem GoodR.zero {c : WCase} (hv : (checkW c).2.2 = 0) {rota : List (List Int)} (h : GoodR c rota) (hl : rota.length ≤ 40) : goodE c rota = 0 := by
  have hg := h.good
  unfold goodW at hg
  unfold goodE
  rw [if_pos (h.ent hv hl), hg]
  rfl

theorem GoodR.of {c : WCase} {rota : List (List Int)} (h : goodE c rota = 0) : GoodR c rota := by
  obtain ⟨hE, hw⟩ := good_at h
  obtain ⟨_, _, hall⟩ := ent_ok hE
  exact ⟨hw, hall⟩

theorem GoodR.rows {c : WCase} (hR : WR c) {rota : List (List Int)} (h : GoodR c rota) : ∀ r ∈ rota, RowIn c r ∧ r.length < 1000000 := fun r hr => by
  refine ⟨asc_in (h.asc r hr), ?_⟩
  have hm := hR.men
  rcases ascF_len (h.asc r hr) with h1 | h1
  · rw [h1]; simp
  · omega

theorem GoodR.InU {c : WCase} (hR : WR c) {rota : List (List Int)} (h : GoodR c rota) : InU c (endT c rota) := walk_InU hR (Int.le_refl 0) (InU.zero hR) h.good

def canR (c : WCase) (rota : List (List Int)) : List (List Int) := (listsF c.men.length (slotOf c rota.length).men.toNat []).filter fun g => decide ((whyR c rota g).1 = 0)
def turnF (x : List Int) (n : Nat) : Int := if x = [] then 0 else x.getD (n % x.length) 0
def pickF (c : WCase) (x : List Int) (rota : List (List Int)) : List Int := (canR c rota).getD ((turnF x rota.length).toNat % (canR c rota).length) []
def anyF (c : WCase) (x : List Int) : Nat → List (List Int) → List (List Int)
  | 0, out => out
  | k + 1, out => if canR c out = [] then out else anyF c x k (out ++ [pickF c x out])

theorem canR_eq {c : WCase} (hR : WR c) {rota : List (List Int)} (h : GoodR c rota) : canR c rota = (groupsF c (allMen c) (endT c rota)).map (·.1) := by
  have hh := hist_walk hR (Int.le_refl 0) (Hist.zero hR) h.good
  rw [List.append_nil] at hh
  have hs : slotAt c (endT c rota) = slotOf c rota.length := by
    unfold slotAt slotOf
    rw [end_slot hR h.good]
  unfold canR groupsF
  rw [groups_lists (p := []) (start := 0) rfl, List.map_map, hs]
  rw [show (List.map ((fun (x : List Int × Tired) => x.1) ∘ fun g => (g, behindF c (endT c rota) g))) = List.map id from rfl, List.map_id]
  refine List.filter_congr fun g hg => ?_
  obtain ⟨_, h2⟩ := lists_ok (p := []) (fun x hx => by cases hx) g hg
  rw [why_eq hR hh h2]
  unfold whyT
  rw [← hs]; rfl

theorem pick_mem {c : WCase} {x : List Int} {rota : List (List Int)} (hn : canR c rota ≠ []) : pickF c x rota ∈ canR c rota := by
  unfold pickF
  have hp : 0 < (canR c rota).length := List.length_pos_iff.2 hn
  have := Nat.mod_lt (turnF x rota.length).toNat hp
  rw [List.getD_eq_getElem?_getD, List.getElem?_eq_getElem this]
  exact List.getElem_mem _

theorem pick_group {c : WCase} (hR : WR c) {x : List Int} {rota : List (List Int)} (h : GoodR c rota) (hn : canR c rota ≠ []) : ∃ u, (pickF c x rota, u) ∈ groupsF c (allMen c) (endT c rota) := by
  have := pick_mem (x := x) hn
  rw [canR_eq hR h, List.mem_map] at this
  obtain ⟨⟨g, u⟩, hp, he⟩ := this
  exact ⟨u, by rw [← he]; exact hp⟩

theorem any_good {c : WCase} (hR : WR c) {x : List Int} : ∀ {k : Nat} {out : List (List Int)}, GoodR c out → GoodR c (anyF c x k out) ∧ (anyF c x k out).length ≤ out.length + k ∧ ∃ l, anyF c x k out = out ++ l
  | 0, out, h => ⟨h, Nat.le_refl _, [], by simp [anyF]⟩
  | k + 1, out, h => by
    rw [anyF]
    split
    · exact ⟨h, by omega, [], by simp⟩
    · rename_i hn
      obtain ⟨u, hu⟩ := pick_group hR (x := x) h hn
      obtain ⟨h1, h2, l, h3⟩ := any_good hR (x := x) (k := k) (h.snoc hu).1
      exact ⟨h1, by simp at h2; omega, pickF c x out :: l, by rw [h3]; simp⟩

theorem max_le {f : Tired → Int} : ∀ {l : List Tired} {y : Int} {u : Tired}, u ∈ l → 1 + f u ≤ l.foldl (fun x u => max x (1 + f u)) y := by
  have hmono : ∀ (l : List Tired) (y : Int), y ≤ l.foldl (fun x u => max x (1 + f u)) y := by
    intro l
    induction l with
    | nil => exact fun y => Int.le_refl y
    | cons a r ih => intro y; rw [List.foldl_cons]; have := ih (max y (1 + f a)); omega
  intro l
  induction l with
  | nil => intro y u h; cases h
  | cons a r ih =>
    intro y u h
    rw [List.foldl_cons]
    rcases List.mem_cons.1 h with rfl | h
    · have := hmono r (max y (1 + f u)); omega
    · exact ih h

/-- No good rota is longer. -/
theorem hgt_chain {c : WCase} {set : Int} : ∀ {l : List (List Int)} {n : Nat} {t : Tired} {i : Int}, 0 ≤ i → deadN c set n t → (walkF c set t l i).1.1 = -1 → (∀ r ∈ l, ascF c.men.length (-1) r = 0) → (l.length : Int) ≤ hgtN c set n t
  | [], n, t, i, _, _, _, _ => (hgt_bd n t).1
  | g :: l, 0, t, i, _, hd, _, _ => hd.elim
  | g :: l, n + 1, t, i, hi, hd, hw, ha => by
    rw [walkF] at hw
    split at hw
    · rename_i h1
      have hp := group_mem' (ha g (by simp)) h1
      have hu : behindF c t g ∈ succF c set t := List.mem_map.2 ⟨_, hp, rfl⟩
      have ih := hgt_chain (l := l) (by omega) (hd _ hu) hw fun r hr => ha r (by simp [hr])
      rw [hgtN]
      have := max_le (f := fun u => hgtN c set n u) (y := 0) hu
      simp only [List.length_cons] at this ⊢
      omega
    · simp only at hw; omega

theorem lon_dead {c : WCase} (hR : WR c) (h : endB c (allMen c) .zero = false) : lonW c = hgtN c (allMen c) fuelW .zero := by
  have hlv := (lonF_val (c := c) (set := allMen c) (n := fuelW) (fa := []) (t := .zero) (by decide) (dead_fuel hR (InU.zero hR) h) (fun t v h => by cases h)).1
  unfold lonW; rw [h]; exact hlv

theorem lon_bd {c : WCase} (hR : WR c) : -1 ≤ lonW c ∧ lonW c ≤ 46656 ∧ (lonW c = -1 ↔ endB c (allMen c) .zero = true) := by
  cases h : endB c (allMen c) .zero with
  | true => unfold lonW; rw [h]; simp
  | false =>
    rw [lon_dead hR h]
    have := hgt_bd (c := c) (set := allMen c) fuelW .zero
    have h2 : (fuelW : Int) = 46656 := rfl
    exact ⟨by omega, by omega, by constructor <;> intro h <;> first | omega | cases h⟩

theorem lon_rota {c : WCase} (hR : WR c) {rota : List (List Int)} (h : GoodR c rota) (hn : 0 ≤ lonW c) : (rota.length : Int) ≤ lonW c := by
  have hb : endB c (allMen c) .zero = false := by
    cases hb : endB c (allMen c) .zero with
    | false => rfl
    | true => have := (lon_bd hR).2.2.2 hb; omega
  rw [lon_dead hR hb]
  exact hgt_chain (Int.le_refl 0) (dead_fuel hR (InU.zero hR) hb) h.good h.asc

/-- A rota that goes on by groups of Next. -/
theorem next_mem {c : WCase} {rota : List (List Int)} {g : List Int} (h : g ∈ nextL c rota) : ∃ u, (g, u) ∈ groupsF c (allMen c) (endT c rota) ∧ endB c (allMen c) u = true := by
  unfold nextL nextG at h
  obtain ⟨⟨g', u⟩, hp, rfl⟩ := List.mem_map.1 h
  obtain ⟨h1, h2⟩ := List.mem_filter.1 hp
  exact ⟨u, h1, h2⟩

theorem next_some {c : WCase} (hR : WR c) {rota : List (List Int)} (h : GoodR c rota) (ha : endB c (allMen c) (endT c rota) = true) : nextL c rota ≠ [] := by
  obtain ⟨⟨g, u⟩, hf⟩ := first_some hR (h.InU hR) ha
  have hp : (g, u) ∈ groupsF c (allMen c) (endT c rota) := List.mem_of_find?_eq_some hf
  have ha0 : endB c (allMen c) u = true := by have := List.find?_some hf; exact this
  intro he
  have : g ∈ nextL c rota := List.mem_map.2 ⟨(g, u), List.mem_filter.2 ⟨hp, ha0⟩, rfl⟩
  rw [he] at this
  cases this
end Go.PX

namespace Go.PX
open Go.Proofs

/- Watch: Any. -/

def bytesD (l : List Int) : D := .vs (l.map fun b => [.int .u8 b])

theorem wa48 (x : List Int) (hx : ∀ b ∈ x, 0 ≤ b ∧ b ≤ 255) (n : Nat) : FnV Try.prog 48 [bytesD x, i64 n] (i64 (turnF x n)) := by
  refine fnV_of mixed tysOk Try.func48 rfl (ft := ft48) 2 (by decide +kernel) (by rfl) fun {σ} Y st => ?_
  conv => whnf
  by_cases h : x = []
  · subst h
    conv => whnf
    exact RetA_view 0 rfl ⟨⟨rfl, rfl⟩, rfl⟩
  · have hl : 0 < x.length := List.length_pos_iff.2 h
    refine brk_i (fun h1 => absurd h1 (by simp [h])) (fun _ => ?_)
    conv => whnf
    refine chk_i (decide_eq_true (by rw [List.length_map]; omega)) ?_
    conv => whnf
    rw [List.length_map]
    have hm := Nat.mod_lt n hl
    have he : ((n : Int).tmod (x.length : Int)) = ((n % x.length : Nat) : Int) := by
      rw [Int.tmod_eq_emod_of_nonneg (by omega)]; omega
    rw [he]
    have hg : x[n % x.length]? = some (x[n % x.length]) := List.getElem?_eq_getElem hm
    refine elemK_nat hg ?_
    conv => whnf
    have hb := hx _ (List.mem_of_getElem? hg)
    have ht : turnF x n = x[n % x.length] := by
      unfold turnF
      rw [if_neg h, List.getD_eq_getElem?_getD, hg]; rfl
    rw [← ht] at hb ⊢
    refine arith_in (wrap_i64 (by (try dsimp only); omega)) ?_
    conv => whnf
    exact RetA_view 0 rfl ⟨⟨rfl, rfl⟩, rfl⟩

theorem turn_bd {x : List Int} (hx : ∀ b ∈ x, 0 ≤ b ∧ b ≤ 255) (n : Nat) : 0 ≤ turnF x n ∧ turnF x n ≤ 255 := by
  unfold turnF
  split
  · omega
  · rename_i h
    have hm := Nat.mod_lt n (List.length_pos_iff.2 h)
    rw [List.getD_eq_getElem?_getD, List.getElem?_eq_getElem hm]
    exact hx _ (List.getElem_mem _)

theorem wa47 (c : WCase) (hR : WR c) (x : List Int) (hx : ∀ b ∈ x, 0 ≤ b ∧ b ≤ 255) (begin : List (List Int)) (hb : begin.length ≤ 1000) (hbr : ∀ r ∈ begin, RowIn c r ∧ r.length < 1000000) (rows : Nat) (hrw : rows ≤ 1000) :
    FnV Try.prog 47 [c.d, rotaD begin, bytesD x, i64 rows] (rotaD (anyF c x (rows - begin.length) begin)) := by
  refine fnV_of mixed tysOk Try.func47 rfl (ft := ft47) 4 (by decide +kernel) (by rfl) fun {σ} Y st => ?_
  conv => whnf
  have hm := hR.men
  have hsl := hR.slots
  refine ownK_whole rfl ?_
  conv => whnf
  refine chk_i (by rw [Bool.and_eq_true]; exact ⟨lenAllD_map (fun _ => ⟨rfl, rfl⟩) _, rfl⟩) ?_
  conv => whnf
  refine chk_i (decide_eq_true (by
    show (0 + (begin.map fun r => [intsD r]).length) * 24 ≤ 140737488355328
    rw [List.length_map]; omega)) ?_
  conv => whnf
  generalize hM : anyF c x (rows - begin.length) begin = M
  refine LoopA_p (T := tys) tysOk (by exact drawsB_spec mixed tysOk (by decide +kernel)) (α := List (List Int)) (fun out => ⟨[(2, .d (bytesD x)), (3, .d (i64 rows)), (4, .ptr 4 0), (9, .sl 78 1 0 out.length)], [(4, .box (.dd c.cells)), (78, .arr 1 (.dd (out.map fun r => [intsD r])))], st⟩)
    (fun out => anyF c x (rows - out.length) out = M ∧ out.length ≤ 1000 ∧ ∀ r ∈ out, RowIn c r ∧ r.length < 1000000) (fun out => rows - out.length) begin
    ((Wk.move 17 78 rfl rfl).trans (Wk.sub ⟨rfl, rfl, rfl, ?_, trivial⟩ ⟨rfl, rfl, trivial⟩)) ⟨hM, hb, hbr⟩ ?_
  · show some (V.sl 78 1 0 (0 + (begin.map fun r => [intsD r]).length)) = some (V.sl 78 1 0 begin.length)
    simp
  clear hM hb hbr
  rintro out ⟨he, hol, hor⟩
  conv => whnf
  refine brk_i (fun h1 => ?_) (fun h1 => ?_)
  · have h1 : out.length < rows := by have := of_decide_eq_true h1; omega
    obtain ⟨k, hk⟩ : ∃ k, rows - out.length = k + 1 := ⟨rows - out.length - 1, by omega⟩
    rw [hk, anyF] at he
    obtain ⟨hs1, hs2, hs3⟩ := slot_men hR out.length
    have hkb := slotI_bd hR out.length
    conv => whnf
    refine chk_i (decide_eq_true (by rw [List.length_map]; omega)) ?_
    conv => whnf
    rw [List.length_map]
    have hkd : ((out.length : Int).tmod (c.slots.length : Int)) = slotI c out.length := rfl
    rw [hkd]
    refine elemK_i (slotOf c out.length).cells ⟨hkb.1, by simp [hs1]⟩ ?_
    conv => whnf
    have hmn : (((slotOf c out.length).men.toNat : Nat) : Int) = (slotOf c out.length).men := by omega
    refine DrawCall_rep (args' := [.d (intsD []), .d (i64 ((slotOf c out.length).men.toNat : Nat)), .d (i64 c.men.length)]) (fun yv L F w l h => by
      obtain ⟨x1, l1, rfl, h1, x2, l2, rfl, h2, x3, l3, rfl, h3, h4⟩ := h
      refine ⟨x1, _, rfl, RepD.relax .nils x1 h1, x2, _, rfl, ?_, x3, _, rfl, ?_, h4⟩
      · rw [hmn]; exact h2
      · have h3 : RepD F w (.int .i64 ((List.map Man.cells c.men).length : Int)) x3 := h3
        rw [List.length_map] at h3; exact h3) ?_
    refine DrawCall_v (ds := [intsD [], i64 ((slotOf c out.length).men.toNat : Nat), i64 c.men.length]) (wa70 c.men.length hm.2 (slotOf c out.length).men.toNat (by omega) [] (fun x hx => by cases hx) (by simp; omega)) rfl rfl ?_
    have hLok := lists_ok (below := c.men.length) (many := (slotOf c out.length).men.toNat) (p := []) (fun x hx => by cases hx)
    have hLn : (listsF c.men.length (slotOf c out.length).men.toNat []).length ≤ 25 := Nat.le_trans (listsF_many hm.2) (Nat.le_trans (Nat.pow_le_pow_right (by omega) (show (slotOf c out.length).men.toNat ≤ 2 by omega)) (by decide))
    have hC : canR c out = (listsF c.men.length (slotOf c out.length).men.toNat []).filter fun g => decide ((whyR c out g).1 = 0) := rfl
    generalize listsF c.men.length (slotOf c out.length).men.toNat [] = Ls at hLok hLn hC ⊢
    conv => whnf
    generalize hM : canR c out = Cn at he
    rw [hM] at hC
    refine LoopA_i (T := tys) tysOk (by exact drawsB_spec mixed tysOk (by decide +kernel)) Ls (fun i (acc : List (List Int)) => ⟨[(2, .d (bytesD x)), (3, .d (i64 rows)), (4, .ptr 4 0), (9, .sl 78 1 0 out.length), (10, .d (rotaD Ls)), (11, .sl 61 1 0 acc.length), (12, .d (i64 i))], [(4, .box (.dd c.cells)), (78, .arr 1 (.dd (out.map fun r => [intsD r]))), (61, .arr 1 (.dd (acc.map fun r => [intsD r])))], st⟩)
      (fun i r acc => acc.length ≤ i ∧ Cn = acc ++ r.filter fun g => decide ((whyR c out g).1 = 0)) [] ((Wk.born 11 61 1 rfl rfl rfl).trans (Wk.sub ⟨(by first | rfl | (simp only [List.length_map]; rfl) | simp [PX.get]), (by first | rfl | (simp only [List.length_map]; rfl) | simp [PX.get]), (by first | rfl | (simp only [List.length_map]; rfl) | simp [PX.get]), (by first | rfl | (simp only [List.length_map]; rfl) | simp [PX.get]), (by first | rfl | (simp only [List.length_map]; rfl) | simp [PX.get]), (by first | rfl | (simp only [List.length_map]; rfl) | simp [PX.get]), (by first | rfl | (simp only [List.length_map]; rfl) | simp [PX.get]), trivial⟩ ⟨(by first | rfl | (simp only [List.length_map]; rfl) | simp [PX.get]), (by first | rfl | (simp only [List.length_map]; rfl) | simp [PX.get]), (by first | rfl | (simp only [List.length_map]; rfl) | simp [PX.get]), trivial⟩)) ⟨by simp, hC⟩ ?_ ?_
    · rintro i x r acc hx hi hr2 ⟨hal, he⟩
      obtain ⟨hx1, hx2⟩ := hLok x (List.mem_of_getElem? hx)
      rw [List.filter_cons] at he
      conv => whnf
      refine brk_i (fun _ => ?_) (fun h => absurd hi (by have := of_decide_eq_false h; simp at this; omega))
      conv => whnf
      refine elemK_nat hx ?_
      conv => whnf
      refine DrawCall_view (ds := [c.d, rotaD out, intsD x]) (wa71 c hR out (by omega) (fun r h => (hor r h).2) x hx2 (by simp at hx1; omega)) rfl 1 (viewL_cons rfl (viewL_cons (viewV_sl rfl (by simp)) (viewL_cons rfl rfl))) ?_
      conv => whnf
      refine brk_i (fun h1 => ?_) (fun h1 => ?_)
      · rw [if_pos h1] at he
        conv => whnf
        refine elemK_nat hx ?_
        conv => whnf
        refine ownK_whole rfl ?_
        conv => whnf
        refine ownK_whole (by simp [Els.len]) ?_
        conv => whnf
        refine chk_i (decide_eq_true (by
          show ((acc.map fun r => [intsD r]).length + 1) * 24 ≤ 140737488355328
          rw [List.length_map]; omega)) ?_
        conv => whnf
        refine arith_in (wrap_i64 (by (try dsimp only); omega)) ?_
        conv => whnf
        refine ⟨acc ++ [x], ⟨by simp; omega, by rw [he]; simp⟩, Wk.sub ⟨rfl, rfl, rfl, rfl, rfl, ?_, rfl, trivial⟩ ⟨rfl, rfl, ?_, trivial⟩⟩
        · show some (V.sl 61 1 0 ((acc.map fun r => [intsD r]).length + 1)) = _
          simp
        · show some (Obj.arr 1 (Els.dd ((acc.map fun r => [intsD r]) ++ [[intsD x]]))) = _
          simp
      · rw [if_neg (by rw [h1]; simp)] at he
        conv => whnf
        refine arith_in (wrap_i64 (by (try dsimp only); omega)) ?_
        conv => whnf
        exact ⟨acc, ⟨by omega, he⟩, (Wk.sub ⟨(by first | rfl | (simp only [List.length_map]; rfl) | simp [PX.get]), (by first | rfl | (simp only [List.length_map]; rfl) | simp [PX.get]), (by first | rfl | (simp only [List.length_map]; rfl) | simp [PX.get]), (by first | rfl | (simp only [List.length_map]; rfl) | simp [PX.get]), (by first | rfl | (simp only [List.length_map]; rfl) | simp [PX.get]), (by first | rfl | (simp only [List.length_map]; rfl) | simp [PX.get]), (by first | rfl | (simp only [List.length_map]; rfl) | simp [PX.get]), trivial⟩ ⟨(by first | rfl | (simp only [List.length_map]; rfl) | simp [PX.get]), (by first | rfl | (simp only [List.length_map]; rfl) | simp [PX.get]), (by first | rfl | (simp only [List.length_map]; rfl) | simp [PX.get]), trivial⟩)⟩
    · rintro acc ⟨_, hf⟩
      have hf : Cn = acc := by simpa using hf
      subst hf
      have hCn : Cn.length ≤ 25 := by rw [hC]; exact Nat.le_trans (List.length_filter_le ..) hLn
      conv => whnf
      refine brk_i (fun h => absurd h (by simp)) (fun _ => ?_)
      conv => whnf
      refine brk_i (fun h2 => ?_) (fun h2 => ?_)
      · have h2 : Cn = [] := by have := of_decide_eq_true h2; exact List.length_eq_zero_iff.1 (by omega)
        rw [if_pos h2] at he
        rw [← he]
        conv => whnf
        refine RetA_view 1 (ds := [rotaD out]) ?_ ⟨⟨rfl, rfl⟩, rfl⟩
        exact viewL_cons (viewV_sl (es := out.map fun r => [intsD r]) rfl (by simp)) rfl
      · have h2 : Cn ≠ [] := by
          intro h; rw [h] at h2; simp at h2
        rw [if_neg h2] at he
        have hcl : 0 < Cn.length := List.length_pos_iff.2 h2
        have hp : pickF c x out = Cn.getD ((turnF x out.length).toNat % Cn.length) [] := by unfold pickF; rw [hM]
        rw [hp] at he
        conv => whnf
        refine CallA_v (ds := [bytesD x, i64 out.length]) (wa48 x hx out.length) rfl rfl ?_
        have htb := turn_bd hx out.length
        generalize turnF x out.length = tn at he htb ⊢
        conv => whnf
        refine chk_i (decide_eq_true (by omega)) ?_
        conv => whnf
        have hml := Nat.mod_lt tn.toNat hcl
        obtain ⟨tk, rfl⟩ : ∃ tk : Nat, tn = tk := ⟨tn.toNat, by omega⟩
        rw [Int.toNat_natCast] at hml he
        have hte : ((tk : Int).tmod (Cn.length : Int)) = ((tk % Cn.length : Nat) : Int) := by
          rw [Int.tmod_eq_emod_of_nonneg (by omega)]; omega
        rw [hte]
        obtain ⟨g, hgx⟩ : ∃ g, Cn[tk % Cn.length]? = some g := ⟨_, List.getElem?_eq_getElem hml⟩
        rw [List.getD_eq_getElem?_getD, hgx, Option.getD_some] at he
        have hgin : g ∈ Ls := by
          have h4 := List.mem_of_getElem? hgx
          rw [hC] at h4
          exact (List.mem_filter.1 h4).1
        obtain ⟨hg1, hg2⟩ := hLok g hgin
        refine chk_i (by simp; omega) ?_
        conv => whnf
        refine cellK_i [intsD g] (by rw [Nat.zero_add, Int.toNat_natCast, List.getElem?_map, hgx]; rfl) ?_
        conv => whnf
        refine ownK_whole rfl ?_
        conv => whnf
        refine ownK_whole (by simp [Els.len]) ?_
        conv => whnf
        refine chk_i (decide_eq_true (by
          show ((out.map fun r => [intsD r]).length + 1) * 24 ≤ 140737488355328
          rw [List.length_map]; omega)) ?_
        conv => whnf
        refine ⟨out ++ [g], by simp; omega, ⟨by rw [List.length_append, List.length_singleton, show rows - (out.length + 1) = k by omega]; exact he, by simp; omega, fun r hr => ?_⟩, Wk.sub ⟨rfl, rfl, rfl, ?_, trivial⟩ ⟨rfl, ?_, trivial⟩⟩
        · rcases List.mem_append.1 hr with hr | hr
          · exact hor r hr
          · rw [List.mem_singleton] at hr
            subst hr
            exact ⟨hg2, by simp at hg1; omega⟩
        · show some (V.sl 78 1 0 ((out.map fun r => [intsD r]).length + 1)) = _
          simp
        · show some (Obj.arr 1 (Els.dd ((out.map fun r => [intsD r]) ++ [[intsD g]]))) = _
          simp
  · have h1 : ¬ out.length < rows := by have := of_decide_eq_false h1; omega
    rw [show rows - out.length = 0 by omega] at he
    have he : out = M := he
    rw [← he]
    conv => whnf
    refine RetA_view 1 (ds := [rotaD out]) ?_ ⟨⟨rfl, rfl⟩, rfl⟩
    exact viewL_cons (viewV_sl (es := out.map fun r => [intsD r]) rfl (by simp)) rfl
end Go.PX
