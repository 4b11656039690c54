import Derived.Test.YtpocldjdlookjaaPxN
import Derived.Test.YtpocldjdlookjaaPxL
import Derived.RecoverIn
import Derived.Recover
set_option linter.all false
set_option maxRecDepth 10000
namespace Go.PX
open Go.Proofs
def InZ (c : WCase) (t : Tired) : Prop := ∀ j : Nat, c.men.length ≤ j → j < 5 → t.get j = 0
structure InV (c : WCase) (t : Tired) : Prop where
 u : InU c t
 z : InZ c t
theorem InV.zero {c : WCase} (hR : WR c) : InV c .zero := ⟨InU.zero hR, fun j _ hj => by
 have h2 : j = 0 ∨ j = 1 ∨ j = 2 ∨ j = 3 ∨ j = 4 := by omega
 rcases h2 with rfl | rfl | rfl | rfl | rfl <;> rfl⟩
theorem Tired.ext_get {t u : Tired} (hs : t.slot = u.slot) (h : ∀ j, j < 5 → t.get j = u.get j) : t = u := by
 have h0 := h 0 (by decide); have h1 := h 1 (by decide); have h2 := h 2 (by decide); have h3 := h 3 (by decide); have h4 := h 4 (by decide)
 cases t; cases u
 simp only [Tired.get] at h0 h1 h2 h3 h4
 simp only at hs
 subst hs h0 h1 h2 h3 h4
 rfl
def behT (c : WCase) (t : Tired) (g : List Int) (n : Nat) : Tired :=
 let f := fun (j : Nat) => if j < n then tireF c.rest (decide ((j : Int) ∈ g)) (t.get j) else 0
 ⟨(t.slot + 1).tmod c.slots.length, f 0, f 1, f 2, f 3, f 4⟩
theorem behT_get {c : WCase} {t : Tired} {g : List Int} {n j : Nat} (hj : j < 5) : (behT c t g n).get j = if j < n then tireF c.rest (decide ((j : Int) ∈ g)) (t.get j) else 0 := by
 have h2 : j = 0 ∨ j = 1 ∨ j = 2 ∨ j = 3 ∨ j = 4 := by omega
 rcases h2 with rfl | rfl | rfl | rfl | rfl <;> rfl
theorem behT_succ {c : WCase} {t : Tired} {g : List Int} {n : Nat} (hn : n < 5) : behT c t g (n + 1) = (behT c t g n).set n (tireF c.rest (decide ((n : Int) ∈ g)) (t.get n)) := by
 refine Tired.ext_get ?_ fun j hj => ?_
 ·rw [set_slot]; rfl
 ·rw [set_get _ _ hn hj, behT_get hj, behT_get hj]
  by_cases h : j = n
  ·subst h
   rw [if_pos (by omega), if_pos rfl]
  ·rw [if_neg h]
   by_cases h2 : j < n
   ·rw [if_pos h2, if_pos (by omega)]
   ·rw [if_neg h2, if_neg (by omega)]
theorem behT_eq {c : WCase} (hR : WR c) {t : Tired} (hz : InZ c t) {g : List Int} : behT c t g c.men.length = behindF c t g := by
 refine Tired.ext_get ?_ fun j hj => ?_
 ·unfold behindF
  rw [tireTo_slot]; rfl
 ·rw [behT_get hj, behind_get hR hj]
  by_cases h : j < c.men.length
  ·rw [if_pos h, if_pos h]
  ·rw [if_neg h, if_neg h, hz j (by omega) hj]
theorem InZ.behind {c : WCase} (hR : WR c) {t : Tired} (hz : InZ c t) (g : List Int) : InZ c (behindF c t g) := fun j h1 h2 => by
 rw [behind_get hR h2, if_neg (by omega)]
 exact hz j h1 h2
def mayR (c : WCase) (men : List Int) (t : Tired) (m : Int) : Bool := decide (m ∈ men) && !decide (t.slot ∈ (manAt c m).no) && decide (t.get m.toNat ≥ 0) && decide (t.get m.toNat < c.run)
def knowR (c : WCase) (t : Tired) (m : Int) : Bool := decide ((manAt c m).kind ≥ (slotAt c t).least)
def canS (c : WCase) (men : List Int) (t : Tired) : List (List Int) := (listsF c.men.length (slotAt c t).men.toNat []).filter fun g => g.any (knowR c t) && g.all (mayR c men t)
def SameSet (c : WCase) (men : List Int) (set : Int) : Prop := ∀ m : Int, 0 ≤ m → m < c.men.length → (m ∈ men ↔ inSet set m = true)
theorem slotAt_men {c : WCase} (hR : WR c) {t : Tired} (ht : InU c t) : c.slots[t.slot.toNat]? = some (slotAt c t) ∧ 1 ≤ (slotAt c t).men ∧ (slotAt c t).men ≤ 2 := by
 have h0 := ht.slot
 have h1 : c.slots[t.slot.toNat]? = some (c.slots[t.slot.toNat]'(by omega)) := List.getElem?_eq_getElem _
 have h2 : slotAt c t = c.slots[t.slot.toNat]'(by omega) := by unfold slotAt; rw [h1]; rfl
 rw [h2]
 have := (hR.slot _ (List.mem_of_getElem? h1)).1
 exact ⟨h1, this.1, this.2⟩
theorem canS_eq {c : WCase} (hR : WR c) {men : List Int} {set : Int} (hs : SameSet c men set) {t : Tired} (ht : InU c t) : canS c men t = (groupsF c set t).map (·.1) := by
 unfold canS groupsF
 rw [groups_lists (p := []) (start := 0) rfl, List.map_map]
 rw [show (List.map ((fun (x : List Int × Tired) => x.1) ∘ fun g => (g, behindF c t g))) = List.map id from rfl, List.map_id]
 refine List.filter_congr fun g hg => ?_
 obtain ⟨h1, h2⟩ := lists_ok (p := []) (fun x hx => by cases hx) g hg
 obtain ⟨_, hm1, _⟩ := slotAt_men hR ht
 have hlen : (g.length : Int) = (slotAt c t).men := by
  rw [h1]; simp; omega
 rw [Bool.eq_iff_iff, decide_eq_true_iff]
 constructor
 ·intro h
  rw [Bool.and_eq_true, List.any_eq_true, List.all_eq_true] at h
  obtain ⟨⟨x, hx, hk⟩, ha⟩ := h
  have hmay : ∀ m ∈ g, m ∈ men ∧ t.slot ∉ (manAt c m).no ∧ 0 ≤ t.get m.toNat ∧ t.get m.toNat < c.run := fun m hm => by
   have := ha m hm
   unfold mayR at this
   simp only [Bool.and_eq_true, decide_eq_true_eq, Bool.not_eq_true', decide_eq_false_iff_not] at this
   exact ⟨this.1.1.1, this.1.1.2, this.1.2, this.2⟩
  exact why_of hlen ⟨x, hx, of_decide_eq_true hk⟩ (fun m hm => ⟨(hs m (h2 m hm).1 (h2 m hm).2).1 (hmay m hm).1, (hmay m hm).2.1⟩) (fun m hm => (hmay m hm).2.2.2) (fun m hm => (hmay m hm).2.2.1)
 ·intro h
  obtain ⟨_, ⟨x, hx, hk⟩, h3, h4, h5⟩ := why_zero h
  rw [Bool.and_eq_true, List.any_eq_true, List.all_eq_true]
  refine ⟨⟨x, hx, decide_eq_true hk⟩, fun m hm => ?_⟩
  unfold mayR
  simp only [Bool.and_eq_true, decide_eq_true_eq, Bool.not_eq_true', decide_eq_false_iff_not]
  exact ⟨⟨⟨(hs m (h2 m hm).1 (h2 m hm).2).2 (h3 m hm).1, (h3 m hm).2⟩, h5 m hm⟩, h4 m hm⟩
def sucS (c : WCase) (men : List Int) (t : Tired) : List Tired := (canS c men t).map (behindF c t)
theorem sucS_eq {c : WCase} (hR : WR c) {men : List Int} {set : Int} (hs : SameSet c men set) {t : Tired} (ht : InU c t) : sucS c men t = succF c set t := by
 unfold sucS succF
 rw [canS_eq hR hs ht, List.map_map]
 refine List.map_congr_left fun x hx => ?_
 exact (groupsL_ok hx).2.symm
def codT (t : Tired) : Int := 8 * (8 * (8 * (8 * (8 * t.slot + t.m0 + 3) + t.m1 + 3) + t.m2 + 3) + t.m3 + 3) + t.m4 + 3
def codN (t : Tired) : Nat := (codT t).toNat
def manyN : Nat := 196608
theorem codT_bd {c : WCase} (hR : WR c) {t : Tired} (ht : InU c t) : 0 ≤ codT t ∧ codT t < 196608 := by
 have hs := hR.slots
 have h0 := ht.m 0 (by decide); have h1 := ht.m 1 (by decide); have h2 := ht.m 2 (by decide); have h3 := ht.m 3 (by decide); have h4 := ht.m 4 (by decide)
 have h5 := ht.slot
 simp only [Tired.get] at h0 h1 h2 h3 h4
 unfold codT
 omega
theorem codN_lt {c : WCase} (hR : WR c) (t : Tired) (ht : InV c t) : codN t < manyN := by
 have := codT_bd hR ht.u
 unfold codN manyN; omega
theorem split8 {x y a b : Int} (ha : -2 ≤ a ∧ a ≤ 3) (hb : -2 ≤ b ∧ b ≤ 3) (h : 8 * x + a + 3 = 8 * y + b + 3) : x = y ∧ a = b := by omega
theorem codN_inj {c : WCase} (hR : WR c) (t u : Tired) (ht : InV c t) (hu : InV c u) (h : codN t = codN u) : t = u := by
 have e : codT t = codT u := by
  have h1 := codT_bd hR ht.u
  have h2 := codT_bd hR hu.u
  unfold codN at h; omega
 have t0 := ht.u.m 0 (by decide); have t1 := ht.u.m 1 (by decide); have t2 := ht.u.m 2 (by decide); have t3 := ht.u.m 3 (by decide); have t4 := ht.u.m 4 (by decide)
 have u0 := hu.u.m 0 (by decide); have u1 := hu.u.m 1 (by decide); have u2 := hu.u.m 2 (by decide); have u3 := hu.u.m 3 (by decide); have u4 := hu.u.m 4 (by decide)
 unfold codT at e
 obtain ⟨e, e4⟩ := split8 t4 u4 e
 obtain ⟨e, e3⟩ := split8 t3 u3 e
 obtain ⟨e, e2⟩ := split8 t2 u2 e
 obtain ⟨e, e1⟩ := split8 t1 u1 e
 obtain ⟨e, e0⟩ := split8 t0 u0 e
 refine Tired.ext_get e fun j hj => ?_
 have h2 : j = 0 ∨ j = 1 ∨ j = 2 ∨ j = 3 ∨ j = 4 := by omega
 rcases h2 with rfl | rfl | rfl | rfl | rfl
 ·exact e0
 ·exact e1
 ·exact e2
 ·exact e3
 ·exact e4
theorem suc_InV {c : WCase} (hR : WR c) {men : List Int} {set : Int} (hs : SameSet c men set) (t : Tired) (ht : InV c t) : ∀ u ∈ sucS c men t, InV c u := by
 intro u hu
 rw [sucS_eq hR hs ht.u] at hu
 obtain ⟨x, hx, rfl⟩ := List.mem_map.1 hu
 refine ⟨groups_InU hR ht.u hx, ?_⟩
 rw [(groupsL_ok hx).2]
 exact ht.z.behind hR _
theorem dead_eq {c : WCase} (hR : WR c) {men : List Int} {set : Int} (hs : SameSet c men set) : ∀ (m : Nat) (t : Tired), InV c t → (KN.deadS (sucS c men) m t ↔ deadN c set m t)
 | 0, _, _ => Iff.rfl
 | m + 1, t, ht => by
  rw [KN.deadS, deadN, ← sucS_eq hR hs ht.u]
  exact ⟨fun h u hu => (dead_eq hR hs m u (suc_InV hR hs t ht u hu)).1 (h u hu), fun h u hu => (dead_eq hR hs m u (suc_InV hR hs t ht u hu)).2 (h u hu)⟩
theorem hgt_same {c : WCase} (hR : WR c) {men : List Int} {set : Int} (hs : SameSet c men set) : ∀ (m : Nat) (t : Tired), InV c t → KN.hgtS (sucS c men) m t = hgtN c set m t
 | 0, _, _ => rfl
 | m + 1, t, ht => by
  rw [KN.hgtS, hgtN, ← sucS_eq hR hs ht.u]
  refine foldl_congr fun u hu y => ?_
  rw [hgt_same hR hs m u (suc_InV hR hs t ht u hu), Int.add_comm]
structure WebR (c : WCase) (men : List Int) where
 w : KN.WS Tired
 b : List (List Nat)
 line : List Nat
 H : List Int
 done : KN.WDone (sucS c men) codN manyN (InV c) w b
 full : b.length = w.sts.length
 kahn : KN.Kahn w.sts.length b H line
 zero : w.sts[0]? = some .zero
 few : w.sts.length ≤ 46656
theorem WebR.height {c : WCase} (hR : WR c) {men : List Int} {set : Int} (hs : SameSet c men set) (W : WebR c men) {i : Nat} {t : Tired} (hi : W.w.sts[i]? = some t) :
  (endB c set t = false ∧ KN.atI W.H i = hgtN c set fuelW t) ∨ (endB c set t = true ∧ KN.atI W.H i = -1) := by
 have ht := W.done.ok.inU t (List.mem_of_getElem? hi)
 rcases W.done.law W.full W.kahn hi with ⟨m, hm, h1, h2⟩ | ⟨h1, h2⟩
 ·have h3 := (dead_eq hR hs m t ht).1 h1
  refine .inl ⟨?_, ?_⟩
  ·cases hb : endB c set t with
   | false => rfl
   | true => exact absurd h3 ((endB_iff hR ht.u).1 hb m)
  ·rw [h2, hgt_same hR hs m t ht]
   have := W.few
   exact (hgt_le h3 (by unfold fuelW; omega)).symm
 ·refine .inr ⟨(endB_iff hR ht.u).2 fun m hd => h2 m ((dead_eq hR hs m t ht).2 hd), h1⟩
theorem WebR.neg {c : WCase} (hR : WR c) {men : List Int} {set : Int} (hs : SameSet c men set) (W : WebR c men) {i : Nat} {t : Tired} (hi : W.w.sts[i]? = some t) : KN.atI W.H i < 0 ↔ endB c set t = true := by
 rcases W.height hR hs hi with ⟨h1, h2⟩ | ⟨h1, h2⟩
 ·rw [h1, h2]
  have := hgt_bd (c := c) (set := set) fuelW t
  constructor
  ·intro h; omega
  ·intro h; cases h
 ·rw [h1, h2]; simp
end Go.PX
namespace Go.PX
open Go.Proofs
def codP (t : Tired) : Nat → Int
 | 0 => t.slot
 | n + 1 => 8 * codP t n + t.get n + 3
theorem codP_5 (t : Tired) : codP t 5 = codT t := by
 simp only [codP, codT, Tired.get]
theorem wa98 (t : Tired) (ht : TOk t) : FnV Try.prog 98 [t.d] (i64 (codT t)) := by
 refine fnV_of mixed tysOk Try.func98 rfl (ft := ft98) 1 (by decide +kernel) (by rfl) fun {σ} Y st => ?_
 conv=>whnf
 obtain ⟨hts, ht0, ht1, ht2, ht3, ht4⟩ := ht
 refine LoopA_p (T := tys) tysOk (by exact drawsB_spec mixed tysOk (by decide +kernel)) (α := Nat × Int) (fun x => ⟨[(1, .ptr 1 0), (2, .d (i64 0)), (3, .d (i64 x.2)), (4, .d (i64 x.1))], [(1, .box (.dd t.cells))], st⟩) (fun x => x.1 ≤ 5 ∧ x.2 = codP t x.1 ∧ (-1000000000 + 100000000 * (x.1 : Int) ≤ 0 ∧ x.2 ≤ 2000 * 10 ^ x.1 ∧ -(2000 * 10 ^ x.1) ≤ x.2)) (fun x => 5 - x.1) (0, t.slot) (Wk.sub (by repeat' first|exact trivial|refine⟨?_,?_⟩|rfl|(simp only[List.length_map];rfl)|simp[PX.get]) ⟨(by first | rfl | (simp only [List.length_map]; rfl) | simp [PX.get]), trivial⟩) ⟨by simp, rfl, by simp; omega⟩ ?_
 rintro ⟨i, n⟩ ⟨hi, hn, hb⟩
 simp only at hi hn hb
 have h6 : i = 0 ∨ i = 1 ∨ i = 2 ∨ i = 3 ∨ i = 4 ∨ i = 5 := by omega
 rcases h6 with rfl | rfl | rfl | rfl | rfl | rfl
 ·have hn2 : 8 * n + t.m0 + 3 = codP t 1 := by rw [hn]; rfl
  clear hn
  conv=>whnf
  refine arith_in (wrap_i64 (by (try dsimp only); omega)) ?_
  conv=>whnf
  refine arith_in (wrap_i64 (by (try dsimp only); omega)) ?_
  conv=>whnf
  refine arith_in (wrap_i64 (by (try dsimp only); omega)) ?_
  conv=>whnf
  exact ⟨(1, 8 * n + t.m0 + 3), by simp only; omega, ⟨by simp only; omega, hn2, by simp only; omega⟩, (Wk.sub (by repeat' first|exact trivial|refine⟨?_,?_⟩|rfl|(simp only[List.length_map];rfl)|simp[PX.get]) ⟨(by first | rfl | (simp only [List.length_map]; rfl) | simp [PX.get]), trivial⟩)⟩
 ·have hn2 : 8 * n + t.m1 + 3 = codP t 2 := by rw [hn]; rfl
  clear hn
  conv=>whnf
  refine arith_in (wrap_i64 (by (try dsimp only); omega)) ?_
  conv=>whnf
  refine arith_in (wrap_i64 (by (try dsimp only); omega)) ?_
  conv=>whnf
  refine arith_in (wrap_i64 (by (try dsimp only); omega)) ?_
  conv=>whnf
  exact ⟨(2, 8 * n + t.m1 + 3), by simp only; omega, ⟨by simp only; omega, hn2, by simp only; omega⟩, (Wk.sub (by repeat' first|exact trivial|refine⟨?_,?_⟩|rfl|(simp only[List.length_map];rfl)|simp[PX.get]) ⟨(by first | rfl | (simp only [List.length_map]; rfl) | simp [PX.get]), trivial⟩)⟩
 ·have hn2 : 8 * n + t.m2 + 3 = codP t 3 := by rw [hn]; rfl
  clear hn
  conv=>whnf
  refine arith_in (wrap_i64 (by (try dsimp only); omega)) ?_
  conv=>whnf
  refine arith_in (wrap_i64 (by (try dsimp only); omega)) ?_
  conv=>whnf
  refine arith_in (wrap_i64 (by (try dsimp only); omega)) ?_
  conv=>whnf
  exact ⟨(3, 8 * n + t.m2 + 3), by simp only; omega, ⟨by simp only; omega, hn2, by simp only; omega⟩, (Wk.sub (by repeat' first|exact trivial|refine⟨?_,?_⟩|rfl|(simp only[List.length_map];rfl)|simp[PX.get]) ⟨(by first | rfl | (simp only [List.length_map]; rfl) | simp [PX.get]), trivial⟩)⟩
 ·have hn2 : 8 * n + t.m3 + 3 = codP t 4 := by rw [hn]; rfl
  clear hn
  conv=>whnf
  refine arith_in (wrap_i64 (by (try dsimp only); omega)) ?_
  conv=>whnf
  refine arith_in (wrap_i64 (by (try dsimp only); omega)) ?_
  conv=>whnf
  refine arith_in (wrap_i64 (by (try dsimp only); omega)) ?_
  conv=>whnf
  exact ⟨(4, 8 * n + t.m3 + 3), by simp only; omega, ⟨by simp only; omega, hn2, by simp only; omega⟩, (Wk.sub (by repeat' first|exact trivial|refine⟨?_,?_⟩|rfl|(simp only[List.length_map];rfl)|simp[PX.get]) ⟨(by first | rfl | (simp only [List.length_map]; rfl) | simp [PX.get]), trivial⟩)⟩
 ·have hn2 : 8 * n + t.m4 + 3 = codP t 5 := by rw [hn]; rfl
  clear hn
  conv=>whnf
  refine arith_in (wrap_i64 (by (try dsimp only); omega)) ?_
  conv=>whnf
  refine arith_in (wrap_i64 (by (try dsimp only); omega)) ?_
  conv=>whnf
  refine arith_in (wrap_i64 (by (try dsimp only); omega)) ?_
  conv=>whnf
  exact ⟨(5, 8 * n + t.m4 + 3), by simp only; omega, ⟨by simp only; omega, hn2, by simp only; omega⟩, (Wk.sub (by repeat' first|exact trivial|refine⟨?_,?_⟩|rfl|(simp only[List.length_map];rfl)|simp[PX.get]) ⟨(by first | rfl | (simp only [List.length_map]; rfl) | simp [PX.get]), trivial⟩)⟩
 ·conv=>whnf
  rw [← codP_5, ← hn]
  exact RetA_view 0 rfl ⟨⟨rfl, rfl⟩, rfl⟩
theorem wa78 (c : WCase) (hR : WR c) (t : Tired) (ht : TOk t) (hz : InZ c t) (group : List Int) (hg : group.length < 4000000000000000000) : FnV Try.prog 78 [c.d, t.d, intsD group] (behindF c t group).d := by
 refine fnV_of mixed tysOk Try.func78 rfl (ft := ft78) 3 (by decide +kernel) (by rfl) fun {σ} Y st => ?_
 conv=>whnf
 rw [← behT_eq hR hz]
 obtain ⟨hts, ht0, ht1, ht2, ht3, ht4⟩ := ht
 have hm := hR.men
 have hs := hR.slots
 have hr := hR.rest
 refine arith_in (wrap_i64 (by (try dsimp only); omega)) ?_
 conv=>whnf
 refine chk_i (decide_eq_true (by rw [List.length_map]; omega)) ?_
 conv=>whnf
 rw [List.length_map]
 refine LoopA_i (T := tys) tysOk (by exact drawsB_spec mixed tysOk (by decide +kernel)) c.men (fun i (_ : Unit) => ⟨[(2, .d (intsD group)), (3, .ptr 3 0), (4, .ptr 4 0), (6, .ptr 6 0), (7, .ptr 7 0), (8, .d (i64 i))], [(3, .box (.dd c.cells)), (4, .box (.dd t.cells)), (7, .box (.dd (behT c t group i).cells)), (6, .box (.dd Tired.zero.cells))], st⟩) (fun i r _ => True) () (Wk.sub (by repeat' first|exact trivial|refine⟨?_,?_⟩|rfl|(simp only[List.length_map];rfl)|simp[PX.get]) (by repeat' first|exact trivial|refine⟨?_,?_⟩|rfl|(simp only[List.length_map];rfl)|simp[PX.get])) trivial ?_ ?_
 ·intro i x r _ hx hi hr' _
  have h5 : i = 0 ∨ i = 1 ∨ i = 2 ∨ i = 3 ∨ i = 4 := by omega
  have hnx : behT c t group (i + 1) = (behT c t group i).set i (tireF c.rest (decide ((i : Int) ∈ group)) (t.get i)) := behT_succ (by omega)
  rcases h5 with rfl | rfl | rfl | rfl | rfl
  ·conv=>whnf
   refine brk_i (fun _ => ?_) (fun h => absurd hi (by have := of_decide_eq_false h; rw [List.length_map] at this; omega))
   conv=>whnf
   refine CallA_v (wa49 group _ hg) rfl rfl ?_
   conv=>whnf
   refine brk_i (fun h1 => ?_) (fun h1 => ?_)
   ·rw [h1] at hnx
    conv=>whnf
    repeat' (first
     | (refine arith_in (wrap_i64 (by (try dsimp only); omega)) ?_; conv=>whnf)
     | (refine elemK_nat (by assumption) ?_; conv=>whnf)
     | (refine ownK_whole (by first | rfl | assumption | (simp [Els.len]; done) | (simp [Els.len]; omega)) ?_; conv=>whnf)
     | (refine chk_i (by first | (exact decide_eq_true (by (try simp only [List.length_map]); omega)) | (simp [Els.len, Els.cons, V.cells, Els.toV, injL]; done) | (simp [Els.len, Els.cons, V.cells, Els.toV, injL]; omega)) ?_; conv=>whnf)
     | fail)
    exact ⟨(), trivial, Wk.sub ⟨rfl, rfl, rfl, rfl, rfl, rfl, trivial⟩ ⟨rfl, rfl, by rw [hnx]; rfl, rfl, trivial⟩⟩
   rw [h1] at hnx
   conv=>whnf
   refine brk_i (fun h2 => ?_) (fun h2 => ?_)
   ·have h2 : t.get 0 > 0 := of_decide_eq_true h2
    have hv : tireF c.rest false (t.get 0) = 1 - c.rest := by simp [tireF, h2]
    rw [hv] at hnx
    conv=>whnf
    repeat' (first
     | (refine arith_in (wrap_i64 (by (try dsimp only); omega)) ?_; conv=>whnf)
     | (refine elemK_nat (by assumption) ?_; conv=>whnf)
     | (refine ownK_whole (by first | rfl | assumption | (simp [Els.len]; done) | (simp [Els.len]; omega)) ?_; conv=>whnf)
     | (refine chk_i (by first | (exact decide_eq_true (by (try simp only [List.length_map]); omega)) | (simp [Els.len, Els.cons, V.cells, Els.toV, injL]; done) | (simp [Els.len, Els.cons, V.cells, Els.toV, injL]; omega)) ?_; conv=>whnf)
     | fail)
    exact ⟨(), trivial, Wk.sub ⟨rfl, rfl, rfl, rfl, rfl, rfl, trivial⟩ ⟨rfl, rfl, by rw [hnx]; rfl, rfl, trivial⟩⟩
   have h2 : ¬ t.get 0 > 0 := of_decide_eq_false h2
   conv=>whnf
   refine brk_i (fun h3 => ?_) (fun h3 => ?_)
   ·have h3 : t.get 0 < 0 := of_decide_eq_true h3
    have hv : tireF c.rest false (t.get 0) = t.get 0 + 1 := by simp [tireF, h2, h3]
    rw [hv] at hnx
    conv=>whnf
    repeat' (first
     | (refine arith_in (wrap_i64 (by (try dsimp only); omega)) ?_; conv=>whnf)
     | (refine elemK_nat (by assumption) ?_; conv=>whnf)
     | (refine ownK_whole (by first | rfl | assumption | (simp [Els.len]; done) | (simp [Els.len]; omega)) ?_; conv=>whnf)
     | (refine chk_i (by first | (exact decide_eq_true (by (try simp only [List.length_map]); omega)) | (simp [Els.len, Els.cons, V.cells, Els.toV, injL]; done) | (simp [Els.len, Els.cons, V.cells, Els.toV, injL]; omega)) ?_; conv=>whnf)
     | fail)
    exact ⟨(), trivial, Wk.sub ⟨rfl, rfl, rfl, rfl, rfl, rfl, trivial⟩ ⟨rfl, rfl, by rw [hnx]; rfl, rfl, trivial⟩⟩
   have h3 : ¬ t.get 0 < 0 := of_decide_eq_false h3
   have hv : tireF c.rest false (t.get 0) = t.get 0 := by simp [tireF, h2, h3]
   rw [hv] at hnx
   conv=>whnf
   repeat' (first
    | (refine arith_in (wrap_i64 (by (try dsimp only); omega)) ?_; conv=>whnf)
    | (refine elemK_nat (by assumption) ?_; conv=>whnf)
    | (refine ownK_whole (by first | rfl | assumption | (simp [Els.len]; done) | (simp [Els.len]; omega)) ?_; conv=>whnf)
    | (refine chk_i (by first | (exact decide_eq_true (by (try simp only [List.length_map]); omega)) | (simp [Els.len, Els.cons, V.cells, Els.toV, injL]; done) | (simp [Els.len, Els.cons, V.cells, Els.toV, injL]; omega)) ?_; conv=>whnf)
    | fail)
   exact ⟨(), trivial, Wk.sub ⟨rfl, rfl, rfl, rfl, rfl, rfl, trivial⟩ ⟨rfl, rfl, by rw [hnx]; rfl, rfl, trivial⟩⟩
  ·conv=>whnf
   refine brk_i (fun _ => ?_) (fun h => absurd hi (by have := of_decide_eq_false h; rw [List.length_map] at this; omega))
   conv=>whnf
   refine CallA_v (wa49 group _ hg) rfl rfl ?_
   conv=>whnf
   refine brk_i (fun h1 => ?_) (fun h1 => ?_)
   ·rw [h1] at hnx
    conv=>whnf
    repeat' (first
     | (refine arith_in (wrap_i64 (by (try dsimp only); omega)) ?_; conv=>whnf)
     | (refine elemK_nat (by assumption) ?_; conv=>whnf)
     | (refine ownK_whole (by first | rfl | assumption | (simp [Els.len]; done) | (simp [Els.len]; omega)) ?_; conv=>whnf)
     | (refine chk_i (by first | (exact decide_eq_true (by (try simp only [List.length_map]); omega)) | (simp [Els.len, Els.cons, V.cells, Els.toV, injL]; done) | (simp [Els.len, Els.cons, V.cells, Els.toV, injL]; omega)) ?_; conv=>whnf)
     | fail)
    exact ⟨(), trivial, Wk.sub ⟨rfl, rfl, rfl, rfl, rfl, rfl, trivial⟩ ⟨rfl, rfl, by rw [hnx]; rfl, rfl, trivial⟩⟩
   rw [h1] at hnx
   conv=>whnf
   refine brk_i (fun h2 => ?_) (fun h2 => ?_)
   ·have h2 : t.get 1 > 0 := of_decide_eq_true h2
    have hv : tireF c.rest false (t.get 1) = 1 - c.rest := by simp [tireF, h2]
    rw [hv] at hnx
    conv=>whnf
    repeat' (first
     | (refine arith_in (wrap_i64 (by (try dsimp only); omega)) ?_; conv=>whnf)
     | (refine elemK_nat (by assumption) ?_; conv=>whnf)
     | (refine ownK_whole (by first | rfl | assumption | (simp [Els.len]; done) | (simp [Els.len]; omega)) ?_; conv=>whnf)
     | (refine chk_i (by first | (exact decide_eq_true (by (try simp only [List.length_map]); omega)) | (simp [Els.len, Els.cons, V.cells, Els.toV, injL]; done) | (simp [Els.len, Els.cons, V.cells, Els.toV, injL]; omega)) ?_; conv=>whnf)
     | fail)
    exact ⟨(), trivial, Wk.sub ⟨rfl, rfl, rfl, rfl, rfl, rfl, trivial⟩ ⟨rfl, rfl, by rw [hnx]; rfl, rfl, trivial⟩⟩
   have h2 : ¬ t.get 1 > 0 := of_decide_eq_false h2
   conv=>whnf
   refine brk_i (fun h3 => ?_) (fun h3 => ?_)
   ·have h3 : t.get 1 < 0 := of_decide_eq_true h3
    have hv : tireF c.rest false (t.get 1) = t.get 1 + 1 := by simp [tireF, h2, h3]
    rw [hv] at hnx
    conv=>whnf
    repeat' (first
     | (refine arith_in (wrap_i64 (by (try dsimp only); omega)) ?_; conv=>whnf)
     | (refine elemK_nat (by assumption) ?_; conv=>whnf)
     | (refine ownK_whole (by first | rfl | assumption | (simp [Els.len]; done) | (simp [Els.len]; omega)) ?_; conv=>whnf)
     | (refine chk_i (by first | (exact decide_eq_true (by (try simp only [List.length_map]); omega)) | (simp [Els.len, Els.cons, V.cells, Els.toV, injL]; done) | (simp [Els.len, Els.cons, V.cells, Els.toV, injL]; omega)) ?_; conv=>whnf)
     | fail)
    exact ⟨(), trivial, Wk.sub ⟨rfl, rfl, rfl, rfl, rfl, rfl, trivial⟩ ⟨rfl, rfl, by rw [hnx]; rfl, rfl, trivial⟩⟩
   have h3 : ¬ t.get 1 < 0 := of_decide_eq_false h3
   have hv : tireF c.rest false (t.get 1) = t.get 1 := by simp [tireF, h2, h3]
   rw [hv] at hnx
   conv=>whnf
   repeat' (first
    | (refine arith_in (wrap_i64 (by (try dsimp only); omega)) ?_; conv=>whnf)
    | (refine elemK_nat (by assumption) ?_; conv=>whnf)
    | (refine ownK_whole (by first | rfl | assumption | (simp [Els.len]; done) | (simp [Els.len]; omega)) ?_; conv=>whnf)
    | (refine chk_i (by first | (exact decide_eq_true (by (try simp only [List.length_map]); omega)) | (simp [Els.len, Els.cons, V.cells, Els.toV, injL]; done) | (simp [Els.len, Els.cons, V.cells, Els.toV, injL]; omega)) ?_; conv=>whnf)
    | fail)
   exact ⟨(), trivial, Wk.sub ⟨rfl, rfl, rfl, rfl, rfl, rfl, trivial⟩ ⟨rfl, rfl, by rw [hnx]; rfl, rfl, trivial⟩⟩
  ·conv=>whnf
   refine brk_i (fun _ => ?_) (fun h => absurd hi (by have := of_decide_eq_false h; rw [List.length_map] at this; omega))
   conv=>whnf
   refine CallA_v (wa49 group _ hg) rfl rfl ?_
   conv=>whnf
   refine brk_i (fun h1 => ?_) (fun h1 => ?_)
   ·rw [h1] at hnx
    conv=>whnf
    repeat' (first
     | (refine arith_in (wrap_i64 (by (try dsimp only); omega)) ?_; conv=>whnf)
     | (refine elemK_nat (by assumption) ?_; conv=>whnf)
     | (refine ownK_whole (by first | rfl | assumption | (simp [Els.len]; done) | (simp [Els.len]; omega)) ?_; conv=>whnf)
     | (refine chk_i (by first | (exact decide_eq_true (by (try simp only [List.length_map]); omega)) | (simp [Els.len, Els.cons, V.cells, Els.toV, injL]; done) | (simp [Els.len, Els.cons, V.cells, Els.toV, injL]; omega)) ?_; conv=>whnf)
     | fail)
    exact ⟨(), trivial, Wk.sub ⟨rfl, rfl, rfl, rfl, rfl, rfl, trivial⟩ ⟨rfl, rfl, by rw [hnx]; rfl, rfl, trivial⟩⟩
   rw [h1] at hnx
   conv=>whnf
   refine brk_i (fun h2 => ?_) (fun h2 => ?_)
   ·have h2 : t.get 2 > 0 := of_decide_eq_true h2
    have hv : tireF c.rest false (t.get 2) = 1 - c.rest := by simp [tireF, h2]
    rw [hv] at hnx
    conv=>whnf
    repeat' (first
     | (refine arith_in (wrap_i64 (by (try dsimp only); omega)) ?_; conv=>whnf)
     | (refine elemK_nat (by assumption) ?_; conv=>whnf)
     | (refine ownK_whole (by first | rfl | assumption | (simp [Els.len]; done) | (simp [Els.len]; omega)) ?_; conv=>whnf)
     | (refine chk_i (by first | (exact decide_eq_true (by (try simp only [List.length_map]); omega)) | (simp [Els.len, Els.cons, V.cells, Els.toV, injL]; done) | (simp [Els.len, Els.cons, V.cells, Els.toV, injL]; omega)) ?_; conv=>whnf)
     | fail)
    exact ⟨(), trivial, Wk.sub ⟨rfl, rfl, rfl, rfl, rfl, rfl, trivial⟩ ⟨rfl, rfl, by rw [hnx]; rfl, rfl, trivial⟩⟩
   have h2 : ¬ t.get 2 > 0 := of_decide_eq_false h2
   conv=>whnf
   refine brk_i (fun h3 => ?_) (fun h3 => ?_)
   ·have h3 : t.get 2 < 0 := of_decide_eq_true h3
    have hv : tireF c.rest false (t.get 2) = t.get 2 + 1 := by simp [tireF, h2, h3]
    rw [hv] at hnx
    conv=>whnf
    repeat' (first
     | (refine arith_in (wrap_i64 (by (try dsimp only); omega)) ?_; conv=>whnf)
     | (refine elemK_nat (by assumption) ?_; conv=>whnf)
     | (refine ownK_whole (by first | rfl | assumption | (simp [Els.len]; done) | (simp [Els.len]; omega)) ?_; conv=>whnf)
     | (refine chk_i (by first | (exact decide_eq_true (by (try simp only [List.length_map]); omega)) | (simp [Els.len, Els.cons, V.cells, Els.toV, injL]; done) | (simp [Els.len, Els.cons, V.cells, Els.toV, injL]; omega)) ?_; conv=>whnf)
     | fail)
    exact ⟨(), trivial, Wk.sub ⟨rfl, rfl, rfl, rfl, rfl, rfl, trivial⟩ ⟨rfl, rfl, by rw [hnx]; rfl, rfl, trivial⟩⟩
   have h3 : ¬ t.get 2 < 0 := of_decide_eq_false h3
   have hv : tireF c.rest false (t.get 2) = t.get 2 := by simp [tireF, h2, h3]
   rw [hv] at hnx
   conv=>whnf
   repeat' (first
    | (refine arith_in (wrap_i64 (by (try dsimp only); omega)) ?_; conv=>whnf)
    | (refine elemK_nat (by assumption) ?_; conv=>whnf)
    | (refine ownK_whole (by first | rfl | assumption | (simp [Els.len]; done) | (simp [Els.len]; omega)) ?_; conv=>whnf)
    | (refine chk_i (by first | (exact decide_eq_true (by (try simp only [List.length_map]); omega)) | (simp [Els.len, Els.cons, V.cells, Els.toV, injL]; done) | (simp [Els.len, Els.cons, V.cells, Els.toV, injL]; omega)) ?_; conv=>whnf)
    | fail)
   exact ⟨(), trivial, Wk.sub ⟨rfl, rfl, rfl, rfl, rfl, rfl, trivial⟩ ⟨rfl, rfl, by rw [hnx]; rfl, rfl, trivial⟩⟩
  ·conv=>whnf
   refine brk_i (fun _ => ?_) (fun h => absurd hi (by have := of_decide_eq_false h; rw [List.length_map] at this; omega))
   conv=>whnf
   refine CallA_v (wa49 group _ hg) rfl rfl ?_
   conv=>whnf
   refine brk_i (fun h1 => ?_) (fun h1 => ?_)
   ·rw [h1] at hnx
    conv=>whnf
    repeat' (first
     | (refine arith_in (wrap_i64 (by (try dsimp only); omega)) ?_; conv=>whnf)
     | (refine elemK_nat (by assumption) ?_; conv=>whnf)
     | (refine ownK_whole (by first | rfl | assumption | (simp [Els.len]; done) | (simp [Els.len]; omega)) ?_; conv=>whnf)
     | (refine chk_i (by first | (exact decide_eq_true (by (try simp only [List.length_map]); omega)) | (simp [Els.len, Els.cons, V.cells, Els.toV, injL]; done) | (simp [Els.len, Els.cons, V.cells, Els.toV, injL]; omega)) ?_; conv=>whnf)
     | fail)
    exact ⟨(), trivial, Wk.sub ⟨rfl, rfl, rfl, rfl, rfl, rfl, trivial⟩ ⟨rfl, rfl, by rw [hnx]; rfl, rfl, trivial⟩⟩
   rw [h1] at hnx
   conv=>whnf
   refine brk_i (fun h2 => ?_) (fun h2 => ?_)
   ·have h2 : t.get 3 > 0 := of_decide_eq_true h2
    have hv : tireF c.rest false (t.get 3) = 1 - c.rest := by simp [tireF, h2]
    rw [hv] at hnx
    conv=>whnf
    repeat' (first
     | (refine arith_in (wrap_i64 (by (try dsimp only); omega)) ?_; conv=>whnf)
     | (refine elemK_nat (by assumption) ?_; conv=>whnf)
     | (refine ownK_whole (by first | rfl | assumption | (simp [Els.len]; done) | (simp [Els.len]; omega)) ?_; conv=>whnf)
     | (refine chk_i (by first | (exact decide_eq_true (by (try simp only [List.length_map]); omega)) | (simp [Els.len, Els.cons, V.cells, Els.toV, injL]; done) | (simp [Els.len, Els.cons, V.cells, Els.toV, injL]; omega)) ?_; conv=>whnf)
     | fail)
    exact ⟨(), trivial, Wk.sub ⟨rfl, rfl, rfl, rfl, rfl, rfl, trivial⟩ ⟨rfl, rfl, by rw [hnx]; rfl, rfl, trivial⟩⟩
   have h2 : ¬ t.get 3 > 0 := of_decide_eq_false h2
   conv=>whnf
   refine brk_i (fun h3 => ?_) (fun h3 => ?_)
   ·have h3 : t.get 3 < 0 := of_decide_eq_true h3
    have hv : tireF c.rest false (t.get 3) = t.get 3 + 1 := by simp [tireF, h2, h3]
    rw [hv] at hnx
    conv=>whnf
    repeat' (first
     | (refine arith_in (wrap_i64 (by (try dsimp only); omega)) ?_; conv=>whnf)
     | (refine elemK_nat (by assumption) ?_; conv=>whnf)
     | (refine ownK_whole (by first | rfl | assumption | (simp [Els.len]; done) | (simp [Els.len]; omega)) ?_; conv=>whnf)
     | (refine chk_i (by first | (exact decide_eq_true (by (try simp only [List.length_map]); omega)) | (simp [Els.len, Els.cons, V.cells, Els.toV, injL]; done) | (simp [Els.len, Els.cons, V.cells, Els.toV, injL]; omega)) ?_; conv=>whnf)
     | fail)
    exact ⟨(), trivial, Wk.sub ⟨rfl, rfl, rfl, rfl, rfl, rfl, trivial⟩ ⟨rfl, rfl, by rw [hnx]; rfl, rfl, trivial⟩⟩
   have h3 : ¬ t.get 3 < 0 := of_decide_eq_false h3
   have hv : tireF c.rest false (t.get 3) = t.get 3 := by simp [tireF, h2, h3]
   rw [hv] at hnx
   conv=>whnf
   repeat' (first
    | (refine arith_in (wrap_i64 (by (try dsimp only); omega)) ?_; conv=>whnf)
    | (refine elemK_nat (by assumption) ?_; conv=>whnf)
    | (refine ownK_whole (by first | rfl | assumption | (simp [Els.len]; done) | (simp [Els.len]; omega)) ?_; conv=>whnf)
    | (refine chk_i (by first | (exact decide_eq_true (by (try simp only [List.length_map]); omega)) | (simp [Els.len, Els.cons, V.cells, Els.toV, injL]; done) | (simp [Els.len, Els.cons, V.cells, Els.toV, injL]; omega)) ?_; conv=>whnf)
    | fail)
   exact ⟨(), trivial, Wk.sub ⟨rfl, rfl, rfl, rfl, rfl, rfl, trivial⟩ ⟨rfl, rfl, by rw [hnx]; rfl, rfl, trivial⟩⟩
  ·conv=>whnf
   refine brk_i (fun _ => ?_) (fun h => absurd hi (by have := of_decide_eq_false h; rw [List.length_map] at this; omega))
   conv=>whnf
   refine CallA_v (wa49 group _ hg) rfl rfl ?_
   conv=>whnf
   refine brk_i (fun h1 => ?_) (fun h1 => ?_)
   ·rw [h1] at hnx
    conv=>whnf
    repeat' (first
     | (refine arith_in (wrap_i64 (by (try dsimp only); omega)) ?_; conv=>whnf)
     | (refine elemK_nat (by assumption) ?_; conv=>whnf)
     | (refine ownK_whole (by first | rfl | assumption | (simp [Els.len]; done) | (simp [Els.len]; omega)) ?_; conv=>whnf)
     | (refine chk_i (by first | (exact decide_eq_true (by (try simp only [List.length_map]); omega)) | (simp [Els.len, Els.cons, V.cells, Els.toV, injL]; done) | (simp [Els.len, Els.cons, V.cells, Els.toV, injL]; omega)) ?_; conv=>whnf)
     | fail)
    exact ⟨(), trivial, Wk.sub ⟨rfl, rfl, rfl, rfl, rfl, rfl, trivial⟩ ⟨rfl, rfl, by rw [hnx]; rfl, rfl, trivial⟩⟩
   rw [h1] at hnx
   conv=>whnf
   refine brk_i (fun h2 => ?_) (fun h2 => ?_)
   ·have h2 : t.get 4 > 0 := of_decide_eq_true h2
    have hv : tireF c.rest false (t.get 4) = 1 - c.rest := by simp [tireF, h2]
    rw [hv] at hnx
    conv=>whnf
    repeat' (first
     | (refine arith_in (wrap_i64 (by (try dsimp only); omega)) ?_; conv=>whnf)
     | (refine elemK_nat (by assumption) ?_; conv=>whnf)
     | (refine ownK_whole (by first | rfl | assumption | (simp [Els.len]; done) | (simp [Els.len]; omega)) ?_; conv=>whnf)
     | (refine chk_i (by first | (exact decide_eq_true (by (try simp only [List.length_map]); omega)) | (simp [Els.len, Els.cons, V.cells, Els.toV, injL]; done) | (simp [Els.len, Els.cons, V.cells, Els.toV, injL]; omega)) ?_; conv=>whnf)
     | fail)
    exact ⟨(), trivial, Wk.sub ⟨rfl, rfl, rfl, rfl, rfl, rfl, trivial⟩ ⟨rfl, rfl, by rw [hnx]; rfl, rfl, trivial⟩⟩
   have h2 : ¬ t.get 4 > 0 := of_decide_eq_false h2
   conv=>whnf
   refine brk_i (fun h3 => ?_) (fun h3 => ?_)
   ·have h3 : t.get 4 < 0 := of_decide_eq_true h3
    have hv : tireF c.rest false (t.get 4) = t.get 4 + 1 := by simp [tireF, h2, h3]
    rw [hv] at hnx
    conv=>whnf
    repeat' (first
     | (refine arith_in (wrap_i64 (by (try dsimp only); omega)) ?_; conv=>whnf)
     | (refine elemK_nat (by assumption) ?_; conv=>whnf)
     | (refine ownK_whole (by first | rfl | assumption | (simp [Els.len]; done) | (simp [Els.len]; omega)) ?_; conv=>whnf)
     | (refine chk_i (by first | (exact decide_eq_true (by (try simp only [List.length_map]); omega)) | (simp [Els.len, Els.cons, V.cells, Els.toV, injL]; done) | (simp [Els.len, Els.cons, V.cells, Els.toV, injL]; omega)) ?_; conv=>whnf)
     | fail)
    exact ⟨(), trivial, Wk.sub ⟨rfl, rfl, rfl, rfl, rfl, rfl, trivial⟩ ⟨rfl, rfl, by rw [hnx]; rfl, rfl, trivial⟩⟩
   have h3 : ¬ t.get 4 < 0 := of_decide_eq_false h3
   have hv : tireF c.rest false (t.get 4) = t.get 4 := by simp [tireF, h2, h3]
   rw [hv] at hnx
   conv=>whnf
   repeat' (first
    | (refine arith_in (wrap_i64 (by (try dsimp only); omega)) ?_; conv=>whnf)
    | (refine elemK_nat (by assumption) ?_; conv=>whnf)
    | (refine ownK_whole (by first | rfl | assumption | (simp [Els.len]; done) | (simp [Els.len]; omega)) ?_; conv=>whnf)
    | (refine chk_i (by first | (exact decide_eq_true (by (try simp only [List.length_map]); omega)) | (simp [Els.len, Els.cons, V.cells, Els.toV, injL]; done) | (simp [Els.len, Els.cons, V.cells, Els.toV, injL]; omega)) ?_; conv=>whnf)
    | fail)
   exact ⟨(), trivial, Wk.sub ⟨rfl, rfl, rfl, rfl, rfl, rfl, trivial⟩ ⟨rfl, rfl, by rw [hnx]; rfl, rfl, trivial⟩⟩
 ·intro _ _
  conv=>whnf
  refine brk_i (fun h => absurd h (by simp)) (fun _ => ?_)
  conv=>whnf
  exact RetA_view 0 rfl ⟨⟨rfl, rfl⟩, rfl⟩
def othersR (c : WCase) (but : Int) : List Int := ((List.range c.men.length).filter fun (m : Nat) => decide ((m : Int) ≠ but)).map fun (m : Nat) => (m : Int)
theorem othersR_set {c : WCase} (hR : WR c) : SameSet c (othersR c (-1)) (allMen c) := by
 intro m h0 h1
 rw [inSet_all hR ⟨h0, h1⟩]
 unfold othersR
 simp only [List.mem_map, List.mem_filter, List.mem_range, iff_true]
 exact ⟨m.toNat, ⟨by omega, by simp; omega⟩, by omega⟩
theorem othersR_but {c : WCase} (hR : WR c) {j : Nat} (hj : j < c.men.length) : SameSet c (othersR c j) (butSet c j) := by
 intro m h0 h1
 rw [inSet_but hR hj ⟨h0, h1⟩]
 unfold othersR
 simp only [List.mem_map, List.mem_filter, List.mem_range, decide_eq_true_eq]
 constructor
 ·rintro ⟨k, ⟨_, h2⟩, rfl⟩; exact h2
 ·intro h
  exact ⟨m.toNat, ⟨by omega, by omega⟩, by omega⟩
theorem wa50 (c : WCase) (hm : c.men.length ≤ 5) (but : Int) : FnV Try.prog 50 [c.d, i64 but] (intsD (othersR c but)) := by
 refine fnV_of mixed tysOk Try.func50 rfl (ft := ft50) 2 (by decide +kernel) (by rfl) fun {σ} Y st => ?_
 conv=>whnf
 have hM : ∃ M, othersR c but = M := ⟨_, rfl⟩
 obtain ⟨M, hM⟩ := hM
 rw [hM]
 unfold othersR at hM
 refine LoopA_i (T := tys) tysOk (by exact drawsB_spec mixed tysOk (by decide +kernel)) (List.range c.men.length) (fun i (acc : List Int) => ⟨[(1, .d (i64 but)), (2, .ptr 2 0), (5, .sl 20 1 0 acc.length), (6, .d (i64 i))], [(2, .box (.dd c.cells)), (20, .arr 1 (.dd (intsC acc)))], st⟩)
  (fun i r acc => acc.length ≤ i ∧ M = acc ++ (r.filter fun (m : Nat) => decide ((m : Int) ≠ but)).map fun (m : Nat) => (m : Int)) [] ((Wk.born 5 20 1 rfl rfl rfl).trans (Wk.sub (by repeat' first|exact trivial|refine⟨?_,?_⟩|rfl|(simp only[List.length_map];rfl)|simp[PX.get]) (by repeat' first|exact trivial|refine⟨?_,?_⟩|rfl|(simp only[List.length_map];rfl)|simp[PX.get]))) ⟨by simp, hM.symm⟩ ?_ ?_
 ·rintro i m r acc hx hi hr ⟨hal, he⟩
  have hme : m = i := by
   rw [List.getElem?_range (by simpa using hi)] at hx
   exact (Option.some.inj hx).symm
  subst hme
  have hi2 : m < c.men.length := by simpa using hi
  rw [List.filter_cons] at he
  conv=>whnf
  refine brk_i (fun _ => ?_) (fun h => absurd hi2 (by have := of_decide_eq_false h; simp at this; omega))
  conv=>whnf
  refine brk_i (fun h1 => ?_) (fun h1 => ?_)
  ·have h1 : (m : Int) ≠ but := by simpa using h1
   rw [if_pos (by simpa using h1)] at he
   conv=>whnf
   refine ownK_whole rfl ?_
   conv=>whnf
   refine ownK_whole (by simp [Els.len, intsC]) ?_
   conv=>whnf
   refine chk_i (decide_eq_true (by
    show ((intsC acc).length + 1) * 8 ≤ 140737488355328
    simp [intsC]; omega)) ?_
   conv=>whnf
   refine arith_in (wrap_i64 (by (try dsimp only); omega)) ?_
   conv=>whnf
   refine ⟨acc ++ [(m : Int)], ⟨by simp; omega, by rw [he]; simp⟩, Wk.sub ⟨rfl, rfl, ?_, rfl, trivial⟩ ⟨rfl, ?_, trivial⟩⟩
   ·show some (V.sl 20 1 0 ((intsC acc).length + 1)) = _
    simp [intsC]
   ·show some (Obj.arr 1 (Els.dd (intsC acc ++ [[i64 (m : Int)]]))) = _
    simp [intsC]
  ·have h1 : ¬ (m : Int) ≠ but := by simpa using h1
   rw [if_neg (by simpa using h1)] at he
   conv=>whnf
   refine arith_in (wrap_i64 (by (try dsimp only); omega)) ?_
   conv=>whnf
   exact ⟨acc, ⟨by omega, he⟩, (Wk.sub (by repeat' first|exact trivial|refine⟨?_,?_⟩|rfl|(simp only[List.length_map];rfl)|simp[PX.get]) (by repeat' first|exact trivial|refine⟨?_,?_⟩|rfl|(simp only[List.length_map];rfl)|simp[PX.get]))⟩
 ·rintro acc ⟨_, he⟩
  have he : M = acc := by simpa using he
  rw [he]
  conv=>whnf
  refine brk_i (fun h => absurd h (by simp)) (fun _ => ?_)
  conv=>whnf
  refine RetA_view 1 (ds := [intsD acc]) ?_ ⟨⟨rfl, rfl⟩, rfl⟩
  exact viewL_cons (viewV_sl (es := intsC acc) rfl (by simp [intsC])) rfl
end Go.PX
namespace Go.PX
open Go.Proofs
set_option maxHeartbeats 2000000 in
theorem wa97 (c : WCase) (hR : WR c) (t : Tired) (ht : InU c t) (men : List Int) (hmen : men.length ≤ 5) : FnV Try.prog 97 [c.d, t.d, intsD men] (rotaD (canS c men t)) := by
 refine fnV_of mixed tysOk Try.func97 rfl (ft := ft97) 3 (by decide +kernel) (by rfl) fun {σ} Y st => ?_
 conv=>whnf
 have hm := hR.men
 have hsl := hR.slots
 obtain ⟨hs1, hs2, hs3⟩ := slotAt_men hR ht
 have hts := ht.slot
 refine elemK_i (slotAt c t).cells ⟨hts.1, by simp [hs1]⟩ ?_
 conv=>whnf
 have hmn : (((slotAt c t).men.toNat : Nat) : Int) = (slotAt c t).men := by omega
 refine DrawCall_rep (args' := [.d (intsD []), .d (i64 ((slotAt c t).men.toNat : Nat)), .d (i64 c.men.length)]) (fun yv L F w l h => by
  obtain ⟨x1, l1, rfl, h1, x2, l2, rfl, h2, x3, l3, rfl, h3, h4⟩ := h
  refine ⟨x1, _, rfl, RepD.relax .nils x1 h1, x2, _, rfl, ?_, x3, _, rfl, ?_, h4⟩
  ·rw [hmn]; exact h2
  ·have h3 : RepD F w (.int .i64 ((List.map Man.cells c.men).length : Int)) x3 := h3
   rw [List.length_map] at h3; exact h3) ?_
 refine DrawCall_v (ds := [intsD [], i64 ((slotAt c t).men.toNat : Nat), i64 c.men.length]) (wa70 c.men.length hm.2 (slotAt c t).men.toNat (by omega) [] (fun x hx => by cases hx) (by simp; omega)) rfl rfl ?_
 have hLok := lists_ok (below := c.men.length) (many := (slotAt c t).men.toNat) (p := []) (fun x hx => by cases hx)
 have hLn : (listsF c.men.length (slotAt c t).men.toNat []).length ≤ 25 := Nat.le_trans (listsF_many hm.2) (Nat.le_trans (Nat.pow_le_pow_right (by omega) (show (slotAt c t).men.toNat ≤ 2 by omega)) (by decide))
 unfold canS
 generalize listsF c.men.length (slotAt c t).men.toNat [] = Ls at hLok hLn ⊢
 conv=>whnf
 generalize hM : (Ls.filter fun g => g.any (knowR c t) && g.all (mayR c men t)) = M
 have hel : ∀ x ∈ Ls, ∀ m ∈ x, ∃ (j : Nat) (y : Man), m = (j : Int) ∧ j < 5 ∧ c.men[j]? = some y ∧ manAt c m = y := by
  intro x hx m hmx
  obtain ⟨h1, h2⟩ := (hLok x hx).2 m hmx
  have hk : m.toNat < c.men.length := by omega
  exact ⟨m.toNat, c.men[m.toNat], by omega, by omega, by simp [hk], by simp [manAt, hk]⟩
 refine LoopA_i (T := tys) tysOk (by exact drawsB_spec mixed tysOk (by decide +kernel)) Ls (fun i (acc : List (List Int)) => ⟨[(2, .d (intsD men)), (3, .ptr 3 0), (4, .ptr 4 0), (7, .d (rotaD Ls)), (8, .sl 108 1 0 acc.length), (9, .d (i64 i))], [(3, .box (.dd c.cells)), (4, .box (.dd t.cells)), (108, .arr 1 (.dd (acc.map fun r => [intsD r])))], st⟩)
  (fun i r acc => acc.length ≤ i ∧ M = acc ++ r.filter fun g => g.any (knowR c t) && g.all (mayR c men t)) [] ((Wk.born 8 108 1 rfl rfl rfl).trans (Wk.sub (by repeat' first|exact trivial|refine⟨?_,?_⟩|rfl|(simp only[List.length_map];rfl)|simp[PX.get]) (by repeat' first|exact trivial|refine⟨?_,?_⟩|rfl|(simp only[List.length_map];rfl)|simp[PX.get]))) ⟨by simp, hM.symm⟩ ?_ ?_
 ·rintro i x r acc hx hi hr2 ⟨hal, he⟩
  have hxm := List.mem_of_getElem? hx
  obtain ⟨hx1, hx2⟩ := hLok x hxm
  have hx3 : x.length ≤ 2 := by rw [hx1]; simp; omega
  rw [List.filter_cons] at he
  conv=>whnf
  refine brk_i (fun _ => ?_) (fun h => absurd hi (by have := of_decide_eq_false h; simp at this; omega))
  conv=>whnf
  generalize hA : x.any (knowR c t) = A at he
  generalize hB : x.all (mayR c men t) = B at he
  refine LoopA_i (T := tys) tysOk (by exact drawsB_spec mixed tysOk (by decide +kernel)) x (fun k (z : Bool × Bool) => ⟨[(2, .d (intsD men)), (3, .ptr 3 0), (4, .ptr 4 0), (7, .d (rotaD Ls)), (8, .sl 108 1 0 acc.length), (9, .d (i64 i)), (10, .d (.bool z.1)), (11, .d (.bool z.2)), (12, .d (i64 k))], [(3, .box (.dd c.cells)), (4, .box (.dd t.cells)), (108, .arr 1 (.dd (acc.map fun r => [intsD r])))], st⟩)
   (fun k r z => A = (z.1 || r.any (knowR c t)) ∧ B = (z.2 && r.all (mayR c men t))) (false, true) (Wk.sub (by repeat' first|exact trivial|refine⟨?_,?_⟩|rfl|(simp only[List.length_map];rfl)|simp[PX.get]) (by repeat' first|exact trivial|refine⟨?_,?_⟩|rfl|(simp only[List.length_map];rfl)|simp[PX.get])) ⟨by rw [← hA]; rfl, by rw [← hB]; rfl⟩ ?_ ?_
  ·rintro k m r3 ⟨b1, b2⟩ hk hk2 hr3 ⟨hA2, hB2⟩
   obtain ⟨j, y, rfl, hj5, hj, hmy⟩ := hel x hxm m (List.mem_of_getElem? hk)
   rw [List.any_cons] at hA2
   rw [List.all_cons] at hB2
   have hkn : knowR c t j = decide (y.kind ≥ (slotAt c t).least) := by unfold knowR; rw [hmy]
   have hno : y.no.length < 4000000000000000000 := by
    rcases ascF_len ((hR.man y (List.mem_of_getElem? hj)).2) with h | h
    ·rw [h]; simp
    ·omega
   have h49 : FnV Try.prog 49 [intsD men, i64 (j : Int)] (.bool (decide ((j : Int) ∈ men))) := fun {σ} => wa49 men (j : Int) (by omega)
   have hmay : mayR c men t j = (decide ((j : Int) ∈ men) && !decide (t.slot ∈ y.no) && decide (t.get j ≥ 0) && decide (t.get j < c.run)) := by unfold mayR; rw [hmy]; rfl
   generalize hd1 : decide ((j : Int) ∈ men) = d1 at h49 hmay
   have h49b : FnV Try.prog 49 [intsD y.no, i64 t.slot] (.bool (decide (t.slot ∈ y.no))) := fun {σ} => wa49 y.no t.slot hno
   generalize hd2 : decide (t.slot ∈ y.no) = d2 at h49b hmay
   generalize hd3 : decide (t.get j ≥ 0) = d3 at hmay
   rw [hkn] at hA2
   rw [hmay] at hB2
   have h5 : j = 0 ∨ j = 1 ∨ j = 2 ∨ j = 3 ∨ j = 4 := by omega
   rcases h5 with rfl | rfl | rfl | rfl | rfl
   ·conv=>whnf
    refine elemK_nat hx ?_
    conv=>whnf
    refine brk_i (fun _ => ?_) (fun h => absurd hk2 (by have := of_decide_eq_false h; simp at this; omega))
    conv=>whnf
    refine elemK_nat hx ?_
    conv=>whnf
    refine elemK_nat hk ?_
    conv=>whnf
    cases b1 with
    | true =>
     cases b2 with
     | false =>
      conv=>whnf
      refine arith_in (wrap_i64 (by (try dsimp only); omega)) ?_
      conv=>whnf
      exact ⟨(true, false), ⟨by rw [hA2]; rfl, by rw [hB2]; rfl⟩, (Wk.sub (by repeat' first|exact trivial|refine⟨?_,?_⟩|rfl|(simp only[List.length_map];rfl)|simp[PX.get]) (by repeat' first|exact trivial|refine⟨?_,?_⟩|rfl|(simp only[List.length_map];rfl)|simp[PX.get]))⟩
     | true =>
      conv=>whnf
      refine DrawCall_v (ds := [intsD men, i64 _]) h49 rfl rfl ?_
      cases d1 with
      | false =>
       conv=>whnf
       refine arith_in (wrap_i64 (by (try dsimp only); omega)) ?_
       conv=>whnf
       exact ⟨(true, false), ⟨by rw [hA2]; rfl, by rw [hB2]; rfl⟩, (Wk.sub (by repeat' first|exact trivial|refine⟨?_,?_⟩|rfl|(simp only[List.length_map];rfl)|simp[PX.get]) (by repeat' first|exact trivial|refine⟨?_,?_⟩|rfl|(simp only[List.length_map];rfl)|simp[PX.get]))⟩
      | true =>
       conv=>whnf
       refine elemK_nat hj ?_
       conv=>whnf
       refine DrawCall_v (ds := [intsD y.no, i64 t.slot]) h49b rfl rfl ?_
       cases d2 with
       | true =>
        conv=>whnf
        refine arith_in (wrap_i64 (by (try dsimp only); omega)) ?_
        conv=>whnf
        exact ⟨(true, false), ⟨by rw [hA2]; rfl, by rw [hB2]; rfl⟩, (Wk.sub (by repeat' first|exact trivial|refine⟨?_,?_⟩|rfl|(simp only[List.length_map];rfl)|simp[PX.get]) (by repeat' first|exact trivial|refine⟨?_,?_⟩|rfl|(simp only[List.length_map];rfl)|simp[PX.get]))⟩
       | false =>
        conv=>whnf
        refine brk_i (fun h3 => ?_) (fun h3 => ?_)
        ·have h3' : d3 = true := by rw [← hd3]; exact h3
         rw [h3'] at hB2
         conv=>whnf
         refine arith_in (wrap_i64 (by (try dsimp only); omega)) ?_
         conv=>whnf
         exact ⟨(true, decide (t.get 0 < c.run)), ⟨by rw [hA2]; rfl, by rw [hB2]; rfl⟩, (Wk.sub (by repeat' first|exact trivial|refine⟨?_,?_⟩|rfl|(simp only[List.length_map];rfl)|simp[PX.get]) (by repeat' first|exact trivial|refine⟨?_,?_⟩|rfl|(simp only[List.length_map];rfl)|simp[PX.get]))⟩
        ·have h3' : d3 = false := by rw [← hd3]; exact h3
         rw [h3'] at hB2
         conv=>whnf
         refine arith_in (wrap_i64 (by (try dsimp only); omega)) ?_
         conv=>whnf
         exact ⟨(true, false), ⟨by rw [hA2]; rfl, by rw [hB2]; rfl⟩, (Wk.sub (by repeat' first|exact trivial|refine⟨?_,?_⟩|rfl|(simp only[List.length_map];rfl)|simp[PX.get]) (by repeat' first|exact trivial|refine⟨?_,?_⟩|rfl|(simp only[List.length_map];rfl)|simp[PX.get]))⟩
    | false =>
     conv=>whnf
     refine elemK_nat hj ?_
     conv=>whnf
     refine elemK_i (slotAt c t).cells ⟨hts.1, by simp [hs1]⟩ ?_
     cases b2 with
     | false =>
      conv=>whnf
      refine arith_in (wrap_i64 (by (try dsimp only); omega)) ?_
      conv=>whnf
      exact ⟨(decide ((slotAt c t).least ≤ y.kind), false), ⟨by rw [hA2]; rfl, by rw [hB2]; rfl⟩, (Wk.sub (by repeat' first|exact trivial|refine⟨?_,?_⟩|rfl|(simp only[List.length_map];rfl)|simp[PX.get]) (by repeat' first|exact trivial|refine⟨?_,?_⟩|rfl|(simp only[List.length_map];rfl)|simp[PX.get]))⟩
     | true =>
      conv=>whnf
      refine DrawCall_v (ds := [intsD men, i64 _]) h49 rfl rfl ?_
      cases d1 with
      | false =>
       conv=>whnf
       refine arith_in (wrap_i64 (by (try dsimp only); omega)) ?_
       conv=>whnf
       exact ⟨(decide ((slotAt c t).least ≤ y.kind), false), ⟨by rw [hA2]; rfl, by rw [hB2]; rfl⟩, (Wk.sub (by repeat' first|exact trivial|refine⟨?_,?_⟩|rfl|(simp only[List.length_map];rfl)|simp[PX.get]) (by repeat' first|exact trivial|refine⟨?_,?_⟩|rfl|(simp only[List.length_map];rfl)|simp[PX.get]))⟩
      | true =>
       conv=>whnf
       refine elemK_nat hj ?_
       conv=>whnf
       refine DrawCall_v (ds := [intsD y.no, i64 t.slot]) h49b rfl rfl ?_
       cases d2 with
       | true =>
        conv=>whnf
        refine arith_in (wrap_i64 (by (try dsimp only); omega)) ?_
        conv=>whnf
        exact ⟨(decide ((slotAt c t).least ≤ y.kind), false), ⟨by rw [hA2]; rfl, by rw [hB2]; rfl⟩, (Wk.sub (by repeat' first|exact trivial|refine⟨?_,?_⟩|rfl|(simp only[List.length_map];rfl)|simp[PX.get]) (by repeat' first|exact trivial|refine⟨?_,?_⟩|rfl|(simp only[List.length_map];rfl)|simp[PX.get]))⟩
       | false =>
        conv=>whnf
        refine brk_i (fun h3 => ?_) (fun h3 => ?_)
        ·have h3' : d3 = true := by rw [← hd3]; exact h3
         rw [h3'] at hB2
         conv=>whnf
         refine arith_in (wrap_i64 (by (try dsimp only); omega)) ?_
         conv=>whnf
         exact ⟨(decide ((slotAt c t).least ≤ y.kind), decide (t.get 0 < c.run)), ⟨by rw [hA2]; rfl, by rw [hB2]; rfl⟩, (Wk.sub (by repeat' first|exact trivial|refine⟨?_,?_⟩|rfl|(simp only[List.length_map];rfl)|simp[PX.get]) (by repeat' first|exact trivial|refine⟨?_,?_⟩|rfl|(simp only[List.length_map];rfl)|simp[PX.get]))⟩
        ·have h3' : d3 = false := by rw [← hd3]; exact h3
         rw [h3'] at hB2
         conv=>whnf
         refine arith_in (wrap_i64 (by (try dsimp only); omega)) ?_
         conv=>whnf
         exact ⟨(decide ((slotAt c t).least ≤ y.kind), false), ⟨by rw [hA2]; rfl, by rw [hB2]; rfl⟩, (Wk.sub (by repeat' first|exact trivial|refine⟨?_,?_⟩|rfl|(simp only[List.length_map];rfl)|simp[PX.get]) (by repeat' first|exact trivial|refine⟨?_,?_⟩|rfl|(simp only[List.length_map];rfl)|simp[PX.get]))⟩
   ·conv=>whnf
    refine elemK_nat hx ?_
    conv=>whnf
    refine brk_i (fun _ => ?_) (fun h => absurd hk2 (by have := of_decide_eq_false h; simp at this; omega))
    conv=>whnf
    refine elemK_nat hx ?_
    conv=>whnf
    refine elemK_nat hk ?_
    conv=>whnf
    cases b1 with
    | true =>
     cases b2 with
     | false =>
      conv=>whnf
      refine arith_in (wrap_i64 (by (try dsimp only); omega)) ?_
      conv=>whnf
      exact ⟨(true, false), ⟨by rw [hA2]; rfl, by rw [hB2]; rfl⟩, (Wk.sub (by repeat' first|exact trivial|refine⟨?_,?_⟩|rfl|(simp only[List.length_map];rfl)|simp[PX.get]) (by repeat' first|exact trivial|refine⟨?_,?_⟩|rfl|(simp only[List.length_map];rfl)|simp[PX.get]))⟩
     | true =>
      conv=>whnf
      refine DrawCall_v (ds := [intsD men, i64 _]) h49 rfl rfl ?_
      cases d1 with
      | false =>
       conv=>whnf
       refine arith_in (wrap_i64 (by (try dsimp only); omega)) ?_
       conv=>whnf
       exact ⟨(true, false), ⟨by rw [hA2]; rfl, by rw [hB2]; rfl⟩, (Wk.sub (by repeat' first|exact trivial|refine⟨?_,?_⟩|rfl|(simp only[List.length_map];rfl)|simp[PX.get]) (by repeat' first|exact trivial|refine⟨?_,?_⟩|rfl|(simp only[List.length_map];rfl)|simp[PX.get]))⟩
      | true =>
       conv=>whnf
       refine elemK_nat hj ?_
       conv=>whnf
       refine DrawCall_v (ds := [intsD y.no, i64 t.slot]) h49b rfl rfl ?_
       cases d2 with
       | true =>
        conv=>whnf
        refine arith_in (wrap_i64 (by (try dsimp only); omega)) ?_
        conv=>whnf
        exact ⟨(true, false), ⟨by rw [hA2]; rfl, by rw [hB2]; rfl⟩, (Wk.sub (by repeat' first|exact trivial|refine⟨?_,?_⟩|rfl|(simp only[List.length_map];rfl)|simp[PX.get]) (by repeat' first|exact trivial|refine⟨?_,?_⟩|rfl|(simp only[List.length_map];rfl)|simp[PX.get]))⟩
       | false =>
        conv=>whnf
        refine brk_i (fun h3 => ?_) (fun h3 => ?_)
        ·have h3' : d3 = true := by rw [← hd3]; exact h3
         rw [h3'] at hB2
         conv=>whnf
         refine arith_in (wrap_i64 (by (try dsimp only); omega)) ?_
         conv=>whnf
         exact ⟨(true, decide (t.get 1 < c.run)), ⟨by rw [hA2]; rfl, by rw [hB2]; rfl⟩, (Wk.sub (by repeat' first|exact trivial|refine⟨?_,?_⟩|rfl|(simp only[List.length_map];rfl)|simp[PX.get]) (by repeat' first|exact trivial|refine⟨?_,?_⟩|rfl|(simp only[List.length_map];rfl)|simp[PX.get]))⟩
        ·have h3' : d3 = false := by rw [← hd3]; exact h3
         rw [h3'] at hB2
         conv=>whnf
         refine arith_in (wrap_i64 (by (try dsimp only); omega)) ?_
         conv=>whnf
         exact ⟨(true, false), ⟨by rw [hA2]; rfl, by rw [hB2]; rfl⟩, (Wk.sub (by repeat' first|exact trivial|refine⟨?_,?_⟩|rfl|(simp only[List.length_map];rfl)|simp[PX.get]) (by repeat' first|exact trivial|refine⟨?_,?_⟩|rfl|(simp only[List.length_map];rfl)|simp[PX.get]))⟩
    | false =>
     conv=>whnf
     refine elemK_nat hj ?_
     conv=>whnf
     refine elemK_i (slotAt c t).cells ⟨hts.1, by simp [hs1]⟩ ?_
     cases b2 with
     | false =>
      conv=>whnf
      refine arith_in (wrap_i64 (by (try dsimp only); omega)) ?_
      conv=>whnf
      exact ⟨(decide ((slotAt c t).least ≤ y.kind), false), ⟨by rw [hA2]; rfl, by rw [hB2]; rfl⟩, (Wk.sub (by repeat' first|exact trivial|refine⟨?_,?_⟩|rfl|(simp only[List.length_map];rfl)|simp[PX.get]) (by repeat' first|exact trivial|refine⟨?_,?_⟩|rfl|(simp only[List.length_map];rfl)|simp[PX.get]))⟩
     | true =>
      conv=>whnf
      refine DrawCall_v (ds := [intsD men, i64 _]) h49 rfl rfl ?_
      cases d1 with
      | false =>
       conv=>whnf
       refine arith_in (wrap_i64 (by (try dsimp only); omega)) ?_
       conv=>whnf
       exact ⟨(decide ((slotAt c t).least ≤ y.kind), false), ⟨by rw [hA2]; rfl, by rw [hB2]; rfl⟩, (Wk.sub (by repeat' first|exact trivial|refine⟨?_,?_⟩|rfl|(simp only[List.length_map];rfl)|simp[PX.get]) (by repeat' first|exact trivial|refine⟨?_,?_⟩|rfl|(simp only[List.length_map];rfl)|simp[PX.get]))⟩
      | true =>
       conv=>whnf
       refine elemK_nat hj ?_
       conv=>whnf
       refine DrawCall_v (ds := [intsD y.no, i64 t.slot]) h49b rfl rfl ?_
       cases d2 with
       | true =>
        conv=>whnf
        refine arith_in (wrap_i64 (by (try dsimp only); omega)) ?_
        conv=>whnf
        exact ⟨(decide ((slotAt c t).least ≤ y.kind), false), ⟨by rw [hA2]; rfl, by rw [hB2]; rfl⟩, (Wk.sub (by repeat' first|exact trivial|refine⟨?_,?_⟩|rfl|(simp only[List.length_map];rfl)|simp[PX.get]) (by repeat' first|exact trivial|refine⟨?_,?_⟩|rfl|(simp only[List.length_map];rfl)|simp[PX.get]))⟩
       | false =>
        conv=>whnf
        refine brk_i (fun h3 => ?_) (fun h3 => ?_)
        ·have h3' : d3 = true := by rw [← hd3]; exact h3
         rw [h3'] at hB2
         conv=>whnf
         refine arith_in (wrap_i64 (by (try dsimp only); omega)) ?_
         conv=>whnf
         exact ⟨(decide ((slotAt c t).least ≤ y.kind), decide (t.get 1 < c.run)), ⟨by rw [hA2]; rfl, by rw [hB2]; rfl⟩, (Wk.sub (by repeat' first|exact trivial|refine⟨?_,?_⟩|rfl|(simp only[List.length_map];rfl)|simp[PX.get]) (by repeat' first|exact trivial|refine⟨?_,?_⟩|rfl|(simp only[List.length_map];rfl)|simp[PX.get]))⟩
        ·have h3' : d3 = false := by rw [← hd3]; exact h3
         rw [h3'] at hB2
         conv=>whnf
         refine arith_in (wrap_i64 (by (try dsimp only); omega)) ?_
         conv=>whnf
         exact ⟨(decide ((slotAt c t).least ≤ y.kind), false), ⟨by rw [hA2]; rfl, by rw [hB2]; rfl⟩, (Wk.sub (by repeat' first|exact trivial|refine⟨?_,?_⟩|rfl|(simp only[List.length_map];rfl)|simp[PX.get]) (by repeat' first|exact trivial|refine⟨?_,?_⟩|rfl|(simp only[List.length_map];rfl)|simp[PX.get]))⟩
   ·conv=>whnf
    refine elemK_nat hx ?_
    conv=>whnf
    refine brk_i (fun _ => ?_) (fun h => absurd hk2 (by have := of_decide_eq_false h; simp at this; omega))
    conv=>whnf
    refine elemK_nat hx ?_
    conv=>whnf
    refine elemK_nat hk ?_
    conv=>whnf
    cases b1 with
    | true =>
     cases b2 with
     | false =>
      conv=>whnf
      refine arith_in (wrap_i64 (by (try dsimp only); omega)) ?_
      conv=>whnf
      exact ⟨(true, false), ⟨by rw [hA2]; rfl, by rw [hB2]; rfl⟩, (Wk.sub (by repeat' first|exact trivial|refine⟨?_,?_⟩|rfl|(simp only[List.length_map];rfl)|simp[PX.get]) (by repeat' first|exact trivial|refine⟨?_,?_⟩|rfl|(simp only[List.length_map];rfl)|simp[PX.get]))⟩
     | true =>
      conv=>whnf
      refine DrawCall_v (ds := [intsD men, i64 _]) h49 rfl rfl ?_
      cases d1 with
      | false =>
       conv=>whnf
       refine arith_in (wrap_i64 (by (try dsimp only); omega)) ?_
       conv=>whnf
       exact ⟨(true, false), ⟨by rw [hA2]; rfl, by rw [hB2]; rfl⟩, (Wk.sub (by repeat' first|exact trivial|refine⟨?_,?_⟩|rfl|(simp only[List.length_map];rfl)|simp[PX.get]) (by repeat' first|exact trivial|refine⟨?_,?_⟩|rfl|(simp only[List.length_map];rfl)|simp[PX.get]))⟩
      | true =>
       conv=>whnf
       refine elemK_nat hj ?_
       conv=>whnf
       refine DrawCall_v (ds := [intsD y.no, i64 t.slot]) h49b rfl rfl ?_
       cases d2 with
       | true =>
        conv=>whnf
        refine arith_in (wrap_i64 (by (try dsimp only); omega)) ?_
        conv=>whnf
        exact ⟨(true, false), ⟨by rw [hA2]; rfl, by rw [hB2]; rfl⟩, (Wk.sub (by repeat' first|exact trivial|refine⟨?_,?_⟩|rfl|(simp only[List.length_map];rfl)|simp[PX.get]) (by repeat' first|exact trivial|refine⟨?_,?_⟩|rfl|(simp only[List.length_map];rfl)|simp[PX.get]))⟩
       | false =>
        conv=>whnf
        refine brk_i (fun h3 => ?_) (fun h3 => ?_)
        ·have h3' : d3 = true := by rw [← hd3]; exact h3
         rw [h3'] at hB2
         conv=>whnf
         refine arith_in (wrap_i64 (by (try dsimp only); omega)) ?_
         conv=>whnf
         exact ⟨(true, decide (t.get 2 < c.run)), ⟨by rw [hA2]; rfl, by rw [hB2]; rfl⟩, (Wk.sub (by repeat' first|exact trivial|refine⟨?_,?_⟩|rfl|(simp only[List.length_map];rfl)|simp[PX.get]) (by repeat' first|exact trivial|refine⟨?_,?_⟩|rfl|(simp only[List.length_map];rfl)|simp[PX.get]))⟩
        ·have h3' : d3 = false := by rw [← hd3]; exact h3
         rw [h3'] at hB2
         conv=>whnf
         refine arith_in (wrap_i64 (by (try dsimp only); omega)) ?_
         conv=>whnf
         exact ⟨(true, false), ⟨by rw [hA2]; rfl, by rw [hB2]; rfl⟩, (Wk.sub (by repeat' first|exact trivial|refine⟨?_,?_⟩|rfl|(simp only[List.length_map];rfl)|simp[PX.get]) (by repeat' first|exact trivial|refine⟨?_,?_⟩|rfl|(simp only[List.length_map];rfl)|simp[PX.get]))⟩
    | false =>
     conv=>whnf
     refine elemK_nat hj ?_
     conv=>whnf
     refine elemK_i (slotAt c t).cells ⟨hts.1, by simp [hs1]⟩ ?_
     cases b2 with
     | false =>
      conv=>whnf
      refine arith_in (wrap_i64 (by (try dsimp only); omega)) ?_
      conv=>whnf
      exact ⟨(decide ((slotAt c t).least ≤ y.kind), false), ⟨by rw [hA2]; rfl, by rw [hB2]; rfl⟩, (Wk.sub (by repeat' first|exact trivial|refine⟨?_,?_⟩|rfl|(simp only[List.length_map];rfl)|simp[PX.get]) (by repeat' first|exact trivial|refine⟨?_,?_⟩|rfl|(simp only[List.length_map];rfl)|simp[PX.get]))⟩
     | true =>
      conv=>whnf
      refine DrawCall_v (ds := [intsD men, i64 _]) h49 rfl rfl ?_
      cases d1 with
      | false =>
       conv=>whnf
       refine arith_in (wrap_i64 (by (try dsimp only); omega)) ?_
       conv=>whnf
       exact ⟨(decide ((slotAt c t).least ≤ y.kind), false), ⟨by rw [hA2]; rfl, by rw [hB2]; rfl⟩, (Wk.sub (by repeat' first|exact trivial|refine⟨?_,?_⟩|rfl|(simp only[List.length_map];rfl)|simp[PX.get]) (by repeat' first|exact trivial|refine⟨?_,?_⟩|rfl|(simp only[List.length_map];rfl)|simp[PX.get]))⟩
      | true =>
       conv=>whnf
       refine elemK_nat hj ?_
       conv=>whnf
       refine DrawCall_v (ds := [intsD y.no, i64 t.slot]) h49b rfl rfl ?_
       cases d2 with
       | true =>
        conv=>whnf
        refine arith_in (wrap_i64 (by (try dsimp only); omega)) ?_
        conv=>whnf
        exact ⟨(decide ((slotAt c t).least ≤ y.kind), false), ⟨by rw [hA2]; rfl, by rw [hB2]; rfl⟩, (Wk.sub (by repeat' first|exact trivial|refine⟨?_,?_⟩|rfl|(simp only[List.length_map];rfl)|simp[PX.get]) (by repeat' first|exact trivial|refine⟨?_,?_⟩|rfl|(simp only[List.length_map];rfl)|simp[PX.get]))⟩
       | false =>
        conv=>whnf
        refine brk_i (fun h3 => ?_) (fun h3 => ?_)
        ·have h3' : d3 = true := by rw [← hd3]; exact h3
         rw [h3'] at hB2
         conv=>whnf
         refine arith_in (wrap_i64 (by (try dsimp only); omega)) ?_
         conv=>whnf
         exact ⟨(decide ((slotAt c t).least ≤ y.kind), decide (t.get 2 < c.run)), ⟨by rw [hA2]; rfl, by rw [hB2]; rfl⟩, (Wk.sub (by repeat' first|exact trivial|refine⟨?_,?_⟩|rfl|(simp only[List.length_map];rfl)|simp[PX.get]) (by repeat' first|exact trivial|refine⟨?_,?_⟩|rfl|(simp only[List.length_map];rfl)|simp[PX.get]))⟩
        ·have h3' : d3 = false := by rw [← hd3]; exact h3
         rw [h3'] at hB2
         conv=>whnf
         refine arith_in (wrap_i64 (by (try dsimp only); omega)) ?_
         conv=>whnf
         exact ⟨(decide ((slotAt c t).least ≤ y.kind), false), ⟨by rw [hA2]; rfl, by rw [hB2]; rfl⟩, (Wk.sub (by repeat' first|exact trivial|refine⟨?_,?_⟩|rfl|(simp only[List.length_map];rfl)|simp[PX.get]) (by repeat' first|exact trivial|refine⟨?_,?_⟩|rfl|(simp only[List.length_map];rfl)|simp[PX.get]))⟩
   ·conv=>whnf
    refine elemK_nat hx ?_
    conv=>whnf
    refine brk_i (fun _ => ?_) (fun h => absurd hk2 (by have := of_decide_eq_false h; simp at this; omega))
    conv=>whnf
    refine elemK_nat hx ?_
    conv=>whnf
    refine elemK_nat hk ?_
    conv=>whnf
    cases b1 with
    | true =>
     cases b2 with
     | false =>
      conv=>whnf
      refine arith_in (wrap_i64 (by (try dsimp only); omega)) ?_
      conv=>whnf
      exact ⟨(true, false), ⟨by rw [hA2]; rfl, by rw [hB2]; rfl⟩, (Wk.sub (by repeat' first|exact trivial|refine⟨?_,?_⟩|rfl|(simp only[List.length_map];rfl)|simp[PX.get]) (by repeat' first|exact trivial|refine⟨?_,?_⟩|rfl|(simp only[List.length_map];rfl)|simp[PX.get]))⟩
     | true =>
      conv=>whnf
      refine DrawCall_v (ds := [intsD men, i64 _]) h49 rfl rfl ?_
      cases d1 with
      | false =>
       conv=>whnf
       refine arith_in (wrap_i64 (by (try dsimp only); omega)) ?_
       conv=>whnf
       exact ⟨(true, false), ⟨by rw [hA2]; rfl, by rw [hB2]; rfl⟩, (Wk.sub (by repeat' first|exact trivial|refine⟨?_,?_⟩|rfl|(simp only[List.length_map];rfl)|simp[PX.get]) (by repeat' first|exact trivial|refine⟨?_,?_⟩|rfl|(simp only[List.length_map];rfl)|simp[PX.get]))⟩
      | true =>
       conv=>whnf
       refine elemK_nat hj ?_
       conv=>whnf
       refine DrawCall_v (ds := [intsD y.no, i64 t.slot]) h49b rfl rfl ?_
       cases d2 with
       | true =>
        conv=>whnf
        refine arith_in (wrap_i64 (by (try dsimp only); omega)) ?_
        conv=>whnf
        exact ⟨(true, false), ⟨by rw [hA2]; rfl, by rw [hB2]; rfl⟩, (Wk.sub (by repeat' first|exact trivial|refine⟨?_,?_⟩|rfl|(simp only[List.length_map];rfl)|simp[PX.get]) (by repeat' first|exact trivial|refine⟨?_,?_⟩|rfl|(simp only[List.length_map];rfl)|simp[PX.get]))⟩
       | false =>
        conv=>whnf
        refine brk_i (fun h3 => ?_) (fun h3 => ?_)
        ·have h3' : d3 = true := by rw [← hd3]; exact h3
         rw [h3'] at hB2
         conv=>whnf
         refine arith_in (wrap_i64 (by (try dsimp only); omega)) ?_
         conv=>whnf
         exact ⟨(true, decide (t.get 3 < c.run)), ⟨by rw [hA2]; rfl, by rw [hB2]; rfl⟩, (Wk.sub (by repeat' first|exact trivial|refine⟨?_,?_⟩|rfl|(simp only[List.length_map];rfl)|simp[PX.get]) (by repeat' first|exact trivial|refine⟨?_,?_⟩|rfl|(simp only[List.length_map];rfl)|simp[PX.get]))⟩
        ·have h3' : d3 = false := by rw [← hd3]; exact h3
         rw [h3'] at hB2
         conv=>whnf
         refine arith_in (wrap_i64 (by (try dsimp only); omega)) ?_
         conv=>whnf
         exact ⟨(true, false), ⟨by rw [hA2]; rfl, by rw [hB2]; rfl⟩, (Wk.sub (by repeat' first|exact trivial|refine⟨?_,?_⟩|rfl|(simp only[List.length_map];rfl)|simp[PX.get]) (by repeat' first|exact trivial|refine⟨?_,?_⟩|rfl|(simp only[List.length_map];rfl)|simp[PX.get]))⟩
    | false =>
     conv=>whnf
     refine elemK_nat hj ?_
     conv=>whnf
     refine elemK_i (slotAt c t).cells ⟨hts.1, by simp [hs1]⟩ ?_
     cases b2 with
     | false =>
      conv=>whnf
      refine arith_in (wrap_i64 (by (try dsimp only); omega)) ?_
      conv=>whnf
      exact ⟨(decide ((slotAt c t).least ≤ y.kind), false), ⟨by rw [hA2]; rfl, by rw [hB2]; rfl⟩, (Wk.sub (by repeat' first|exact trivial|refine⟨?_,?_⟩|rfl|(simp only[List.length_map];rfl)|simp[PX.get]) (by repeat' first|exact trivial|refine⟨?_,?_⟩|rfl|(simp only[List.length_map];rfl)|simp[PX.get]))⟩
     | true =>
      conv=>whnf
      refine DrawCall_v (ds := [intsD men, i64 _]) h49 rfl rfl ?_
      cases d1 with
      | false =>
       conv=>whnf
       refine arith_in (wrap_i64 (by (try dsimp only); omega)) ?_
       conv=>whnf
       exact ⟨(decide ((slotAt c t).least ≤ y.kind), false), ⟨by rw [hA2]; rfl, by rw [hB2]; rfl⟩, (Wk.sub (by repeat' first|exact trivial|refine⟨?_,?_⟩|rfl|(simp only[List.length_map];rfl)|simp[PX.get]) (by repeat' first|exact trivial|refine⟨?_,?_⟩|rfl|(simp only[List.length_map];rfl)|simp[PX.get]))⟩
      | true =>
       conv=>whnf
       refine elemK_nat hj ?_
       conv=>whnf
       refine DrawCall_v (ds := [intsD y.no, i64 t.slot]) h49b rfl rfl ?_
       cases d2 with
       | true =>
        conv=>whnf
        refine arith_in (wrap_i64 (by (try dsimp only); omega)) ?_
        conv=>whnf
        exact ⟨(decide ((slotAt c t).least ≤ y.kind), false), ⟨by rw [hA2]; rfl, by rw [hB2]; rfl⟩, (Wk.sub (by repeat' first|exact trivial|refine⟨?_,?_⟩|rfl|(simp only[List.length_map];rfl)|simp[PX.get]) (by repeat' first|exact trivial|refine⟨?_,?_⟩|rfl|(simp only[List.length_map];rfl)|simp[PX.get]))⟩
       | false =>
        conv=>whnf
        refine brk_i (fun h3 => ?_) (fun h3 => ?_)
        ·have h3' : d3 = true := by rw [← hd3]; exact h3
         rw [h3'] at hB2
         conv=>whnf
         refine arith_in (wrap_i64 (by (try dsimp only); omega)) ?_
         conv=>whnf
         exact ⟨(decide ((slotAt c t).least ≤ y.kind), decide (t.get 3 < c.run)), ⟨by rw [hA2]; rfl, by rw [hB2]; rfl⟩, (Wk.sub (by repeat' first|exact trivial|refine⟨?_,?_⟩|rfl|(simp only[List.length_map];rfl)|simp[PX.get]) (by repeat' first|exact trivial|refine⟨?_,?_⟩|rfl|(simp only[List.length_map];rfl)|simp[PX.get]))⟩
        ·have h3' : d3 = false := by rw [← hd3]; exact h3
         rw [h3'] at hB2
         conv=>whnf
         refine arith_in (wrap_i64 (by (try dsimp only); omega)) ?_
         conv=>whnf
         exact ⟨(decide ((slotAt c t).least ≤ y.kind), false), ⟨by rw [hA2]; rfl, by rw [hB2]; rfl⟩, (Wk.sub (by repeat' first|exact trivial|refine⟨?_,?_⟩|rfl|(simp only[List.length_map];rfl)|simp[PX.get]) (by repeat' first|exact trivial|refine⟨?_,?_⟩|rfl|(simp only[List.length_map];rfl)|simp[PX.get]))⟩
   ·conv=>whnf
    refine elemK_nat hx ?_
    conv=>whnf
    refine brk_i (fun _ => ?_) (fun h => absurd hk2 (by have := of_decide_eq_false h; simp at this; omega))
    conv=>whnf
    refine elemK_nat hx ?_
    conv=>whnf
    refine elemK_nat hk ?_
    conv=>whnf
    cases b1 with
    | true =>
     cases b2 with
     | false =>
      conv=>whnf
      refine arith_in (wrap_i64 (by (try dsimp only); omega)) ?_
      conv=>whnf
      exact ⟨(true, false), ⟨by rw [hA2]; rfl, by rw [hB2]; rfl⟩, (Wk.sub (by repeat' first|exact trivial|refine⟨?_,?_⟩|rfl|(simp only[List.length_map];rfl)|simp[PX.get]) (by repeat' first|exact trivial|refine⟨?_,?_⟩|rfl|(simp only[List.length_map];rfl)|simp[PX.get]))⟩
     | true =>
      conv=>whnf
      refine DrawCall_v (ds := [intsD men, i64 _]) h49 rfl rfl ?_
      cases d1 with
      | false =>
       conv=>whnf
       refine arith_in (wrap_i64 (by (try dsimp only); omega)) ?_
       conv=>whnf
       exact ⟨(true, false), ⟨by rw [hA2]; rfl, by rw [hB2]; rfl⟩, (Wk.sub (by repeat' first|exact trivial|refine⟨?_,?_⟩|rfl|(simp only[List.length_map];rfl)|simp[PX.get]) (by repeat' first|exact trivial|refine⟨?_,?_⟩|rfl|(simp only[List.length_map];rfl)|simp[PX.get]))⟩
      | true =>
       conv=>whnf
       refine elemK_nat hj ?_
       conv=>whnf
       refine DrawCall_v (ds := [intsD y.no, i64 t.slot]) h49b rfl rfl ?_
       cases d2 with
       | true =>
        conv=>whnf
        refine arith_in (wrap_i64 (by (try dsimp only); omega)) ?_
        conv=>whnf
        exact ⟨(true, false), ⟨by rw [hA2]; rfl, by rw [hB2]; rfl⟩, (Wk.sub (by repeat' first|exact trivial|refine⟨?_,?_⟩|rfl|(simp only[List.length_map];rfl)|simp[PX.get]) (by repeat' first|exact trivial|refine⟨?_,?_⟩|rfl|(simp only[List.length_map];rfl)|simp[PX.get]))⟩
       | false =>
        conv=>whnf
        refine brk_i (fun h3 => ?_) (fun h3 => ?_)
        ·have h3' : d3 = true := by rw [← hd3]; exact h3
         rw [h3'] at hB2
         conv=>whnf
         refine arith_in (wrap_i64 (by (try dsimp only); omega)) ?_
         conv=>whnf
         exact ⟨(true, decide (t.get 4 < c.run)), ⟨by rw [hA2]; rfl, by rw [hB2]; rfl⟩, (Wk.sub (by repeat' first|exact trivial|refine⟨?_,?_⟩|rfl|(simp only[List.length_map];rfl)|simp[PX.get]) (by repeat' first|exact trivial|refine⟨?_,?_⟩|rfl|(simp only[List.length_map];rfl)|simp[PX.get]))⟩
        ·have h3' : d3 = false := by rw [← hd3]; exact h3
         rw [h3'] at hB2
         conv=>whnf
         refine arith_in (wrap_i64 (by (try dsimp only); omega)) ?_
         conv=>whnf
         exact ⟨(true, false), ⟨by rw [hA2]; rfl, by rw [hB2]; rfl⟩, (Wk.sub (by repeat' first|exact trivial|refine⟨?_,?_⟩|rfl|(simp only[List.length_map];rfl)|simp[PX.get]) (by repeat' first|exact trivial|refine⟨?_,?_⟩|rfl|(simp only[List.length_map];rfl)|simp[PX.get]))⟩
    | false =>
     conv=>whnf
     refine elemK_nat hj ?_
     conv=>whnf
     refine elemK_i (slotAt c t).cells ⟨hts.1, by simp [hs1]⟩ ?_
     cases b2 with
     | false =>
      conv=>whnf
      refine arith_in (wrap_i64 (by (try dsimp only); omega)) ?_
      conv=>whnf
      exact ⟨(decide ((slotAt c t).least ≤ y.kind), false), ⟨by rw [hA2]; rfl, by rw [hB2]; rfl⟩, (Wk.sub (by repeat' first|exact trivial|refine⟨?_,?_⟩|rfl|(simp only[List.length_map];rfl)|simp[PX.get]) (by repeat' first|exact trivial|refine⟨?_,?_⟩|rfl|(simp only[List.length_map];rfl)|simp[PX.get]))⟩
     | true =>
      conv=>whnf
      refine DrawCall_v (ds := [intsD men, i64 _]) h49 rfl rfl ?_
      cases d1 with
      | false =>
       conv=>whnf
       refine arith_in (wrap_i64 (by (try dsimp only); omega)) ?_
       conv=>whnf
       exact ⟨(decide ((slotAt c t).least ≤ y.kind), false), ⟨by rw [hA2]; rfl, by rw [hB2]; rfl⟩, (Wk.sub (by repeat' first|exact trivial|refine⟨?_,?_⟩|rfl|(simp only[List.length_map];rfl)|simp[PX.get]) (by repeat' first|exact trivial|refine⟨?_,?_⟩|rfl|(simp only[List.length_map];rfl)|simp[PX.get]))⟩
      | true =>
       conv=>whnf
       refine elemK_nat hj ?_
       conv=>whnf
       refine DrawCall_v (ds := [intsD y.no, i64 t.slot]) h49b rfl rfl ?_
       cases d2 with
       | true =>
        conv=>whnf
        refine arith_in (wrap_i64 (by (try dsimp only); omega)) ?_
        conv=>whnf
        exact ⟨(decide ((slotAt c t).least ≤ y.kind), false), ⟨by rw [hA2]; rfl, by rw [hB2]; rfl⟩, (Wk.sub (by repeat' first|exact trivial|refine⟨?_,?_⟩|rfl|(simp only[List.length_map];rfl)|simp[PX.get]) (by repeat' first|exact trivial|refine⟨?_,?_⟩|rfl|(simp only[List.length_map];rfl)|simp[PX.get]))⟩
       | false =>
        conv=>whnf
        refine brk_i (fun h3 => ?_) (fun h3 => ?_)
        ·have h3' : d3 = true := by rw [← hd3]; exact h3
         rw [h3'] at hB2
         conv=>whnf
         refine arith_in (wrap_i64 (by (try dsimp only); omega)) ?_
         conv=>whnf
         exact ⟨(decide ((slotAt c t).least ≤ y.kind), decide (t.get 4 < c.run)), ⟨by rw [hA2]; rfl, by rw [hB2]; rfl⟩, (Wk.sub (by repeat' first|exact trivial|refine⟨?_,?_⟩|rfl|(simp only[List.length_map];rfl)|simp[PX.get]) (by repeat' first|exact trivial|refine⟨?_,?_⟩|rfl|(simp only[List.length_map];rfl)|simp[PX.get]))⟩
        ·have h3' : d3 = false := by rw [← hd3]; exact h3
         rw [h3'] at hB2
         conv=>whnf
         refine arith_in (wrap_i64 (by (try dsimp only); omega)) ?_
         conv=>whnf
         exact ⟨(decide ((slotAt c t).least ≤ y.kind), false), ⟨by rw [hA2]; rfl, by rw [hB2]; rfl⟩, (Wk.sub (by repeat' first|exact trivial|refine⟨?_,?_⟩|rfl|(simp only[List.length_map];rfl)|simp[PX.get]) (by repeat' first|exact trivial|refine⟨?_,?_⟩|rfl|(simp only[List.length_map];rfl)|simp[PX.get]))⟩
  ·rintro ⟨b1, b2⟩ ⟨hA2, hB2⟩
   have hA2 : A = b1 := by simpa using hA2
   have hB2 : B = b2 := by simpa using hB2
   rw [hA2, hB2] at he
   clear hA2 hB2
   conv=>whnf
   refine elemK_nat hx ?_
   conv=>whnf
   refine brk_i (fun h => absurd h (by simp)) (fun _ => ?_)
   cases b1 with
   | false =>
    conv=>whnf
    refine arith_in (wrap_i64 (by (try dsimp only); omega)) ?_
    conv=>whnf
    exact ⟨acc, ⟨by omega, by simpa using he⟩, (Wk.sub (by repeat' first|exact trivial|refine⟨?_,?_⟩|rfl|(simp only[List.length_map];rfl)|simp[PX.get]) (by repeat' first|exact trivial|refine⟨?_,?_⟩|rfl|(simp only[List.length_map];rfl)|simp[PX.get]))⟩
   | true =>
    cases b2 with
    | false =>
     conv=>whnf
     refine arith_in (wrap_i64 (by (try dsimp only); omega)) ?_
     conv=>whnf
     exact ⟨acc, ⟨by omega, by simpa using he⟩, (Wk.sub (by repeat' first|exact trivial|refine⟨?_,?_⟩|rfl|(simp only[List.length_map];rfl)|simp[PX.get]) (by repeat' first|exact trivial|refine⟨?_,?_⟩|rfl|(simp only[List.length_map];rfl)|simp[PX.get]))⟩
    | true =>
     conv=>whnf
     refine elemK_nat hx ?_
     conv=>whnf
     refine ownK_whole rfl ?_
     conv=>whnf
     refine ownK_whole (by simp [Els.len]) ?_
     conv=>whnf
     refine chk_i (decide_eq_true (by
      show ((acc.map fun r => [intsD r]).length + 1) * 24 ≤ 140737488355328
      rw [List.length_map]; omega)) ?_
     conv=>whnf
     refine arith_in (wrap_i64 (by (try dsimp only); omega)) ?_
     conv=>whnf
     refine ⟨acc ++ [x], ⟨by simp; omega, by rw [he]; simp⟩, Wk.sub ⟨rfl, rfl, rfl, rfl, ?_, rfl, trivial⟩ ⟨rfl, rfl, ?_, trivial⟩⟩
     ·show some (V.sl 108 1 0 ((acc.map fun r => [intsD r]).length + 1)) = _
      simp
     ·show some (Obj.arr 1 (Els.dd ((acc.map fun r => [intsD r]) ++ [[intsD x]]))) = _
      simp
 ·rintro acc ⟨_, he⟩
  have he : M = acc := by simpa using he
  rw [he]
  conv=>whnf
  refine brk_i (fun h => absurd h (by simp)) (fun _ => ?_)
  conv=>whnf
  refine RetA_view 1 (ds := [rotaD acc]) ?_ ⟨⟨rfl, rfl⟩, rfl⟩
  exact viewL_cons (viewV_sl (es := acc.map fun r => [intsD r]) rfl (by simp)) rfl
end Go.PX
namespace Go.PX
open Go.Proofs
theorem InU.tokV {c : WCase} (hR : WR c) {t : Tired} (h : InV c t) : TOk t := (h.u.tok hR).1
def rowsI (b : List (List Nat)) : List (List Int) := b.map fun l => l.map fun (i : Nat) => (i : Int)
def statesC (l : List Tired) : List (List D) := l.map fun t => t.cells
def statesD (l : List Tired) : D := .vs (statesC l)
def WebR.d {c : WCase} {men : List Int} (W : WebR c men) : D := .agg [intsD W.w.ix, statesD W.w.sts, rotaD (rowsI W.b), intsD W.H]
end Go.PX
namespace Go.PX
open Go.RowKit
section
variable {κ : Type} [DecidableEq κ] (kd : κ → D)
variable {kd}
end
end Go.PX
namespace Go.PX
open Go.RowKit
end Go.PX
namespace Go.PX
open Go.RowKit
section
variable {P : Program} {σ : Type} {Y : Hd σ}
end
end Go.PX
namespace Go.PX
open Go.RowKit
section
variable {P : Program} {T : Tys} {σ : Type}
end
end Go.PX
namespace Go.PX
open Go.RowKit
section
variable {P : Program} {T : Tys} {σ : Type}
end
end Go.PX
namespace Go.PX
inductive Rw where
 | at' (l : List (List D))
 | foc (K n : Nat)
def hdrV (B sz i : Nat) : Rw → V
 | .at' l => .sl (B + i) sz 0 l.length
 | .foc K n => .sl K sz 0 n
def hdrs (B sz : Nat) : Nat → List Rw → List (List V)
 | _, [] => []
 | i, r :: rs => [hdrV B sz i r] :: hdrs B sz (i + 1) rs
def famR (B sz : Nat) : Nat → List Rw → Heap
 | _, [] => []
 | i, .at' l :: rs => (B + i, .arr sz (.dd l)) :: famR B sz (i + 1) rs
 | i, .foc _ _ :: rs => famR B sz (i + 1) rs
theorem get_famR (B sz : Nat) : ∀ (rows : List Rw) (i k : Nat), get (famR B sz i rows) k = if B + i ≤ k then (match rows[k - (B + i)]? with | some (.at' l) => some (.arr sz (.dd l)) | _ => none) else none
 | [], i, k => by simp [famR, get]
 | .at' l :: rs, i, k => by
  rw [famR, get_one, get_famR B sz rs (i + 1) k]
  by_cases h1 : k = B + i
  ·subst h1
   simp
  ·rw [if_neg h1]
   by_cases h2 : B + (i + 1) ≤ k
   ·rw [if_pos h2, if_pos (by omega)]
    have : k - (B + i) = (k - (B + (i + 1))) + 1 := by omega
    rw [this, List.getElem?_cons_succ]
   ·rw [if_neg h2, if_neg (by omega)]
 | .foc K n :: rs, i, k => by
  rw [famR, get_famR B sz rs (i + 1) k]
  by_cases h1 : k = B + i
  ·subst h1
   rw [if_neg (by omega), if_pos (by omega), Nat.sub_self]
   rfl
  ·by_cases h2 : B + (i + 1) ≤ k
   ·rw [if_pos h2, if_pos (by omega)]
    have : k - (B + i) = (k - (B + (i + 1))) + 1 := by omega
    rw [this, List.getElem?_cons_succ]
   ·rw [if_neg h2, if_neg (by omega)]
theorem get_famR_lt {B sz i k : Nat} {rows : List Rw} (h : k < B) : get (famR B sz i rows) k = none := by
 rw [get_famR, if_neg (by omega)]
theorem cut_famR {B sz : Nat} {k : Nat} (h : k < B) : ∀ {rows : List Rw} {i : Nat}, cut (famR B sz i rows) k = famR B sz i rows
 | [], _ => rfl
 | .at' l :: rs, i => by
  have : Nat.beq (B + i) k = false := by rw [Bool.eq_false_iff]; intro e; have := Nat.eq_of_beq_eq_true e; omega
  rw [famR, cut, this]
  simp only
  rw [cut_famR h]
 | .foc K n :: rs, i => by rw [famR]; exact cut_famR h
theorem map_famR {B sz : Nat} (f : V → V) : ∀ {rows : List Rw} {i : Nat}, mapT (Obj.mapId f) (famR B sz i rows) = famR B sz i rows
 | [], _ => rfl
 | .at' l :: rs, i => by
  rw [famR, mapT, map_famR f]; rfl
 | .foc K n :: rs, i => by rw [famR]; exact map_famR f
theorem forceH_fam {T T' : Heap} {K : Heap → Prop} (e : T = T') (h : K T') : forceH T K := by
 subst e
 rw [forceH_eq]; exact h
mutual
def okN (p : Nat → Bool) : V → Bool
 | .d _ => true
 | .agg cs => okNL p cs
 | .tup cs => okNL p cs
 | .clo _ cs => okNL p cs
 | .ptr j _ => p j
 | .ep j _ _ _ => p j
 | .sl j _ _ _ => p j
 | .mp j => p j
 | .it j => p j
 | .yld => true
 | .unk => true
def okNL (p : Nat → Bool) : List V → Bool
 | [] => true
 | v :: r => okN p v && okNL p r
end
def okNLL (p : Nat → Bool) : List (List V) → Bool
 | [] => true
 | v :: r => okNL p v && okNLL p r
def okNO (p : Nat → Bool) : Obj → Bool
 | .box (.dd _) => true
 | .box (.vv l) => okNL p l
 | .arr _ (.dd _) => true
 | .arr _ (.vv l) => okNLL p l
 | .map _ => true
 | .iter _ _ => true
 | .buf _ _ => true
 | .tb _ l => okNL p l
 | .mit v _ _ _ => okN p v
def okNE (p : Nat → Bool) : Env → Bool
 | [] => true
 | (_, v) :: r => okN p v && okNE p r
def okNH (p : Nat → Bool) : Heap → Bool
 | [] => true
 | (k, o) :: r => p k && (okNO p o && okNH p r)
mutual
theorem mapId_same {p : Nat → Bool} {f : V → V} (hf : ∀ v k, idOf v = some k → p k = true → f v = v) : ∀ (v : V), okN p v = true → mapId f v = v
 | .d _, _ => by rw [mapId]
 | .agg cs, h => by rw [mapId, mapIdL_same hf cs (by simpa [okN] using h)]
 | .tup cs, h => by rw [mapId, mapIdL_same hf cs (by simpa [okN] using h)]
 | .clo _ cs, h => by rw [mapId, mapIdL_same hf cs (by simpa [okN] using h)]
 | .ptr j _, h => by rw [mapId]; exact hf _ _ rfl (by simpa [okN] using h)
 | .ep j _ _ _, h => by rw [mapId]; exact hf _ _ rfl (by simpa [okN] using h)
 | .sl j _ _ _, h => by rw [mapId]; exact hf _ _ rfl (by simpa [okN] using h)
 | .mp j, h => by rw [mapId]; exact hf _ _ rfl (by simpa [okN] using h)
 | .it j, h => by rw [mapId]; exact hf _ _ rfl (by simpa [okN] using h)
 | .yld, _ => by rw [mapId]
 | .unk, _ => by rw [mapId]
theorem mapIdL_same {p : Nat → Bool} {f : V → V} (hf : ∀ v k, idOf v = some k → p k = true → f v = v) : ∀ (l : List V), okNL p l = true → mapIdL f l = l
 | [], _ => by rw [mapIdL]
 | v :: r, h => by
  rw [okNL, Bool.and_eq_true] at h
  rw [mapIdL, mapId_same hf v h.1, mapIdL_same hf r h.2]
end
theorem mapIdLL_same {p : Nat → Bool} {f : V → V} (hf : ∀ v k, idOf v = some k → p k = true → f v = v) : ∀ (l : List (List V)), okNLL p l = true → mapIdLL f l = l
 | [], _ => by rw [mapIdLL]
 | v :: r, h => by
  rw [okNLL, Bool.and_eq_true] at h
  rw [mapIdLL, mapIdL_same hf v h.1, mapIdLL_same hf r h.2]
theorem mapIdO_same {p : Nat → Bool} {f : V → V} (hf : ∀ v k, idOf v = some k → p k = true → f v = v) : ∀ (o : Obj), okNO p o = true → Obj.mapId f o = o
 | .box (.dd _), _ => rfl
 | .box (.vv l), h => by show Obj.box (.vv (mapIdL f l)) = _; rw [mapIdL_same hf l h]
 | .arr _ (.dd _), _ => rfl
 | .arr n (.vv l), h => by show Obj.arr n (.vv (mapIdLL f l)) = _; rw [mapIdLL_same hf l h]
 | .map _, _ => rfl
 | .iter _ _, _ => rfl
 | .buf _ _, _ => rfl
 | .tb t l, h => by show Obj.tb t (mapIdL f l) = _; rw [mapIdL_same hf l h]
 | .mit v n l u, h => by show Obj.mit (mapId f v) n l u = _; rw [mapId_same hf v h]
end Go.PX
namespace Go.PX
def lowB (K k : Nat) : Bool := Nat.blt k 3000000 && !Nat.beq k K
theorem lowB_t {K k : Nat} (h : lowB K k = true) : k < 3000000 ∧ k ≠ K := by
 unfold lowB at h
 rw [Bool.and_eq_true] at h
 refine ⟨Nat.le_of_ble_eq_true h.1, ?_⟩
 rintro rfl
 simp at h
theorem beq_no {a b : Nat} (h : a ≠ b) : Nat.beq a b = false := by rw [Bool.eq_false_iff]; exact fun e => h (Nat.eq_of_beq_eq_true e)
theorem kill_low {K j : Nat} (hj : j = K ∨ 3000000 ≤ j) : ∀ v k, idOf v = some k → lowB K k = true → killF j v = v := by
 intro v k hv hk
 have := lowB_t hk
 unfold killF
 rw [hv]
 simp only [beq_no (show k ≠ j by rcases hj with rfl | h <;> omega)]
theorem move_low {K i j : Nat} (hi : i = K ∨ 3000000 ≤ i) : ∀ v k, idOf v = some k → lowB K k = true → moveF i j v = v := by
 intro v k hv hk
 have := lowB_t hk
 have hb := beq_no (show k ≠ i by rcases hi with rfl | h <;> omega)
 cases v <;> simp [idOf] at hv <;> subst hv <;> simp [moveF, hb]
theorem okNE_get {p : Nat → Bool} : ∀ {e : Env} {k : Nat} {v : V}, okNE p e = true → get e k = some v → okN p v = true
 | [], _, _, _, h => by cases h
 | (s, u) :: r, k, v, h, hg => by
  rw [okNE, Bool.and_eq_true] at h
  rw [get_one] at hg
  split at hg
  ·cases hg; exact h.1
  ·exact okNE_get h.2 hg
theorem okNH_get {p : Nat → Bool} : ∀ {e : Heap} {k : Nat} {v : Obj}, okNH p e = true → get e k = some v → p k = true ∧ okNO p v = true
 | [], _, _, _, h => by cases h
 | (s, u) :: r, k, v, h, hg => by
  rw [okNH, Bool.and_eq_true, Bool.and_eq_true] at h
  rw [get_one] at hg
  split at hg
  ·rename_i e; subst e; cases hg; exact ⟨h.1, h.2.1⟩
  ·exact okNH_get h.2.2 hg
theorem get_appM {α : Type} : ∀ (a b : Tab α) (k : Nat), get (a ++ b) k = match get a k with | some v => some v | none => get b k
 | [], b, k => rfl
 | (s, u) :: r, b, k => by
  rw [List.cons_append, get_one, get_one, get_appM r b k]
  split <;> rfl
theorem Wk.moveU {σ : Type} {e : Env} {h : Heap} {s : σ} (i j : Nat) (hj : ¬ pinned j) (hij : i ≠ j) :
  Wk (⟨e, h, s⟩ : St σ) ⟨mapT (mapId (moveF i j)) (mapT (mapId (killF j)) e), moveT i j (mapT (Obj.mapId (killF j)) (cut h j)), s⟩ := by
 intro cx r m L F a w hg
 have h1 : Good cx r m L F ⟨e, cut h j, s⟩ a w := hg.del j
 have h2 := h1.kill j
 have hu := kill_keeps (e := e) (h := h) j (x := j) (.inl rfl)
 exact ⟨_, F, h2.move hj hij hu, Tr.refl F w⟩
theorem Wk.subT {σ : Type} {e e' : Env} {h h' : Heap} {s : σ} (he : SubT e' e) (hh : SubT h' h) : Wk (⟨e, h, s⟩ : St σ) ⟨e', h', s⟩ :=
 fun cx r m L F a w hg => ⟨L, F, hg.sub he hh, Tr.refl F w⟩
theorem Wk.ren {σ : Type} {e : Env} {h h' : Heap} {s : σ} {K : Nat} (i j : Nat) (hj : ¬ pinned j) (hij : i ≠ j) (hi : i = K ∨ 3000000 ≤ i) (hjK : j = K ∨ 3000000 ≤ j) (he : okNE (lowB K) e = true)
  (hh : ∀ k v, get h' k = some v → (k = j ∧ ∃ o, get h i = some o ∧ v = Obj.mapId (moveF i j) (Obj.mapId (killF j) o)) ∨ (k ≠ j ∧ k ≠ i ∧ ∃ o, get h k = some o ∧ v = Obj.mapId (moveF i j) (Obj.mapId (killF j) o))) :
  Wk (⟨e, h, s⟩ : St σ) ⟨e, h', s⟩ := by
 refine (Wk.moveU i j hj hij).trans (Wk.subT ?_ ?_)
 ·intro k v hv
  have hok := okNE_get he hv
  rw [get_mapT, get_mapT, hv]
  simp only [Option.map_some]
  rw [mapId_same (kill_low hjK) v hok, mapId_same (move_low hi) v hok]
 ·intro k v hv
  have hn : get (mapT (Obj.mapId (killF j)) (cut h j)) j = none := by rw [get_mapT, get_cut, if_pos rfl]; rfl
  rw [get_moveT _ hn]
  rcases hh k v hv with ⟨rfl, o, h1, rfl⟩ | ⟨h1, h2, o, h3, rfl⟩
  ·rw [if_pos rfl, get_mapT, get_cut, if_neg hij, h1]; rfl
  ·rw [if_neg h1, if_neg h2, get_mapT, get_cut, if_neg h1, h3]; rfl
def focOk (K : Nat) (rows : List Rw) : Prop := ∀ K' n, Rw.foc K' n ∈ rows → K' < 3000000 ∧ K' ≠ K
theorem hdrs_at (B sz : Nat) : ∀ (rows : List Rw) (i j : Nat) , (hdrs B sz i rows)[j]? = (rows[j]?).map fun r => [hdrV B sz (i + j) r]
 | [], i, j => by simp [hdrs]
 | r :: rs, i, 0 => by simp [hdrs]
 | r :: rs, i, j + 1 => by
  rw [hdrs, List.getElem?_cons_succ, hdrs_at B sz rs (i + 1) j, List.getElem?_cons_succ, show i + 1 + j = i + (j + 1) by omega]
theorem hdrs_len (B sz : Nat) : ∀ (rows : List Rw) (i : Nat), (hdrs B sz i rows).length = rows.length
 | [], i => rfl
 | r :: rs, i => by rw [hdrs, List.length_cons, hdrs_len B sz rs, List.length_cons]
theorem mapIdLL_get (f : V → V) : ∀ (l : List (List V)) (j : Nat), (mapIdLL f l)[j]? = (l[j]?).map (mapIdL f)
 | [], j => by simp [mapIdLL]
 | v :: r, 0 => by simp [mapIdLL]
 | v :: r, j + 1 => by rw [mapIdLL, List.getElem?_cons_succ, mapIdLL_get f r j, List.getElem?_cons_succ]
theorem hdrs_ren {B sz : Nat} {rows : List Rw} {n a b : Nat} {r' : Rw} (hn : n < rows.length)
  (hsame : ∀ j r, rows[j]? = some r → j ≠ n → mapId (moveF a b) (mapId (killF b) (hdrV B sz j r)) = hdrV B sz j r)
  (hnew : ∀ r, rows[n]? = some r → mapId (moveF a b) (mapId (killF b) (hdrV B sz n r)) = hdrV B sz n r') :
  mapIdLL (moveF a b) (mapIdLL (killF b) (hdrs B sz 0 rows)) = hdrs B sz 0 (rows.set n r') := by
 apply List.ext_getElem?
 intro j
 rw [mapIdLL_get, mapIdLL_get, hdrs_at, hdrs_at, List.getElem?_set]
 by_cases hj : n = j
 ·subst hj
  rw [if_pos rfl, if_pos hn]
  obtain ⟨r, hr⟩ : ∃ r, rows[n]? = some r := ⟨_, List.getElem?_eq_getElem hn⟩
  rw [hr]
  simp only [Option.map_some, mapIdL, Nat.zero_add]
  rw [hnew r hr]
 ·rw [if_neg hj]
  cases hr : rows[j]? with
  | none => rfl
  | some r =>
   simp only [Option.map_some, mapIdL, Nat.zero_add]
   rw [hsame j r hr (fun e => hj e.symm)]
theorem hdr_low {B sz K : Nat} (hB : 3000000 ≤ B) {a b i : Nat} (hab : (a = K ∧ b = B + i) ∨ (a = B + i ∧ b = K)) {j : Nat} (hj : j ≠ i) {r : Rw} (hr : ∀ K' n, r = .foc K' n → K' < 3000000 ∧ K' ≠ K) (hK : K < 3000000) :
  mapId (moveF a b) (mapId (killF b) (hdrV B sz j r)) = hdrV B sz j r := by
 have key : ∀ x, x ≠ a → x ≠ b → ∀ sz o n, mapId (moveF a b) (mapId (killF b) (.sl x sz o n)) = .sl x sz o n := by
  intro x h1 h2 sz o n
  have e1 : mapId (killF b) (.sl x sz o n) = .sl x sz o n := by
   rw [mapId, killF]
   simp only [idOf, beq_no h2]
  rw [e1, mapId, moveF]
  simp only [beq_no h1]
 cases r with
 | at' l =>
  refine key _ ?_ ?_ _ _ _ <;> rcases hab with ⟨rfl, rfl⟩ | ⟨rfl, rfl⟩ <;> omega
 | foc K' n =>
  obtain ⟨h1, h2⟩ := hr K' n rfl
  refine key _ ?_ ?_ _ _ _ <;> rcases hab with ⟨rfl, rfl⟩ | ⟨rfl, rfl⟩ <;> omega
end Go.PX
