import Derived.Test.YtpocldjdlookjaaPxL
set_option linter.all false
set_option maxRecDepth 10000
namespace Go.PX
open Go.Proofs
inductive Rp (c : WCase) (set : Int) : Tired → Tired → Prop
 | one {t u : Tired} (h : u ∈ succF c set t) : Rp c set t u
 | cons {t w u : Tired} (h : w ∈ succF c set t) (k : Rp c set w u) : Rp c set t u
theorem Rp.snoc {c : WCase} {set : Int} {t w u : Tired} (h : Rp c set t w) (k : u ∈ succF c set w) : Rp c set t u := by
 induction h with
 | one h => exact .cons h (.one k)
 | cons h _ ih => exact .cons h (ih k)
theorem deadN_rp {c : WCase} {set : Int} {t u : Tired} (h : Rp c set t u) : ∀ {n : Nat}, deadN c set (n + 1) t → deadN c set n u := by
 induction h with
 | one h => exact fun hd => hd _ h
 | cons h _ ih =>
  intro n hd
  have h1 := hd _ h
  cases n with
  | zero => exact h1.elim
  | succ n => exact deadN_up (ih h1)
def alive (c : WCase) (set : Int) (t : Tired) : Prop := ∀ n, ¬ deadN c set n t
theorem alive_cycle {c : WCase} {set : Int} {t : Tired} (h : Rp c set t t) : alive c set t := by
 intro n
 induction n with
 | zero => exact fun h => h
 | succ n ih => exact fun hd => ih (deadN_rp h hd)
theorem alive_succ {c : WCase} {set : Int} {t u : Tired} (h : u ∈ succF c set t) (ha : alive c set u) : alive c set t := by
 intro n hd
 cases n with
 | zero => exact hd
 | succ n => exact ha n (hd u h)
def cntD (c : WCase) (kn : Kn) : Nat := ((univ c).filter fun u => getK kn u != some 3).length
theorem cntD_le (c : WCase) (kn : Kn) : cntD c kn ≤ (univ c).length := List.length_filter_le ..
def Keeps3 (a b : Kn) : Prop := ∀ u, getK a u = some 3 → getK b u = some 3
theorem Keeps3.cnt {c : WCase} {a b : Kn} (h : Keeps3 a b) : cntD c b ≤ cntD c a := by
 refine filter_le (fun u hu => ?_) _
 simp only [bne_iff_ne, ne_eq] at hu ⊢
 exact fun h3 => hu (h u h3)
theorem cntD_put {c : WCase} {kn : Kn} {t : Tired} (ht : InU c t) (h : getK kn t ≠ some 3) : cntD c (putK kn t 3) < cntD c kn := by
 refine filter_lt (fun u hu => ?_) ht.mem ?_ ?_
 ·simp only [bne_iff_ne, ne_eq, get_put_kn] at hu ⊢
  intro h3
  apply hu
  split
  ·rfl
  ·exact h3
 ·simp [h]
 ·simp [get_put_kn]
structure KnTrue (c : WCase) (set : Int) (kn : Kn) : Prop where
 two : ∀ u, getK kn u = some 2 → alive c set u
 three : ∀ u, getK kn u = some 3 → deadN c set ((univ c).length - cntD c kn) u
structure EndPost (c : WCase) (set : Int) (kn : Kn) (t : Tired) (r : Bool × Kn) : Prop where
 yes : r.1 = true → alive c set t
 no : r.1 = false → deadN c set ((univ c).length - cntD c r.2) t
 tru : KnTrue c set r.2
 opn : ∀ u, getK r.2 u = some 1 → getK kn u = some 1
 thr : Keeps3 kn r.2
theorem try_ok {c : WCase} {set : Int} {t : Tired} {f : Kn → Tired → Bool × Kn} {n : Nat} (hf : ∀ kn u, InU c u → cntK c kn ≤ n → KnTrue c set kn → (∀ w, getK kn w = some 1 → Rp c set w u) → EndPost c set kn u (f kn u)) (hle : ∀ kn u, KnLe kn (f kn u).2) :
  ∀ (l : List Tired) (kn : Kn), (∀ u ∈ l, InU c u ∧ u ∈ succF c set t) → cntK c kn ≤ n → KnTrue c set kn → (∀ w, getK kn w = some 1 → w = t ∨ Rp c set w t) →
   ((tryF f kn l).1 = true → ∃ u ∈ l, alive c set u) ∧ ((tryF f kn l).1 = false → ∀ u ∈ l, deadN c set ((univ c).length - cntD c (tryF f kn l).2) u) ∧ KnTrue c set (tryF f kn l).2 ∧ (∀ u, getK (tryF f kn l).2 u = some 1 → getK kn u = some 1) ∧ Keeps3 kn (tryF f kn l).2
 | [], kn, _, _, hk, _ => ⟨fun h => by simp [tryF] at h, fun _ u hu => by simp at hu, hk, fun u hu => hu, fun u hu => hu⟩
 | u :: r, kn, hl, hc, hk, ho => by
  obtain ⟨hu, hus⟩ := hl u (by simp)
  have hp := hf kn u hu hc hk fun w hw => by
   rcases ho w hw with rfl | h
   ·exact .one hus
   ·exact h.snoc hus
  rw [tryF]
  cases hb : (f kn u).1 with
  | true =>
   simp only [if_true]
   exact ⟨fun _ => ⟨u, by simp, hp.yes hb⟩, fun h => by simp at h, hp.tru, hp.opn, hp.thr⟩
  | false =>
   simp only [Bool.false_eq_true, if_false]
   obtain ⟨h1, h2, h3, h4, h5⟩ := try_ok hf hle r (f kn u).2 (fun v hv => hl v (by simp [hv])) (Nat.le_trans (hle kn u).cnt hc) hp.tru fun w hw => ho w (hp.opn w hw)
   refine ⟨fun h => ?_, fun h v hv => ?_, h3, fun v hv => hp.opn v (h4 v hv), fun v hv => h5 v (hp.thr v hv)⟩
   ·obtain ⟨v, hv, hva⟩ := h1 h
    exact ⟨v, by simp [hv], hva⟩
   ·rcases List.mem_cons.1 hv with rfl | hv
    ·refine deadN_le (hp.no hb) ?_
     have := h5.cnt (c := c)
     omega
    ·exact h2 h v hv
theorem endF_ok {c : WCase} (hR : WR c) {set : Int} : ∀ (n : Nat) (kn : Kn) (t : Tired), InU c t → cntK c kn ≤ n → KnTrue c set kn → (∀ w, getK kn w = some 1 → Rp c set w t) → EndPost c set kn t (endF c set n kn t) := by
 intro n
 induction n with
 | zero =>
  intro kn t ht hc hk ho
  have hf : freshK kn t = false := by
   cases h : freshK kn t with
   | false => rfl
   | true => exact absurd (cnt_put ht h) (by omega)
  rw [endF]
  refine ⟨fun h => ?_, fun h => ?_, hk, fun u hu => hu, fun u hu => hu⟩
  ·simp at h
   rcases h with h | h
   ·exact hk.two t h
   ·exact alive_cycle (ho t h)
  ·simp only [Bool.or_eq_false_iff, beq_eq_false_iff_ne] at h
   refine hk.three t ?_
   simp only [freshK, Bool.not_eq_false', Bool.or_eq_true, beq_iff_eq] at hf
   rcases hf with (hf | hf) | hf
   ·exact absurd hf h.2
   ·exact absurd hf h.1
   ·exact hf
 | succ n ih =>
  intro kn t ht hc hk ho
  by_cases hf : freshK kn t = true
  ·have h3 : getK kn t ≠ some 3 := fun h => by rw [freshK, h] at hf; simp at hf
   have hk1 : KnTrue c set (putK kn t 1) := by
    refine ⟨fun u hu => ?_, fun u hu => ?_⟩
    ·rw [get_put_kn] at hu
     split at hu
     ·cases hu
     ·exact hk.two u hu
    ·rw [get_put_kn] at hu
     split at hu
     ·cases hu
     ·refine deadN_le (hk.three u hu) ?_
      have : Keeps3 kn (putK kn t 1) := by
       intro v hv
       rw [get_put_kn]
       split
       ·rename_i e; subst e; exact absurd hv h3
       ·exact hv
      have := this.cnt (c := c)
      omega
   obtain ⟨h1, h2, h4, h5, h6⟩ := try_ok (t := t) ih (fun kn u => endF_le n kn u) ((groupsF c set t).map (fun p : List Int × Tired => p.2)) (putK kn t 1) (fun u hu => ⟨by
    obtain ⟨p, hp, rfl⟩ := List.mem_map.1 hu
    exact groups_InU hR ht hp, (show u ∈ succF c set t from hu)⟩) (by have := cnt_put ht hf; omega) hk1 (fun w hw => by
    rw [get_put_kn] at hw
    split at hw
    ·rename_i e; exact .inl e
    ·exact .inr (ho w hw))
   rw [endF_new hf]
   generalize hr : tryF (endF c set n) (putK kn t 1) ((groupsF c set t).map (·.2)) = r at h1 h2 h4 h5 h6
   have ha : r.1 = true → alive c set t := fun h => by
    obtain ⟨u, hu, hua⟩ := h1 h
    exact alive_succ hu hua
   have hk3 : Keeps3 kn r.2 := fun u hu => h6 u (by
    rw [get_put_kn]
    split
    ·rename_i e; subst e; exact absurd hu h3
    ·exact hu)
   cases hb : r.1 with
   | true =>
    simp only [if_true]
    have hal := ha hb
    have hn3 : getK r.2 t ≠ some 3 := fun h => hal _ (h4.three t h)
    have hkp : Keeps3 r.2 (putK r.2 t 2) := by
     intro v hv
     rw [get_put_kn]
     split
     ·rename_i e; subst e; exact absurd hv hn3
     ·exact hv
    refine ⟨fun _ => hal, fun h => by simp at h, ⟨fun u hu => ?_, fun u hu => ?_⟩, fun u hu => ?_, fun u hu => hkp u (hk3 u hu)⟩
    ·rw [get_put_kn] at hu
     split at hu
     ·rename_i e; subst e; exact hal
     ·exact h4.two u hu
    ·rw [get_put_kn] at hu
     split at hu
     ·cases hu
     ·refine deadN_le (h4.three u hu) ?_
      have := hkp.cnt (c := c)
      show _ ≤ (univ c).length - cntD c (putK r.2 t 2)
      omega
    ·rw [get_put_kn] at hu
     split at hu
     ·cases hu
     ·rename_i e
      have := h5 u hu
      rw [get_put_kn, if_neg e] at this
      exact this
   | false =>
    simp only [Bool.false_eq_true, if_false]
    have hd := h2 hb
    have hkp : Keeps3 r.2 (putK r.2 t 3) := by
     intro v hv
     rw [get_put_kn]
     split
     ·rfl
     ·exact hv
    have hD := cntD_le c r.2
    have hdt : deadN c set ((univ c).length - cntD c r.2 + 1) t := fun u hu => hd u hu
    have hdt' : deadN c set ((univ c).length - cntD c (putK r.2 t 3)) t := by
     by_cases hn3 : getK r.2 t = some 3
     ·refine deadN_le (h4.three t hn3) ?_
      have := hkp.cnt (c := c)
      omega
     ·refine deadN_le hdt ?_
      have := cntD_put ht hn3
      omega
    refine ⟨fun h => by simp at h, fun _ => hdt', ⟨fun u hu => ?_, fun u hu => ?_⟩, fun u hu => ?_, fun u hu => hkp u (hk3 u hu)⟩
    ·rw [get_put_kn] at hu
     split at hu
     ·cases hu
     ·exact h4.two u hu
    ·rw [get_put_kn] at hu
     split at hu
     ·rename_i e; subst e; exact hdt'
     ·refine deadN_le (h4.three u hu) ?_
      have := hkp.cnt (c := c)
      show _ ≤ (univ c).length - cntD c (putK r.2 t 3)
      omega
    ·rw [get_put_kn] at hu
     split at hu
     ·cases hu
     ·rename_i e
      have := h5 u hu
      rw [get_put_kn, if_neg e] at this
      exact this
  ·have hf : freshK kn t = false := by simpa using hf
   simp only [freshK, Bool.not_eq_false', Bool.or_eq_true, beq_iff_eq] at hf
   rcases hf with (hf | hf) | hf
   ·rw [endF_12 (.inr hf)]
    exact ⟨fun _ => alive_cycle (ho t hf), fun h => by simp at h, hk, fun u hu => hu, fun u hu => hu⟩
   ·rw [endF_12 (.inl hf)]
    exact ⟨fun _ => hk.two t hf, fun h => by simp at h, hk, fun u hu => hu, fun u hu => hu⟩
   ·rw [endF_3 hf]
    exact ⟨fun h => by simp at h, fun _ => hk.three t hf, hk, fun u hu => hu, fun u hu => hu⟩
structure KnGood (c : WCase) (set : Int) (kn : Kn) : Prop where
 tru : KnTrue c set kn
 opn : ∀ w, getK kn w ≠ some 1
theorem KnGood.nil {c : WCase} {set : Int} : KnGood c set [] := ⟨⟨fun u h => (by cases h), fun u h => (by cases h)⟩, fun w h => by cases h⟩
def fuelW : Nat := 46656
def endB (c : WCase) (set : Int) (t : Tired) : Bool := (endF c set fuelW [] t).1
theorem univ_fuel {c : WCase} (hR : WR c) : (univ c).length ≤ fuelW := by
 rw [univ_len]
 have := hR.slots
 unfold fuelW
 omega
theorem cntK_fuel {c : WCase} (hR : WR c) (kn : Kn) : cntK c kn ≤ fuelW := Nat.le_trans (List.length_filter_le ..) (univ_fuel hR)
theorem end_post {c : WCase} (hR : WR c) {set : Int} {kn : Kn} (hk : KnGood c set kn) {t : Tired} (ht : InU c t) : EndPost c set kn t (endF c set fuelW kn t) :=
 endF_ok hR fuelW kn t ht (cntK_fuel hR kn) hk.tru fun w hw => absurd hw (hk.opn w)
theorem end_good {c : WCase} (hR : WR c) {set : Int} {kn : Kn} (hk : KnGood c set kn) {t : Tired} (ht : InU c t) : KnGood c set (endF c set fuelW kn t).2 :=
 ⟨(end_post hR hk ht).tru, fun w hw => hk.opn w ((end_post hR hk ht).opn w hw)⟩
theorem end_iff {c : WCase} (hR : WR c) {set : Int} {kn : Kn} (hk : KnGood c set kn) {t : Tired} (ht : InU c t) : (endF c set fuelW kn t).1 = true ↔ alive c set t := by
 have hp := end_post hR hk ht
 refine ⟨hp.yes, fun ha => ?_⟩
 cases hb : (endF c set fuelW kn t).1 with
 | true => rfl
 | false => exact absurd (hp.no hb) (ha _)
theorem endB_iff {c : WCase} (hR : WR c) {set : Int} {t : Tired} (ht : InU c t) : endB c set t = true ↔ alive c set t := end_iff hR .nil ht
theorem end_eq {c : WCase} (hR : WR c) {set : Int} {kn : Kn} (hk : KnGood c set kn) {t : Tired} (ht : InU c t) : (endF c set fuelW kn t).1 = endB c set t := by
 rw [Bool.eq_iff_iff, end_iff hR hk ht, endB_iff hR ht]
theorem dead_fuel {c : WCase} (hR : WR c) {set : Int} {t : Tired} (ht : InU c t) (h : endB c set t = false) : deadN c set fuelW t := by
 refine deadN_le ((end_post hR (set := set) .nil ht).no h) ?_
 have := univ_fuel hR
 omega
end Go.PX
namespace Go.PX
open Go.Proofs
theorem wa72 (c : WCase) (set : Int) : FnU Try.prog 72 [.d (crewD c set)] [] fun v h' => v = .ptr 2000002 0 ∧ h' = [(2000000, .map []), (2000001, .map []), (2000002, .box (.vv [.d (crewD c set), .mp 2000000, .mp 2000001]))] := by
 intro σ Y s
 refine fnC_of mixed tysOk Try.func72 rfl (ft := ft72) (args := [.d (crewD c set)]) (show fnB ft72 Try.f72 1 = true from by decide +kernel) ?_
 conv=>whnf
 exact RetA_hand [4, 5, 7] [.ptr 2000002 0] [(2000000, .map []), (2000001, .map []), (2000002, .box (.vv [.d (crewD c set), .mp 2000000, .mp 2000001]))] rfl ⟨rfl, rfl, rfl, trivial⟩ rfl ⟨⟨rfl, rfl⟩, rfl⟩
theorem end_call {c : WCase} (hR : WR c) {set : Int} {kn : Kn} (hk : KnGood c set kn) (fa : Kn) {t : Tired} (ht : InU c t) : ∃ kn', KnGood c set kn' ∧ FnU Try.prog 73 [.ptr 1000000 0, .d t.d] (webH c set kn fa) fun v h' => v = .d (.bool (endB c set t)) ∧ h' = webH c set kn' fa :=
 ⟨_, end_good hR hk ht, by
  rw [← end_eq hR hk ht]
  exact endOk hR fuelW kn fa t ht (cntK_fuel hR kn)⟩
theorem lon_call {c : WCase} (hR : WR c) {set : Int} (kn : Kn) {t : Tired} (ht : InU c t) (hb : endB c set t = false) : ∃ fa', FnU Try.prog 77 [.ptr 1000000 0, .d t.d] (webH c set kn []) fun v h' => v = .d (i64 (lonF c set fuelW [] t).1) ∧ h' = webH c set kn fa' :=
 ⟨_, lonOk hR fuelW (by decide) kn [] t ht (dead_fuel hR ht hb) (fun t v h => by cases h)⟩
def lonW (c : WCase) : Int := if endB c (allMen c) .zero then -1 else (lonF c (allMen c) fuelW [] .zero).1
theorem wa28 (c : WCase) : FnV Try.prog 28 [c.d] (.tup [i64 (if entE c [] = 0 then lonW c else 0), i64 (entE c [])]) := by
 refine fnV_of mixed tysOk Try.func28 rfl (ft := ft28) 1 (by decide +kernel) (by rfl) fun {σ} Y st => ?_
 conv=>whnf
 refine CallA_nil1 ?_
 refine CallA_v (ds := [c.d, rotaD []]) (wa63 c []) rfl rfl ?_
 conv=>whnf
 by_cases h0 : entE c [] = 0
 ·obtain ⟨hR, hl, _⟩ := ent_ok h0
  rw [h0]
  simp only [if_true]
  conv=>whnf
  refine CallA_fn (wa72 c (allMen c)) [] rfl rfl rfl ?_
  conv=>whnf
  obtain ⟨kn1, hk1, hE⟩ := end_call hR (set := allMen c) .nil [] (InU.zero hR)
  refine CallA_fn hE [101026, 101024, 101025] rfl ?lent rfl ?_
  case lent => exact ⟨_, _, rfl, box_same rfl ⟨rfl, rfl, rfl, trivial⟩, _, _, rfl, rfl, _, _, rfl, rfl, rfl⟩
  unfold lonW
  cases hb : endB c (allMen c) .zero with
  | true =>
   conv=>whnf
   exact RetA_view 0 rfl ⟨⟨rfl, rfl⟩, rfl⟩
  | false =>
   conv=>whnf
   obtain ⟨fa1, hL⟩ := lon_call hR kn1 (InU.zero hR) hb
   generalize (lonF c (allMen c) fuelW [] .zero).1 = lv at hL ⊢
   refine CallA_fn hL [101026, 101024, 101025] rfl ?lent rfl ?_
   case lent => exact ⟨_, _, rfl, box_same rfl ⟨rfl, rfl, rfl, trivial⟩, _, _, rfl, rfl, _, _, rfl, rfl, rfl⟩
   conv=>whnf
   exact RetA_view 0 rfl ⟨⟨rfl, rfl⟩, rfl⟩
 ·rw [if_neg h0, if_neg h0]
  conv=>whnf
  refine brk_i (fun _ => ?_) (fun h1 => absurd h1 (by simp [h0]))
  conv=>whnf
  exact RetA_view 0 rfl ⟨⟨rfl, rfl⟩, rfl⟩
end Go.PX
namespace Go.PX
open Go.Proofs
def nextG (c : WCase) (t : Tired) : List (List Int × Tired) := (groupsF c (allMen c) t).filter fun p => endB c (allMen c) p.2
def nextL (c : WCase) (rota : List (List Int)) : List (List Int) := (nextG c (goodT c rota)).map (·.1)
theorem walk_InU {c : WCase} (hR : WR c) {set : Int} : ∀ {rota : List (List Int)} {t : Tired} {i : Int}, 0 ≤ i → InU c t → (walkF c set t rota i).1.1 = -1 → InU c (walkF c set t rota i).2
 | [], t, i, _, ht, _ => ht
 | r :: rest, t, i, hi, ht, h => by
  rw [walkF] at h ⊢
  split
  ·rename_i h1
   rw [if_pos h1] at h
   exact walk_InU hR (by omega) (behind_InU hR ht h1) h
  ·rename_i h1
   rw [if_neg h1] at h
   simp only at h
   omega
theorem walk_at {c : WCase} {set : Int} : ∀ {rota : List (List Int)} {t : Tired} {i : Int}, (walkF c set t rota i).1.1 = -1 ∨ i ≤ (walkF c set t rota i).1.1
 | [], t, i => .inl rfl
 | r :: rest, t, i => by
  rw [walkF]
  split
  ·rcases walk_at (c := c) (set := set) (rota := rest) (t := behindF c t r) (i := i + 1) with h | h
   ·exact .inl h
   ·exact .inr (by omega)
  ·exact .inr (by simp)
theorem goodT_InU {c : WCase} {rota : List (List Int)} (h0 : goodE c rota = 0) : InU c (goodT c rota) := by
 have hR := (goodT_ok h0).1
 refine walk_InU hR (Int.le_refl 0) (InU.zero hR) ?_
 have hE : entE c rota = 0 := by
  unfold goodE at h0
  split at h0
  ·assumption
  ·exact h0
 rw [goodE, if_pos hE] at h0
 split at h0
 ·cases h0
 ·rename_i h1
  rcases walk_at (c := c) (set := allMen c) (rota := rota) (t := .zero) (i := 0) with h | h
  ·exact h
  ·exact absurd h (by omega)
def nextI (c : WCase) (t : Tired) (acc : List (List Int)) (kn : Kn) : Heap :=
 match acc with
 | [] => [(1500000, .box (.dd c.cells)), (1500001, .box (.dd [.nils])), (1500002, .box (.dd t.cells)), (1500003, .box (.vv [.ptr 1500006 0])), (1500004, .map (knD kn)), (1500005, .map []), (1500006, .box (.vv [.d (crewD c (allMen c)), .mp 1500004, .mp 1500005]))]
 | g :: r => [(1500000, .box (.dd c.cells)), (1500001, .box (.vv [.sl 35 1 0 (g :: r).length])), (1500002, .box (.dd t.cells)), (1500003, .box (.vv [.ptr 1500006 0])), (1500004, .map (knD kn)), (1500005, .map []), (1500006, .box (.vv [.d (crewD c (allMen c)), .mp 1500004, .mp 1500005])), (35, .arr 1 (.dd ((g :: r).map fun r => [intsD r])))]
theorem wa25 (c : WCase) (rota : List (List Int)) : FnV Try.prog 25 [c.d, rotaD rota] (.tup [if goodE c rota = 0 then rotaN (nextL c rota) else .nils, i64 (goodE c rota)]) := by
 refine fnV_of mixed tysOk Try.func25 rfl (ft := (ft25.more 9 [102112])) 2 (by decide +kernel) (by rfl) fun {σ} Y st => ?_
 conv=>whnf
 refine CallA_v (wa66 c rota) rfl rfl ?_
 conv=>whnf
 by_cases h0 : goodE c rota = 0
 ·obtain ⟨hR, hl, hto, hts⟩ := goodT_ok h0
  have hU := goodT_InU h0
  rw [h0]
  simp only [if_true]
  unfold nextL
  generalize goodT c rota = t at hto hts hU ⊢
  conv=>whnf
  refine CallA_fn (wa72 c (allMen c)) [] rfl rfl rfl ?_
  conv=>whnf
  refine CallA_v (wa68 c (allMen c) t) rfl rfl ?_
  conv=>whnf
  refine RangeA_list tysOk (by exact drawsB_spec mixed tysOk (by decide +kernel)) (by exact drawsB_spec mixed tysOk (by decide +kernel)) rfl 1500000 1600000 [2, 4, 7, 8, 101408, 101409, 101410] (by exact yields93 c hR (allMen c) t hto hts)
   (fun (x : List (List Int) × Kn) => (nextI c t x.1 x.2, st))
   (fun rest x => (nextG c t).map (·.1) = x.1 ++ (rest.filter fun p => endB c (allMen c) p.2).map (fun (p : List Int × Tired) => p.1) ∧ KnGood c (allMen c) x.2 ∧ ∀ p ∈ rest, p.1.length ≤ 2 ∧ InU c p.2) ([], []) rfl rfl rfl ⟨rfl, .nil, fun p hp => ⟨groups_len hR hp, groups_InU hR hU hp⟩⟩ ?_ ?_
  ·rintro ⟨g, u⟩ rest ⟨acc, kn⟩ ⟨he, hk, hgs⟩ Q hQ1 -
   obtain ⟨hg2, hu⟩ := hgs (g, u) (by simp)
   have hgl : g.length ≤ 1000 := by simp only at hg2; omega
   refine ⟨⟨rfl, item_okL _⟩, ?_⟩
   obtain ⟨kn', hk', hE⟩ := end_call hR hk [] hu
   have hrest : ∀ p ∈ rest, p.1.length ≤ 2 ∧ InU c p.2 := fun p hp => hgs p (by simp [hp])
   cases acc with
   | nil =>
    conv=>whnf
    refine CallA_fn hE [1500006, 1500004, 1500005] rfl ?lent rfl ?_
    case lent => exact ⟨_, _, rfl, box_same rfl ⟨rfl, rfl, rfl, trivial⟩, _, _, rfl, rfl, _, _, rfl, rfl, rfl⟩
    cases hb : endB c (allMen c) u with
    | false =>
     conv=>whnf
     exact ⟨([], kn'), (Wk.sub trivial ⟨(by first | rfl | (simp only [List.length_map]; rfl) | simp [PX.get]), (by first | rfl | (simp only [List.length_map]; rfl) | simp [PX.get]), (by first | rfl | (simp only [List.length_map]; rfl) | simp [PX.get]), (by first | rfl | (simp only [List.length_map]; rfl) | simp [PX.get]), (by first | rfl | (simp only [List.length_map]; rfl) | simp [PX.get]), (by first | rfl | (simp only [List.length_map]; rfl) | simp [PX.get]), (by first | rfl | (simp only [List.length_map]; rfl) | simp [PX.get]), (by first | rfl | (simp only [List.length_map]; rfl) | simp [PX.get]), trivial⟩), rfl, hQ1 _ ⟨by simpa [hb] using he, hk', hrest⟩⟩
    | true =>
     conv=>whnf
     refine DrawCall_fn (wa69o g hgl) [1600000] rfl ⟨_, _, rfl, rfl, rfl⟩ rfl ?_
     conv=>whnf
     refine ownK_whole rfl ?_
     conv=>whnf
     exact ⟨([g], kn'), (Wk.frzArr 1 [102112] 35 (vs := [[.sl 102112 1 0 g.length]]) (ds := [[intsD g]]) rfl (viewLL_one (viewL_cons (viewV_sl rfl (by simp [intsC])) rfl))).trans (Wk.sub trivial ⟨(by first | rfl | (simp only [List.length_map]; rfl) | simp [PX.get]), (by first | rfl | (simp only [List.length_map]; rfl) | simp [PX.get]), (by first | rfl | (simp only [List.length_map]; rfl) | simp [PX.get]), (by first | rfl | (simp only [List.length_map]; rfl) | simp [PX.get]), (by first | rfl | (simp only [List.length_map]; rfl) | simp [PX.get]), (by first | rfl | (simp only [List.length_map]; rfl) | simp [PX.get]), (by first | rfl | (simp only [List.length_map]; rfl) | simp [PX.get]), (by first | rfl | (simp only [List.length_map]; rfl) | simp [PX.get]), (by first | rfl | (simp only [List.length_map]; rfl) | simp [PX.get]), trivial⟩), rfl, hQ1 _ ⟨by simpa [hb] using he, hk', hrest⟩⟩
   | cons a r =>
    conv=>whnf
    refine CallA_fn hE [1500006, 1500004, 1500005] rfl ?lent rfl ?_
    case lent => exact ⟨_, _, rfl, box_same rfl ⟨rfl, rfl, rfl, trivial⟩, _, _, rfl, rfl, _, _, rfl, rfl, rfl⟩
    cases hb : endB c (allMen c) u with
    | false =>
     conv=>whnf
     exact ⟨(a :: r, kn'), (Wk.sub trivial ⟨(by first | rfl | (simp only [List.length_map]; rfl) | simp [PX.get]), (by first | rfl | (simp only [List.length_map]; rfl) | simp [PX.get]), (by first | rfl | (simp only [List.length_map]; rfl) | simp [PX.get]), (by first | rfl | (simp only [List.length_map]; rfl) | simp [PX.get]), (by first | rfl | (simp only [List.length_map]; rfl) | simp [PX.get]), (by first | rfl | (simp only [List.length_map]; rfl) | simp [PX.get]), (by first | rfl | (simp only [List.length_map]; rfl) | simp [PX.get]), (by first | rfl | (simp only [List.length_map]; rfl) | simp [PX.get]), (by first | rfl | (simp only [List.length_map]; rfl) | simp [PX.get]), trivial⟩), rfl, hQ1 _ ⟨by simpa [hb] using he, hk', hrest⟩⟩
    | true =>
     conv=>whnf
     refine DrawCall_fn (wa69o g hgl) [1600000] rfl ⟨_, _, rfl, rfl, rfl⟩ rfl ?_
     conv=>whnf
     refine ownK_whole rfl ?_
     conv=>whnf
     refine ownK_whole (by simp [Els.len]) ?_
     conv=>whnf
     have hacc : (a :: r).length ≤ 25 := by
      have h1 : ((nextG c t).map (·.1)).length ≤ 25 := by
       rw [List.length_map]; exact Nat.le_trans (List.length_filter_le ..) (groups_many hR)
      rw [he] at h1
      simp at h1 ⊢; omega
     have hfree : (true && !nameBL 35 ((injL ((a :: r).map fun r => [intsD r]) ++ [[V.sl 102112 1 0 g.length]]).flatten)) = true := by
      rw [nameBL_injL]; rfl
     refine chk_i hfree ?_
     conv=>whnf
     refine chk_i (decide_eq_true (by
      show (((a :: r).map fun r => [intsD r]).length + 1) * 24 ≤ 140737488355328
      rw [List.length_map]; omega)) ?_
     conv=>whnf
     refine forceN_to [102112, 35] (by
      show namesOfL ((injL ((a :: r).map fun r => [intsD r]) ++ [[V.sl 102112 1 0 g.length]]).flatten) ++ ([35] ++ []) = _
      rw [namesOfL_injL]; rfl) ?_
     conv=>whnf
     refine ⟨(a :: r ++ [g], kn'), (Wk.frzArr 1 [102112] 35 (sz := 1) (vs := injL ((a :: r).map fun r => [intsD r]) ++ [[.sl 102112 1 0 g.length]]) (ds := ((a :: r).map fun r => [intsD r]) ++ [[intsD g]]) ?_ (viewLL_app (viewLL_one (viewL_cons (viewV_sl rfl (by simp [intsC])) rfl)) _)).trans ?_, rfl, hQ1 _ ⟨by simpa [hb] using he, hk', hrest⟩⟩
     ·rfl
     ·refine Wk.sub trivial ⟨rfl, ?_, rfl, rfl, rfl, rfl, rfl, ?_, rfl, trivial⟩
      ·show some (Obj.box (Cells.vv [V.sl 35 1 0 (((a :: r).map fun r => [intsD r]).length + 1)])) = some (Obj.box (Cells.vv [V.sl 35 1 0 (a :: (r ++ [g])).length]))
       simp
      ·show some (Obj.arr 1 (Els.dd (((a :: r).map fun r => [intsD r]) ++ [[intsD g]]))) = some (Obj.arr 1 (Els.dd ((a :: (r ++ [g])).map fun r => [intsD r])))
       simp
  ·rintro ⟨acc, kn⟩ ⟨he, _, _⟩
   have he : (nextG c t).map (·.1) = acc := by simpa using he
   rw [he]
   cases acc with
   | nil =>
    conv=>whnf
    refine RetA_view 0 rfl ⟨⟨?_, rfl⟩, rfl⟩
    simp [packD, rotaN]
   | cons a r =>
    conv=>whnf
    refine RetA_view 1 (ds := [rotaD (a :: r), i64 0]) ?_ ⟨⟨?_, rfl⟩, rfl⟩
    ·exact viewL_cons (viewV_sl (es := (a :: r).map fun r => [intsD r]) rfl (by simp)) rfl
    ·simp [packD, rotaN]
 ·rw [if_neg h0, if_neg h0]
  conv=>whnf
  refine brk_i (fun _ => ?_) (fun h1 => absurd h1 (by simp [h0]))
  conv=>whnf
  rw [if_neg h0]
  exact RetA_view 0 rfl ⟨⟨rfl, rfl⟩, rfl⟩
end Go.PX
namespace Go.PX
open Go.Proofs
theorem alive_step {c : WCase} {set : Int} {t : Tired} (h : alive c set t) : ∃ u ∈ succF c set t, alive c set u := by
 refine Classical.byContradiction fun hn => ?_
 have h1 : ∀ u ∈ succF c set t, ∃ n, deadN c set n u := fun u hu => Classical.byContradiction fun h2 => hn ⟨u, hu, fun n hd => h2 ⟨n, hd⟩⟩
 have h2 : ∀ l : List Tired, (∀ u ∈ l, ∃ n, deadN c set n u) → ∃ n, ∀ u ∈ l, deadN c set n u := by
  intro l
  induction l with
  | nil => exact fun _ => ⟨0, fun u hu => by cases hu⟩
  | cons a r ih =>
   intro hl
   obtain ⟨n, hn⟩ := ih fun u hu => hl u (by simp [hu])
   obtain ⟨m, hm⟩ := hl a (by simp)
   refine ⟨max n m, fun u hu => ?_⟩
   rcases List.mem_cons.1 hu with rfl | hu
   ·exact deadN_le hm (by omega)
   ·exact deadN_le (hn u hu) (by omega)
 obtain ⟨n, hn'⟩ := h2 _ h1
 exact h (n + 1) hn'
def firstF (c : WCase) (t : Tired) : Option (List Int × Tired) := (groupsF c (allMen c) t).find? fun p => endB c (allMen c) p.2
theorem first_some {c : WCase} (hR : WR c) {t : Tired} (ht : InU c t) (h : endB c (allMen c) t = true) : ∃ p, firstF c t = some p := by
 obtain ⟨u, hu, hua⟩ := alive_step ((endB_iff hR ht).1 h)
 obtain ⟨p, hp, rfl⟩ := List.mem_map.1 hu
 cases hf : firstF c t with
 | some q => exact ⟨q, rfl⟩
 | none =>
  have := List.find?_eq_none.1 hf p hp
  exact absurd ((endB_iff hR (groups_InU hR ht hp)).2 hua) this
def endlF (c : WCase) : Nat → Kn → List (List Int) → Tired → List (List Int) × Int
 | 0, _, _, _ => ([], 0)
 | n + 1, seen, rota, t => match getK seen t with
  | some i => (rota, i)
  | none => match firstF c t with
   | some p => endlF c n (putK seen t rota.length) (rota ++ [p.1]) p.2
   | none => ([], 0)
def endlW (c : WCase) : List (List Int) × Int := endlF c (fuelW + 1) [] [] .zero
def cntN (c : WCase) (kn : Kn) : Nat := ((univ c).filter fun t => getK kn t == none).length
theorem cntN_put {c : WCase} {kn : Kn} {t : Tired} (ht : InU c t) (h : getK kn t = none) (y : Int) : cntN c (putK kn t y) < cntN c kn := by
 refine filter_lt (fun u hu => ?_) ht.mem (by simp [h]) (by simp [get_put_kn])
 simp only [get_put_kn, beq_iff_eq] at hu ⊢
 split at hu
 ·cases hu
 ·exact hu
def endlH (c : WCase) (seen kn : Kn) (rota : List (List Int)) (t : Tired) : Heap :=
 [(2, .box (.vv [.sl 900000 1 0 rota.length])), (900000, .arr 1 (.dd (rota.map fun r => [intsD r]))), (27, .map (knD seen)), (8, .box (.dd t.cells)), (101408, .map (knD kn)), (101409, .map []), (101410, .box (.vv [.d (crewD c (allMen c)), .mp 101408, .mp 101409])), (6, .box (.vv [.ptr 101410 0]))]
theorem wa30 (c : WCase) : FnV Try.prog 30 [c.d] (.tup [if entE c [] = 0 ∧ endB c (allMen c) .zero = true then rotaD (endlW c).1 else .nils, i64 (if entE c [] = 0 ∧ endB c (allMen c) .zero = true then (endlW c).2 else 0), i64 (if entE c [] = 0 then (if endB c (allMen c) .zero = true then 0 else 9) else entE c [])]) := by
 refine fnV_of mixed tysOk Try.func30 rfl (ft := (ft30.more 17 [103328])) 1 (by decide +kernel) (by rfl) fun {σ} Y st => ?_
 conv=>whnf
 refine CallA_nil1 ?_
 refine CallA_v (ds := [c.d, rotaD []]) (wa63 c []) rfl rfl ?_
 conv=>whnf
 by_cases h0 : entE c [] = 0
 ·obtain ⟨hR, hl, _⟩ := ent_ok h0
  rw [h0]
  simp only [if_true, true_and]
  conv=>whnf
  refine CallA_fn (wa72 c (allMen c)) [] rfl rfl rfl ?_
  conv=>whnf
  obtain ⟨kn1, hk1, hE⟩ := end_call hR (set := allMen c) .nil [] (InU.zero hR)
  refine CallA_fn hE [101410, 101408, 101409] rfl ?lent rfl ?_
  case lent => exact ⟨_, _, rfl, box_same rfl ⟨rfl, rfl, rfl, trivial⟩, _, _, rfl, rfl, _, _, rfl, rfl, rfl⟩
  cases hb : endB c (allMen c) .zero with
  | false =>
   conv=>whnf
   exact RetA_view 0 rfl ⟨⟨rfl, rfl⟩, rfl⟩
  | true =>
   simp only [if_true]
   conv=>whnf
   unfold endlW
   generalize hres : endlF c (fuelW + 1) [] [] .zero = res
   refine LoopA_p (T := tys) tysOk (by exact drawsB_spec mixed tysOk (by decide +kernel)) (α := Kn × Kn × List (List Int) × Tired) (fun x => ⟨[(2, .ptr 2 0), (3, .d (i64 0)), (4, .d (i64 0)), (5, .d (crewD c (allMen c))), (6, .ptr 6 0), (7, .mp 27), (8, .ptr 8 0)], endlH c x.1 x.2.1 x.2.2.1 x.2.2.2, st⟩)
    (fun x => InU c x.2.2.2 ∧ KnGood c (allMen c) x.2.1 ∧ endB c (allMen c) x.2.2.2 = true ∧ x.2.2.1.length + cntN c x.1 ≤ fuelW ∧ ∃ n, cntN c x.1 < n ∧ endlF c n x.1 x.2.2.1 x.2.2.2 = res) (fun x => cntN c x.1) ([], kn1, [], .zero)
    ((Wk.bornBox 2 900000 1 rfl rfl rfl rfl).trans (Wk.sub ⟨(by first | rfl | (simp only [List.length_map]; rfl) | simp [PX.get]), (by first | rfl | (simp only [List.length_map]; rfl) | simp [PX.get]), (by first | rfl | (simp only [List.length_map]; rfl) | simp [PX.get]), (by first | rfl | (simp only [List.length_map]; rfl) | simp [PX.get]), (by first | rfl | (simp only [List.length_map]; rfl) | simp [PX.get]), (by first | rfl | (simp only [List.length_map]; rfl) | simp [PX.get]), (by first | rfl | (simp only [List.length_map]; rfl) | simp [PX.get]), trivial⟩ ⟨(by first | rfl | (simp only [List.length_map]; rfl) | simp [PX.get]), (by first | rfl | (simp only [List.length_map]; rfl) | simp [PX.get]), (by first | rfl | (simp only [List.length_map]; rfl) | simp [PX.get]), (by first | rfl | (simp only [List.length_map]; rfl) | simp [PX.get]), (by first | rfl | (simp only [List.length_map]; rfl) | simp [PX.get]), (by first | rfl | (simp only [List.length_map]; rfl) | simp [PX.get]), (by first | rfl | (simp only [List.length_map]; rfl) | simp [PX.get]), (by first | rfl | (simp only [List.length_map]; rfl) | simp [PX.get]), trivial⟩)) ⟨InU.zero hR, hk1, hb, ?_, fuelW + 1, ?_, hres⟩ ?_
   ·have h1 : cntN c [] ≤ (univ c).length := List.length_filter_le ..
    have := univ_fuel hR
    simp; omega
   ·have h1 : cntN c [] ≤ (univ c).length := List.length_filter_le ..
    have := univ_fuel hR
    show cntN c [] < fuelW + 1
    omega
   rintro ⟨seen, kn, rota, t⟩ ⟨ht, hk, ha, hlen, n, hn, hr⟩
   simp only at ht hk ha hlen hn hr
   conv=>whnf
   cases hs : getK seen t with
   | some v =>
    obtain ⟨ix, hx1, hx2⟩ := find_kn_some hs 0
    refine ⟨_, hx1, ?_⟩
    conv=>whnf
    obtain ⟨m, rfl⟩ : ∃ m, n = m + 1 := ⟨n - 1, by omega⟩
    rw [endlF, hs] at hr
    rw [← hr]
    refine RetA_view 1 (ds := [rotaD rota, i64 v, i64 0]) ?_ ⟨⟨rfl, rfl⟩, rfl⟩
    exact viewL_cons (viewV_sl (es := rota.map fun r => [intsD r]) rfl (by simp)) rfl
   | none =>
    refine ⟨none, find_kn_none hs 0, ?_⟩
    conv=>whnf
    refine ⟨none, find_kn_none hs 0, ?_⟩
    conv=>whnf
    refine CallA_v (wa68 c (allMen c) t) rfl rfl ?_
    conv=>whnf
    obtain ⟨m, rfl⟩ : ∃ m, n = m + 1 := ⟨n - 1, by omega⟩
    rw [endlF, hs] at hr
    obtain ⟨⟨g0, u0⟩, hf⟩ := first_some hR ht ha
    rw [hf] at hr
    simp only at hr
    have hcn := cntN_put ht hs rota.length
    have hp0 : (g0, u0) ∈ groupsF c (allMen c) t := List.mem_of_find?_eq_some hf
    have ha0 : endB c (allMen c) u0 = true := by have := List.find?_some hf; exact this
    obtain ⟨hto, hts⟩ := ht.tok hR
    refine RangeA.wk (st' := ⟨[(2, .ptr 2 0), (3, .d (i64 0)), (4, .d (i64 0)), (5, .d (crewD c (allMen c))), (6, .ptr 6 0), (7, .mp 27), (8, .ptr 8 0), (44, .d (.clo 93 [.ref [crewD c (allMen c)], .ref t.cells]))], endlH c (putK seen t rota.length) kn rota t, st⟩) (Wk.sub ⟨rfl, rfl, rfl, rfl, rfl, rfl, rfl, rfl, trivial⟩ ⟨rfl, rfl, by rw [← put_kn_none hs]; rfl, rfl, rfl, rfl, rfl, rfl, trivial⟩) ?_
    refine RangeA_list tysOk (by exact drawsB_spec mixed tysOk (by decide +kernel)) (by exact drawsB_spec mixed tysOk (by decide +kernel)) rfl 1500000 1600000 [2, 900000, 27, 8, 101408, 101409, 101410, 6] (by exact yields93 c hR (allMen c) t hto hts)
     (fun (x : Kn) => ([(1500000, .box (.vv [.sl 1500001 1 0 rota.length])), (1500001, .arr 1 (.dd (rota.map fun r => [intsD r]))), (1500002, .map (knD (putK seen t rota.length))), (1500003, .box (.dd t.cells)), (1500004, .map (knD x)), (1500005, .map []), (1500006, .box (.vv [.d (crewD c (allMen c)), .mp 1500004, .mp 1500005])), (1500007, .box (.vv [.ptr 1500006 0]))], st))
     (fun (rest : List (List Int × Tired)) x => (rest.find? fun p => endB c (allMen c) p.2) = some (g0, u0) ∧ KnGood c (allMen c) x ∧ ∀ p ∈ rest, p.1.length ≤ 2 ∧ InU c p.2) kn rfl rfl rfl ⟨hf, hk, fun p hp => ⟨groups_len hR hp, groups_InU hR ht hp⟩⟩ ?_ ?_
    ·rintro ⟨g, u⟩ rest x ⟨he, hx, hgs⟩ Q hQ1 hQ
     obtain ⟨hg2, hu⟩ := hgs (g, u) (by simp)
     have hgl : g.length ≤ 1000 := by simp only at hg2; omega
     refine ⟨⟨rfl, item_okL _⟩, ?_⟩
     obtain ⟨kn', hk', hE⟩ := end_call hR hx [] hu
     conv=>whnf
     refine CallA_fn hE [1500006, 1500004, 1500005] rfl ?lent rfl ?_
     case lent => exact ⟨_, _, rfl, box_same rfl ⟨rfl, rfl, rfl, trivial⟩, _, _, rfl, rfl, _, _, rfl, rfl, rfl⟩
     cases hb2 : endB c (allMen c) u with
     | false =>
      rw [List.find?_cons_of_neg (by simp [hb2])] at he
      conv=>whnf
      exact ⟨kn', (Wk.sub trivial ⟨(by first | rfl | (simp only [List.length_map]; rfl) | simp [PX.get]), (by first | rfl | (simp only [List.length_map]; rfl) | simp [PX.get]), (by first | rfl | (simp only [List.length_map]; rfl) | simp [PX.get]), (by first | rfl | (simp only [List.length_map]; rfl) | simp [PX.get]), (by first | rfl | (simp only [List.length_map]; rfl) | simp [PX.get]), (by first | rfl | (simp only [List.length_map]; rfl) | simp [PX.get]), (by first | rfl | (simp only [List.length_map]; rfl) | simp [PX.get]), (by first | rfl | (simp only [List.length_map]; rfl) | simp [PX.get]), (by first | rfl | (simp only [List.length_map]; rfl) | simp [PX.get]), trivial⟩), rfl, hQ1 _ ⟨he, hk', fun p hp => hgs p (by simp [hp])⟩⟩
     | true =>
      rw [List.find?_cons_of_pos (by simp [hb2])] at he
      cases he
      conv=>whnf
      refine DrawCall_fn (wa69o g0 hgl) [1600000] rfl ⟨_, _, rfl, rfl, rfl⟩ rfl ?_
      conv=>whnf
      refine ownK_whole rfl ?_
      conv=>whnf
      refine ownK_whole (by simp [Els.len]) ?_
      conv=>whnf
      have hfree : (true && !nameBL 54 ((injL (rota.map fun r => [intsD r]) ++ [[V.sl 103328 1 0 g0.length]]).flatten)) = true := by
       rw [nameBL_injL]; rfl
      refine chk_i hfree ?_
      conv=>whnf
      refine chk_i (decide_eq_true (by
       show ((rota.map fun r => [intsD r]).length + 1) * 24 ≤ 140737488355328
       unfold fuelW at hlen
       rw [List.length_map]; omega)) ?_
      conv=>whnf
      refine forceN_to [103328, 54] (by
       show namesOfL ((injL (rota.map fun r => [intsD r]) ++ [[V.sl 103328 1 0 g0.length]]).flatten) ++ ([54] ++ []) = _
       rw [namesOfL_injL]; rfl) ?_
      conv=>whnf
      refine ⟨[(1500000, .box (.vv [.sl 54 1 0 (rota ++ [g0]).length])), (54, .arr 1 (.dd ((rota ++ [g0]).map fun r => [intsD r]))), (1500002, .map (knD (putK seen t rota.length))), (1500003, .box (.dd u0.cells)), (1500004, .map (knD kn')), (1500005, .map []), (1500006, .box (.vv [.d (crewD c (allMen c)), .mp 1500004, .mp 1500005])), (1500007, .box (.vv [.ptr 1500006 0]))], st, (Wk.frzArr 1 [103328] 54 (sz := 1) (vs := injL (rota.map fun r => [intsD r]) ++ [[.sl 103328 1 0 g0.length]]) (ds := (rota.map fun r => [intsD r]) ++ [[intsD g0]]) ?_ (viewLL_app (viewLL_one (viewL_cons (viewV_sl rfl (by simp [intsC])) rfl)) _)).trans ?_, rfl, hQ _ _ _ ?_⟩
      ·rfl
      ·refine Wk.sub trivial ⟨?_, ?_, rfl, rfl, rfl, rfl, rfl, rfl, rfl, trivial⟩
       ·show some (Obj.box (Cells.vv [V.sl 54 1 0 ((rota.map fun r => [intsD r]).length + 1)])) = some (Obj.box (Cells.vv [V.sl 54 1 0 (rota ++ [g0]).length]))
        simp
       ·show some (Obj.arr 1 (Els.dd ((rota.map fun r => [intsD r]) ++ [[intsD g0]]))) = some (Obj.arr 1 (Els.dd ((rota ++ [g0]).map fun r => [intsD r])))
        simp
      ·conv=>whnf
       refine ⟨(putK seen t rota.length, kn', rota ++ [g0], u0), by simp only; omega, ⟨hu, hk', ha0, by simp only [List.length_append, List.length_singleton]; omega, m, by simp only; omega, hr⟩, (Wk.move 54 900000 rfl rfl).trans (Wk.sub ⟨(by first | rfl | (simp only [List.length_map]; rfl) | simp [PX.get]), (by first | rfl | (simp only [List.length_map]; rfl) | simp [PX.get]), (by first | rfl | (simp only [List.length_map]; rfl) | simp [PX.get]), (by first | rfl | (simp only [List.length_map]; rfl) | simp [PX.get]), (by first | rfl | (simp only [List.length_map]; rfl) | simp [PX.get]), (by first | rfl | (simp only [List.length_map]; rfl) | simp [PX.get]), (by first | rfl | (simp only [List.length_map]; rfl) | simp [PX.get]), trivial⟩ ⟨(by first | rfl | (simp only [List.length_map]; rfl) | simp [PX.get]), (by first | rfl | (simp only [List.length_map]; rfl) | simp [PX.get]), (by first | rfl | (simp only [List.length_map]; rfl) | simp [PX.get]), (by first | rfl | (simp only [List.length_map]; rfl) | simp [PX.get]), (by first | rfl | (simp only [List.length_map]; rfl) | simp [PX.get]), (by first | rfl | (simp only [List.length_map]; rfl) | simp [PX.get]), (by first | rfl | (simp only [List.length_map]; rfl) | simp [PX.get]), (by first | rfl | (simp only [List.length_map]; rfl) | simp [PX.get]), trivial⟩)⟩
    ·rintro x ⟨he, _, _⟩
     simp at he
 ·simp only [h0, false_and, if_false]
  conv=>whnf
  exact RetA_view 0 rfl ⟨⟨rfl, rfl⟩, rfl⟩
end Go.PX
namespace Go.PX
open Go.Proofs
def shrU (n k : Int) : Int := n.fdiv (2 ^ min k.toNat IntKind.u64.bits)
def shlU (n k : Int) : Int := IntKind.u64.wrap (n * 2 ^ min k.toNat IntKind.u64.bits)
def andU (a b : Int) : Int := bitsI .and .u64 a b
def orU (a b : Int) : Int := bitsI .or .u64 a b
def addU (a b : Int) : Int := IntKind.u64.wrap (a + b)
def pop1 (n : Int) : Int := addU (andU (shrU n 1) 6148914691236517205) (andU n 6148914691236517205)
def pop2 (n : Int) : Int := addU (andU (shrU n 2) 3689348814741910323) (andU n 3689348814741910323)
def pop3 (n : Int) : Int := andU (addU (shrU n 4) n) 1085102592571150095
def pop4 (k n : Int) : Int := addU n (shrU n k)
def pop64 (n : Int) : Int := bitsI .and .i64 (IntKind.i64.wrap (pop4 32 (pop4 16 (pop4 8 (pop3 (pop2 (pop1 n))))))) 127
theorem wa110 (n : Int) : FnV Try.prog 110 [.int .u64 n] (i64 (pop64 n)) := by
 refine fnV_of mixed tysOk Try.func110 rfl (ft := ft110) 1 (by decide +kernel) (by rfl) fun {σ} Y st => ?_
 conv=>whnf
 repeat' (first | (refine arith.mk ?_; conv=>whnf) | fail)
 exact RetA_view 0 rfl ⟨⟨rfl, rfl⟩, rfl⟩
def rev1 (k m n : Int) : Int := orU (andU (shrU n k) m) (shlU (andU n m) k)
def revB (n : Int) : Int := orU (shrU (rev1 16 281470681808895 (rev1 8 71777214294589695 n)) 32) (shlU (rev1 16 281470681808895 (rev1 8 71777214294589695 n)) 32)
def rev64 (n : Int) : Int := revB (rev1 4 1085102592571150095 (rev1 2 3689348814741910323 (rev1 1 6148914691236517205 n)))
theorem wa115 (n : Int) : FnV Try.prog 115 [.int .u64 n] (.int .u64 (revB n)) := by
 refine fnV_of mixed tysOk Try.func115 rfl (ft := ft115) 1 (by decide +kernel) (by rfl) fun {σ} Y st => ?_
 conv=>whnf
 repeat' (first | (refine arith.mk ?_; conv=>whnf) | fail)
 exact RetA_view 0 rfl ⟨⟨rfl, rfl⟩, rfl⟩
theorem wa112 (n : Int) : FnV Try.prog 112 [.int .u64 n] (.int .u64 (rev64 n)) := by
 refine fnV_of mixed tysOk Try.func112 rfl (ft := ft112) 1 (by decide +kernel) (by rfl) fun {σ} Y st => ?_
 conv=>whnf
 repeat' (first | (refine arith.mk ?_; conv=>whnf) | fail)
 refine CallA_v (ds := [.int .u64 (rev1 4 1085102592571150095 (rev1 2 3689348814741910323 (rev1 1 6148914691236517205 n)))]) (wa115 _) rfl rfl ?_
 conv=>whnf
 exact RetA_view 0 rfl ⟨⟨rfl, rfl⟩, rfl⟩
theorem wa99 (n : Int) : FnV Try.prog 99 [.int .u64 n] (i64 (pop64 n)) := by
 refine fnV_of mixed tysOk Try.func99 rfl (ft := ft99) 1 (by decide +kernel) (by rfl) fun {σ} Y st => ?_
 conv=>whnf
 refine CallA_v (ds := [.int .u64 n]) (wa110 n) rfl rfl ?_
 conv=>whnf
 exact RetA_view 0 rfl ⟨⟨rfl, rfl⟩, rfl⟩
theorem wa100 (n : Int) : FnV Try.prog 100 [.int .u64 n] (.int .u64 (rev64 n)) := by
 refine fnV_of mixed tysOk Try.func100 rfl (ft := ft100) 1 (by decide +kernel) (by rfl) fun {σ} Y st => ?_
 conv=>whnf
 refine CallA_v (ds := [.int .u64 n]) (wa112 n) rfl rfl ?_
 conv=>whnf
 exact RetA_view 0 rfl ⟨⟨rfl, rfl⟩, rfl⟩
def popC (n : Int) : Int := pop64 (IntKind.u64.wrap n)
def revC (n : Int) : Int := rev64 (IntKind.u64.wrap n)
def beforeB (set best : Int) : Bool := decide (best < 0) || decide (popC set < popC best) || (decide (popC set = popC best) && decide (revC best < revC set))
end Go.PX
namespace Go.PX
open Go.Proofs
theorem wa72o (c : WCase) (set : Int) : FnU Try.prog 72 [.ptr 1000000 0] [(1000000, .box (.dd (crewCells c set)))] fun v h' => v = .ptr 2000002 0 ∧ h' = [(2000000, .map []), (2000001, .map []), (2000002, .box (.vv [.d (crewD c set), .mp 2000000, .mp 2000001]))] := by
 intro σ Y s
 refine fnC_of mixed tysOk Try.func72 rfl (ft := ft72) (args := [.ptr 1000000 0]) (show fnB ft72 Try.f72 1 = true from by decide +kernel) ?_
 conv=>whnf
 refine RetA_wk ((Wk.frz 1 [1000000]).trans (Wk.sub (e' := enterE 0 [.ptr 7 0]) (h' := [(4, .map []), (5, .map []), (7, .box (.vv [.d (crewD c set), .mp 4, .mp 5]))]) ⟨rfl, trivial⟩ ⟨rfl, rfl, rfl, trivial⟩)) rfl rfl ?_
 exact RetA_hand [4, 5, 7] [.ptr 2000002 0] [(2000000, .map []), (2000001, .map []), (2000002, .box (.vv [.d (crewD c set), .mp 2000000, .mp 2000001]))] rfl ⟨rfl, rfl, rfl, trivial⟩ rfl ⟨⟨rfl, rfl⟩, rfl⟩
theorem wa80 (c : WCase) (hR : WR c) (set : Int) : FnV Try.prog 80 [i64 set, .ref c.cells] (.bool (endB c set .zero)) := by
 refine fnV_of mixed tysOk Try.func80 rfl (ft := ft80) 2 (by decide +kernel) (by rfl) fun {σ} Y st => ?_
 conv=>whnf
 refine CallA_fn (wa72o c set) [7] rfl ⟨_, _, rfl, rfl, rfl⟩ rfl ?_
 conv=>whnf
 obtain ⟨kn1, hk1, hE⟩ := end_call hR (set := set) .nil [] (InU.zero hR)
 refine CallA_fn hE [100514, 100512, 100513] rfl ?lent rfl ?_
 case lent => exact ⟨_, _, rfl, box_same rfl ⟨rfl, rfl, rfl, trivial⟩, _, _, rfl, rfl, _, _, rfl, rfl, rfl⟩
 conv=>whnf
 exact RetA_view 0 rfl ⟨⟨rfl, rfl⟩, rfl⟩
def bestF (w : Int → Bool) (best : Int) (set : Int) : Int := if beforeB set best && w set then set else best
def setsL (many : Nat) : List Int := (List.range' 1 (2 ^ many - 1)).map fun (i : Nat) => (i : Int)
def firstS (w : Int → Bool) (many : Nat) : Int := (setsL many).foldl (bestF w) (-1)
def menOf (set : Int) (many : Nat) : List Int := ((List.range many).filter fun (i : Nat) => decide (set ≥ 0) && inSet set i).map fun (i : Nat) => (i : Int)
def intsN (l : List Int) : D := match l with
 | [] => .nils
 | x :: r => intsD (x :: r)
theorem bit_one (set : Int) (j : Nat) : bitsI .and .i64 (set.fdiv (2 ^ min (j : Int).toNat IntKind.i64.bits)) 1 = 0 ∨ bitsI .and .i64 (set.fdiv (2 ^ min (j : Int).toNat IntKind.i64.bits)) 1 = 1 := by
 generalize (set.fdiv (2 ^ min (j : Int).toNat IntKind.i64.bits)) = a
 show IntKind.i64.wrap (BitVec.ofInt 64 a &&& BitVec.ofInt 64 1).toNat = 0 ∨ IntKind.i64.wrap (BitVec.ofInt 64 a &&& BitVec.ofInt 64 1).toNat = 1
 have h : (BitVec.ofInt 64 a &&& BitVec.ofInt 64 1).toNat = (BitVec.ofInt 64 a).toNat % 2 := by
  rw [BitVec.toNat_and]
  exact Nat.and_one_is_mod _
 rw [h]
 have h2 : (BitVec.ofInt 64 a).toNat % 2 = 0 ∨ (BitVec.ofInt 64 a).toNat % 2 = 1 := by omega
 rcases h2 with h2 | h2 <;> rw [h2]
 ·left; decide
 ·right; decide
theorem wa79 (many : Nat) (hm : many ≤ 5) (g : FuncId) (caps : List D) (w : Int → Bool) (hw : ∀ set, FnV Try.prog g (i64 set :: caps) (.bool (w set))) :
  FnV Try.prog 79 [i64 many, .clo g caps] (intsN (menOf (firstS w many) many)) := by
 refine fnV_of mixed tysOk Try.func79 rfl (ft := ft79) 2 (by decide +kernel) (by rfl) fun {σ} Y st => ?_
 conv=>whnf
 have hp : (2 : Int) ^ many ≤ 32 := by
  have : many = 0 ∨ many = 1 ∨ many = 2 ∨ many = 3 ∨ many = 4 ∨ many = 5 := by omega
  rcases this with rfl | rfl | rfl | rfl | rfl | rfl <;> decide
 have hpn : (2 : Nat) ^ many ≤ 32 := by
  have : many = 0 ∨ many = 1 ∨ many = 2 ∨ many = 3 ∨ many = 4 ∨ many = 5 := by omega
  rcases this with rfl | rfl | rfl | rfl | rfl | rfl <;> decide
 have hp1 : 1 ≤ (2 : Nat) ^ many := Nat.one_le_two_pow
 have hpc : (2 : Int) ^ many = ((2 ^ many : Nat) : Int) := by simp
 generalize hres : firstS w many = res
 refine LoopA_p (T := tys) tysOk (by exact drawsB_spec mixed tysOk (by decide +kernel)) (α := Nat × Int) (fun x => ⟨[(0, .d (i64 many)), (1, .d (.clo g caps)), (4, .d .nils), (5, .d (i64 x.2)), (6, .d (i64 x.1))], [], st⟩)
  (fun x => 1 ≤ x.1 ∧ x.1 ≤ 2 ^ many ∧ (-1 ≤ x.2 ∧ x.2 < 32) ∧ ((List.range' x.1 (2 ^ many - x.1)).map fun (i : Nat) => (i : Int)).foldl (bestF w) x.2 = res) (fun x => 2 ^ many - x.1) (1, -1)
  (Wk.sub ⟨(by first | rfl | (simp only [List.length_map]; rfl) | simp [PX.get]), (by first | rfl | (simp only [List.length_map]; rfl) | simp [PX.get]), (by first | rfl | (simp only [List.length_map]; rfl) | simp [PX.get]), (by first | rfl | (simp only [List.length_map]; rfl) | simp [PX.get]), (by first | rfl | (simp only [List.length_map]; rfl) | simp [PX.get]), trivial⟩ trivial) ⟨by simp, hp1, by simp, hres⟩ ?_
 clear hres
 rintro ⟨i, best⟩ ⟨h1, h2, hb, hr⟩
 simp only at h1 h2 hb hr
 conv=>whnf
 refine arith_to ((2 ^ many : Nat) : Int) (by
  rw [show min (many : Int).toNat IntKind.i64.bits = many by show min many 64 = many; omega, Int.one_mul, hpc]) (wrap_i64 (by omega)) ?_
 conv=>whnf
 refine brk_i (fun hlt => ?_) (fun hlt => ?_)
 ·have hlt : i < 2 ^ many := by have := of_decide_eq_true hlt; simp at this; omega
  obtain ⟨k, hk⟩ : ∃ k, 2 ^ many - i = k + 1 := ⟨2 ^ many - i - 1, by omega⟩
  have hk2 : 2 ^ many - (i + 1) = k := by omega
  rw [hk, List.range'_succ, List.map_cons, List.foldl_cons] at hr
  conv=>whnf
  refine arith.mk ?_
  conv=>whnf
  refine CallA_v (ds := [.int .u64 (IntKind.u64.wrap i)]) (wa99 _) rfl rfl ?_
  conv=>whnf
  refine arith.mk ?_
  conv=>whnf
  refine CallA_v (ds := [.int .u64 (IntKind.u64.wrap best)]) (wa99 _) rfl rfl ?_
  conv=>whnf
  refine brk_i (fun hA => ?_) (fun hA => ?_)
  ·have hB : beforeB i best = true := by unfold beforeB; rw [show decide (best < 0) = true from hA]; rfl
   conv=>whnf
   refine CallA_v (ds := i64 i :: caps) (hw i) rfl rfl ?_
   conv=>whnf
   refine brk_i (fun hW => ?_) (fun hW => ?_)
   ·have hW : w i = true := hW
    have hbf : bestF w best i = i := by unfold bestF; rw [hB, hW]; rfl
    rw [hbf] at hr
    conv=>whnf
    refine arith_to (((i + 1 : Nat) : Int)) (by (try dsimp only); omega) (wrap_i64 (by (try dsimp only); omega)) ?_
    conv=>whnf
    exact ⟨(i + 1, (i : Int)), by simp only; omega, ⟨by simp only; omega, by simp only; omega, by simp only; omega, by simp only; rw [hk2]; exact hr⟩, (Wk.sub ⟨(by first | rfl | (simp only [List.length_map]; rfl) | simp [PX.get]), (by first | rfl | (simp only [List.length_map]; rfl) | simp [PX.get]), (by first | rfl | (simp only [List.length_map]; rfl) | simp [PX.get]), (by first | rfl | (simp only [List.length_map]; rfl) | simp [PX.get]), (by first | rfl | (simp only [List.length_map]; rfl) | simp [PX.get]), trivial⟩ trivial)⟩
   ·have hW : w i = false := hW
    have hbf : bestF w best i = best := by unfold bestF; rw [hB, hW]; rfl
    rw [hbf] at hr
    conv=>whnf
    refine arith_to (((i + 1 : Nat) : Int)) (by (try dsimp only); omega) (wrap_i64 (by (try dsimp only); omega)) ?_
    conv=>whnf
    exact ⟨(i + 1, best), by simp only; omega, ⟨by simp only; omega, by simp only; omega, hb, by simp only; rw [hk2]; exact hr⟩, (Wk.sub ⟨(by first | rfl | (simp only [List.length_map]; rfl) | simp [PX.get]), (by first | rfl | (simp only [List.length_map]; rfl) | simp [PX.get]), (by first | rfl | (simp only [List.length_map]; rfl) | simp [PX.get]), (by first | rfl | (simp only [List.length_map]; rfl) | simp [PX.get]), (by first | rfl | (simp only [List.length_map]; rfl) | simp [PX.get]), trivial⟩ trivial)⟩
  have hA : decide (best < 0) = false := hA
  conv=>whnf
  refine brk_i (fun hB1 => ?_) (fun hB1 => ?_)
  ·have hB1 : decide (popC i < popC best) = true := hB1
   have hB : beforeB i best = true := by unfold beforeB; rw [hA, hB1]; rfl
   conv=>whnf
   refine CallA_v (ds := i64 i :: caps) (hw i) rfl rfl ?_
   conv=>whnf
   refine brk_i (fun hW => ?_) (fun hW => ?_)
   ·have hW : w i = true := hW
    have hbf : bestF w best i = i := by unfold bestF; rw [hB, hW]; rfl
    rw [hbf] at hr
    conv=>whnf
    refine arith_to (((i + 1 : Nat) : Int)) (by (try dsimp only); omega) (wrap_i64 (by (try dsimp only); omega)) ?_
    conv=>whnf
    exact ⟨(i + 1, (i : Int)), by simp only; omega, ⟨by simp only; omega, by simp only; omega, by simp only; omega, by simp only; rw [hk2]; exact hr⟩, (Wk.sub ⟨(by first | rfl | (simp only [List.length_map]; rfl) | simp [PX.get]), (by first | rfl | (simp only [List.length_map]; rfl) | simp [PX.get]), (by first | rfl | (simp only [List.length_map]; rfl) | simp [PX.get]), (by first | rfl | (simp only [List.length_map]; rfl) | simp [PX.get]), (by first | rfl | (simp only [List.length_map]; rfl) | simp [PX.get]), trivial⟩ trivial)⟩
   ·have hW : w i = false := hW
    have hbf : bestF w best i = best := by unfold bestF; rw [hB, hW]; rfl
    rw [hbf] at hr
    conv=>whnf
    refine arith_to (((i + 1 : Nat) : Int)) (by (try dsimp only); omega) (wrap_i64 (by (try dsimp only); omega)) ?_
    conv=>whnf
    exact ⟨(i + 1, best), by simp only; omega, ⟨by simp only; omega, by simp only; omega, hb, by simp only; rw [hk2]; exact hr⟩, (Wk.sub ⟨(by first | rfl | (simp only [List.length_map]; rfl) | simp [PX.get]), (by first | rfl | (simp only [List.length_map]; rfl) | simp [PX.get]), (by first | rfl | (simp only [List.length_map]; rfl) | simp [PX.get]), (by first | rfl | (simp only [List.length_map]; rfl) | simp [PX.get]), (by first | rfl | (simp only [List.length_map]; rfl) | simp [PX.get]), trivial⟩ trivial)⟩
  have hB1 : decide (popC i < popC best) = false := hB1
  conv=>whnf
  refine brk_i (fun hC => ?_) (fun hC => ?_)
  ·have hC : decide (popC i = popC best) = true := hC
   conv=>whnf
   refine arith.mk ?_
   conv=>whnf
   refine CallA_v (ds := [.int .u64 (IntKind.u64.wrap i)]) (wa100 _) rfl rfl ?_
   conv=>whnf
   refine arith.mk ?_
   conv=>whnf
   refine CallA_v (ds := [.int .u64 (IntKind.u64.wrap best)]) (wa100 _) rfl rfl ?_
   conv=>whnf
   refine brk_i (fun hD => ?_) (fun hD => ?_)
   ·have hD : decide (revC best < revC i) = true := hD
    have hB : beforeB i best = true := by unfold beforeB; rw [hA, hB1, hC, hD]; rfl
    conv=>whnf
    refine CallA_v (ds := i64 i :: caps) (hw i) rfl rfl ?_
    conv=>whnf
    refine brk_i (fun hW => ?_) (fun hW => ?_)
    ·have hW : w i = true := hW
     have hbf : bestF w best i = i := by unfold bestF; rw [hB, hW]; rfl
     rw [hbf] at hr
     conv=>whnf
     refine arith_to (((i + 1 : Nat) : Int)) (by (try dsimp only); omega) (wrap_i64 (by (try dsimp only); omega)) ?_
     conv=>whnf
     exact ⟨(i + 1, (i : Int)), by simp only; omega, ⟨by simp only; omega, by simp only; omega, by simp only; omega, by simp only; rw [hk2]; exact hr⟩, (Wk.sub ⟨(by first | rfl | (simp only [List.length_map]; rfl) | simp [PX.get]), (by first | rfl | (simp only [List.length_map]; rfl) | simp [PX.get]), (by first | rfl | (simp only [List.length_map]; rfl) | simp [PX.get]), (by first | rfl | (simp only [List.length_map]; rfl) | simp [PX.get]), (by first | rfl | (simp only [List.length_map]; rfl) | simp [PX.get]), trivial⟩ trivial)⟩
    ·have hW : w i = false := hW
     have hbf : bestF w best i = best := by unfold bestF; rw [hB, hW]; rfl
     rw [hbf] at hr
     conv=>whnf
     refine arith_to (((i + 1 : Nat) : Int)) (by (try dsimp only); omega) (wrap_i64 (by (try dsimp only); omega)) ?_
     conv=>whnf
     exact ⟨(i + 1, best), by simp only; omega, ⟨by simp only; omega, by simp only; omega, hb, by simp only; rw [hk2]; exact hr⟩, (Wk.sub ⟨(by first | rfl | (simp only [List.length_map]; rfl) | simp [PX.get]), (by first | rfl | (simp only [List.length_map]; rfl) | simp [PX.get]), (by first | rfl | (simp only [List.length_map]; rfl) | simp [PX.get]), (by first | rfl | (simp only [List.length_map]; rfl) | simp [PX.get]), (by first | rfl | (simp only [List.length_map]; rfl) | simp [PX.get]), trivial⟩ trivial)⟩
   ·have hD : decide (revC best < revC i) = false := hD
    have hB : beforeB i best = false := by unfold beforeB; rw [hA, hB1, hC, hD]; rfl
    conv=>whnf
    refine arith_to (((i + 1 : Nat) : Int)) (by (try dsimp only); omega) (wrap_i64 (by (try dsimp only); omega)) ?_
    conv=>whnf
    have hbf : bestF w best i = best := by unfold bestF; rw [hB]; rfl
    rw [hbf] at hr
    exact ⟨(i + 1, best), by simp only; omega, ⟨by simp only; omega, by simp only; omega, hb, by simp only; rw [hk2]; exact hr⟩, (Wk.sub ⟨(by first | rfl | (simp only [List.length_map]; rfl) | simp [PX.get]), (by first | rfl | (simp only [List.length_map]; rfl) | simp [PX.get]), (by first | rfl | (simp only [List.length_map]; rfl) | simp [PX.get]), (by first | rfl | (simp only [List.length_map]; rfl) | simp [PX.get]), (by first | rfl | (simp only [List.length_map]; rfl) | simp [PX.get]), trivial⟩ trivial)⟩
  ·have hC : decide (popC i = popC best) = false := hC
   have hB : beforeB i best = false := by unfold beforeB; rw [hA, hB1, hC]; rfl
   conv=>whnf
   refine arith_to (((i + 1 : Nat) : Int)) (by (try dsimp only); omega) (wrap_i64 (by (try dsimp only); omega)) ?_
   conv=>whnf
   have hbf : bestF w best i = best := by unfold bestF; rw [hB]; rfl
   rw [hbf] at hr
   exact ⟨(i + 1, best), by simp only; omega, ⟨by simp only; omega, by simp only; omega, hb, by simp only; rw [hk2]; exact hr⟩, (Wk.sub ⟨(by first | rfl | (simp only [List.length_map]; rfl) | simp [PX.get]), (by first | rfl | (simp only [List.length_map]; rfl) | simp [PX.get]), (by first | rfl | (simp only [List.length_map]; rfl) | simp [PX.get]), (by first | rfl | (simp only [List.length_map]; rfl) | simp [PX.get]), (by first | rfl | (simp only [List.length_map]; rfl) | simp [PX.get]), trivial⟩ trivial)⟩
 ·have hlt : ¬ i < 2 ^ many := by have := of_decide_eq_false hlt; simp at this; omega
  rw [show 2 ^ many - i = 0 by omega] at hr
  have hr : best = res := hr
  subst hr
  conv=>whnf
  generalize hM : menOf best many = M
  refine LoopA_i (T := tys) tysOk (by exact drawsB_spec mixed tysOk (by decide +kernel)) (List.range many) (fun j (acc : List Int) => ⟨[(4, match acc with
    | [] => .d .nils
    | x :: r => .sl 67 1 0 (x :: r).length), (5, .d (i64 best)), (51, .d (i64 many)), (52, .d (i64 j))], match acc with
    | [] => []
    | x :: r => [(67, .arr 1 (.dd (intsC (x :: r))))], st⟩)
   (fun j r acc => acc.length ≤ j ∧ M = acc ++ (r.filter fun (i : Nat) => decide (best ≥ 0) && inSet best i).map fun (i : Nat) => (i : Int)) [] (Wk.sub ⟨(by first | rfl | (simp only [List.length_map]; rfl) | simp [PX.get]), (by first | rfl | (simp only [List.length_map]; rfl) | simp [PX.get]), (by first | rfl | (simp only [List.length_map]; rfl) | simp [PX.get]), (by first | rfl | (simp only [List.length_map]; rfl) | simp [PX.get]), trivial⟩ trivial) ⟨by simp, hM.symm⟩ ?_ ?_
  ·intro j x r acc hx hj hr2 hi
   obtain ⟨hal, he⟩ := hi
   have hxj : j = x := by
    rw [List.getElem?_range (by simpa using hj)] at hx
    exact Option.some.inj hx
   subst hxj
   have hjm : j < many := by simpa using hj
   have hbit := bit_one best j
   have hfl : ∀ b : Bool, (decide (best ≥ 0) && inSet best j) = b → ((j :: r).filter fun (i : Nat) => decide (best ≥ 0) && inSet best i) = (if b then [j] else []) ++ r.filter fun (i : Nat) => decide (best ≥ 0) && inSet best i := by
    intro b hb
    rw [List.filter_cons, hb]
    cases b <;> rfl
   cases acc with
   | nil =>
    conv=>whnf
    refine brk_i (fun _ => ?_) (fun h => absurd hjm (by have := of_decide_eq_false h; omega))
    conv=>whnf
    refine brk_i (fun h0 => ?_) (fun h0 => ?_)
    ·have h0 : decide (best ≥ 0) = true := h0
     conv=>whnf
     refine brk_i (fun h3 => ?_) (fun h3 => ?_)
     ·have h3 : bitsI .and .i64 (best.fdiv (2 ^ min (j : Int).toNat IntKind.i64.bits)) 1 = 1 := of_decide_eq_true h3
      have h4 : inSet best j = true := by
       show (!decide (bitsI .and .i64 (best.fdiv (2 ^ min (j : Int).toNat IntKind.i64.bits)) 1 = 0)) = true
       rw [h3]; rfl
      rw [hfl true (by rw [h0, h4]; rfl)] at he
      conv=>whnf
      refine ownK_whole rfl ?_
      conv=>whnf
      refine arith_in (wrap_i64 (by (try dsimp only); omega)) ?_
      conv=>whnf
      refine ⟨[(j : Int)], ⟨by simp, by simpa using he⟩, (Wk.sub ⟨(by first | rfl | (simp only [List.length_map]; rfl) | simp [PX.get]), (by first | rfl | (simp only [List.length_map]; rfl) | simp [PX.get]), (by first | rfl | (simp only [List.length_map]; rfl) | simp [PX.get]), (by first | rfl | (simp only [List.length_map]; rfl) | simp [PX.get]), trivial⟩ ⟨(by first | rfl | (simp only [List.length_map]; rfl) | simp [PX.get]), trivial⟩)⟩
     ·have h3 : ¬ bitsI .and .i64 (best.fdiv (2 ^ min (j : Int).toNat IntKind.i64.bits)) 1 = 1 := of_decide_eq_false h3
      have h4 : inSet best j = false := by
       show (!decide (bitsI .and .i64 (best.fdiv (2 ^ min (j : Int).toNat IntKind.i64.bits)) 1 = 0)) = false
       rcases hbit with hb0 | hb0
       ·rw [hb0]; rfl
       ·exact absurd hb0 h3
      rw [hfl false (by rw [h4, Bool.and_false])] at he
      conv=>whnf
      refine arith_in (wrap_i64 (by (try dsimp only); omega)) ?_
      conv=>whnf
      refine ⟨[], ⟨by simp, by simpa using he⟩, (Wk.sub ⟨(by first | rfl | (simp only [List.length_map]; rfl) | simp [PX.get]), (by first | rfl | (simp only [List.length_map]; rfl) | simp [PX.get]), (by first | rfl | (simp only [List.length_map]; rfl) | simp [PX.get]), (by first | rfl | (simp only [List.length_map]; rfl) | simp [PX.get]), trivial⟩ trivial)⟩
    ·have h0 : decide (best ≥ 0) = false := h0
     rw [hfl false (by rw [h0]; rfl)] at he
     conv=>whnf
     refine arith_in (wrap_i64 (by (try dsimp only); omega)) ?_
     conv=>whnf
     refine ⟨[], ⟨by simp, by simpa using he⟩, (Wk.sub ⟨(by first | rfl | (simp only [List.length_map]; rfl) | simp [PX.get]), (by first | rfl | (simp only [List.length_map]; rfl) | simp [PX.get]), (by first | rfl | (simp only [List.length_map]; rfl) | simp [PX.get]), (by first | rfl | (simp only [List.length_map]; rfl) | simp [PX.get]), trivial⟩ trivial)⟩
   | cons a l =>
    conv=>whnf
    refine brk_i (fun _ => ?_) (fun h => absurd hjm (by have := of_decide_eq_false h; omega))
    conv=>whnf
    refine brk_i (fun h0 => ?_) (fun h0 => ?_)
    ·have h0 : decide (best ≥ 0) = true := h0
     conv=>whnf
     refine brk_i (fun h3 => ?_) (fun h3 => ?_)
     ·have h3 : bitsI .and .i64 (best.fdiv (2 ^ min (j : Int).toNat IntKind.i64.bits)) 1 = 1 := of_decide_eq_true h3
      have h4 : inSet best j = true := by
       show (!decide (bitsI .and .i64 (best.fdiv (2 ^ min (j : Int).toNat IntKind.i64.bits)) 1 = 0)) = true
       rw [h3]; rfl
      rw [hfl true (by rw [h0, h4]; rfl)] at he
      conv=>whnf
      refine ownK_whole rfl ?_
      conv=>whnf
      refine ownK_whole (by simp [Els.len, intsC]) ?_
      conv=>whnf
      refine chk_i (decide_eq_true (by
       show ((intsC (a :: l)).length + 1) * 8 ≤ 140737488355328
       simp [intsC] at hal ⊢; omega)) ?_
      conv=>whnf
      refine arith_in (wrap_i64 (by (try dsimp only); omega)) ?_
      conv=>whnf
      refine ⟨a :: l ++ [(j : Int)], ⟨by simp at hal ⊢; omega, by simpa using he⟩, Wk.sub ⟨?_, rfl, rfl, rfl, trivial⟩ ⟨?_, trivial⟩⟩
      ·show some (V.sl 67 1 0 ((intsC (a :: l)).length + 1)) = some (V.sl 67 1 0 (a :: (l ++ [(j : Int)])).length)
       simp [intsC]
      ·show some (Obj.arr 1 (Els.dd (intsC (a :: l) ++ [[i64 (j : Int)]]))) = some (Obj.arr 1 (Els.dd (intsC (a :: (l ++ [(j : Int)])))))
       simp [intsC]
     ·have h3 : ¬ bitsI .and .i64 (best.fdiv (2 ^ min (j : Int).toNat IntKind.i64.bits)) 1 = 1 := of_decide_eq_false h3
      have h4 : inSet best j = false := by
       show (!decide (bitsI .and .i64 (best.fdiv (2 ^ min (j : Int).toNat IntKind.i64.bits)) 1 = 0)) = false
       rcases hbit with hb0 | hb0
       ·rw [hb0]; rfl
       ·exact absurd hb0 h3
      rw [hfl false (by rw [h4, Bool.and_false])] at he
      conv=>whnf
      refine arith_in (wrap_i64 (by (try dsimp only); omega)) ?_
      conv=>whnf
      refine ⟨a :: l, ⟨by simp at hal ⊢; omega, by simpa using he⟩, (Wk.sub ⟨(by first | rfl | (simp only [List.length_map]; rfl) | simp [PX.get]), (by first | rfl | (simp only [List.length_map]; rfl) | simp [PX.get]), (by first | rfl | (simp only [List.length_map]; rfl) | simp [PX.get]), (by first | rfl | (simp only [List.length_map]; rfl) | simp [PX.get]), trivial⟩ ⟨(by first | rfl | (simp only [List.length_map]; rfl) | simp [PX.get]), trivial⟩)⟩
    ·have h0 : decide (best ≥ 0) = false := h0
     rw [hfl false (by rw [h0]; rfl)] at he
     conv=>whnf
     refine arith_in (wrap_i64 (by (try dsimp only); omega)) ?_
     conv=>whnf
     refine ⟨a :: l, ⟨by simp at hal ⊢; omega, by simpa using he⟩, (Wk.sub ⟨(by first | rfl | (simp only [List.length_map]; rfl) | simp [PX.get]), (by first | rfl | (simp only [List.length_map]; rfl) | simp [PX.get]), (by first | rfl | (simp only [List.length_map]; rfl) | simp [PX.get]), (by first | rfl | (simp only [List.length_map]; rfl) | simp [PX.get]), trivial⟩ ⟨(by first | rfl | (simp only [List.length_map]; rfl) | simp [PX.get]), trivial⟩)⟩
  ·rintro acc ⟨_, he⟩
   have he : M = acc := by simpa using he
   rw [he]
   cases acc with
   | nil =>
    conv=>whnf
    refine brk_i (fun h => absurd h (by simp)) (fun _ => ?_)
    conv=>whnf
    exact RetA_view 0 rfl ⟨⟨rfl, rfl⟩, rfl⟩
   | cons a l =>
    conv=>whnf
    refine brk_i (fun h => absurd h (by simp)) (fun _ => ?_)
    conv=>whnf
    refine RetA_view 1 (ds := [intsD (a :: l)]) ?_ ⟨⟨rfl, rfl⟩, rfl⟩
    exact viewL_cons (viewV_sl (es := intsC (a :: l)) rfl (by simp [intsC])) rfl
end Go.PX
namespace Go.PX
open Go.Proofs
def fewL (c : WCase) : List Int := menOf (firstS (fun set => endB c set .zero) c.men.length) c.men.length
theorem wa32 (c : WCase) : FnV Try.prog 32 [c.d] (.tup [if entE c [] = 0 then intsN (fewL c) else .nils, i64 (if entE c [] = 0 then (if fewL c = [] then 9 else 0) else entE c [])]) := by
 refine fnV_of mixed tysOk Try.func32 rfl (ft := ft32) 1 (by decide +kernel) (by rfl) fun {σ} Y st => ?_
 conv=>whnf
 refine CallA_nil1 ?_
 refine CallA_v (ds := [c.d, rotaD []]) (wa63 c []) rfl rfl ?_
 conv=>whnf
 by_cases h0 : entE c [] = 0
 ·obtain ⟨hR, hl, _⟩ := ent_ok h0
  have hm := hR.men
  rw [h0]
  simp only [if_true]
  conv=>whnf
  refine CallA_fz (ds := [i64 c.men.length, .clo 80 [.ref c.cells]]) (wa79 c.men.length hm.2 80 [.ref c.cells] (fun set => endB c set .zero) fun set => wa80 c hR set) 2 [1] ?_ rfl ?_
  ·show some [D.int .i64 ((List.map Man.cells c.men).length : Int), .clo 80 [.ref c.cells]] = _
   rw [List.length_map]
  have hf : menOf (firstS (fun set => endB c set Tired.zero) c.men.length) c.men.length = fewL c := rfl
  rw [hf]
  cases hL : fewL c with
  | nil =>
   conv=>whnf
   refine ⟨fun b hb => ?_⟩
   cases hb trivial
   conv=>whnf
   exact RetA_view 0 rfl ⟨⟨rfl, rfl⟩, rfl⟩
  | cons a l =>
   conv=>whnf
   refine ⟨fun b hb => ?_⟩
   cases hb (by simp)
   conv=>whnf
   exact RetA_view 0 rfl ⟨⟨rfl, rfl⟩, rfl⟩
 ·simp only [h0, if_false]
  conv=>whnf
  exact RetA_view 0 rfl ⟨⟨rfl, rfl⟩, rfl⟩
def butSet (c : WCase) (m : Int) : Int := bitsI .andNot .i64 (allMen c) (2 ^ m.toNat)
def needL (c : WCase) : List Int := ((List.range c.men.length).filter fun (i : Nat) => !endB c (butSet c i) .zero).map fun (i : Nat) => (i : Int)
theorem wa34 (c : WCase) : FnV Try.prog 34 [c.d] (.tup [if entE c [] = 0 ∧ endB c (allMen c) .zero = true then intsN (needL c) else .nils, i64 (if entE c [] = 0 then (if endB c (allMen c) .zero = true then 0 else 9) else entE c [])]) := by
 refine fnV_of mixed tysOk Try.func34 rfl (ft := (ft34.more 9 [102240, 102241, 102242])) 1 (by decide +kernel) (by rfl) fun {σ} Y st => ?_
 conv=>whnf
 refine CallA_nil1 ?_
 refine CallA_v (ds := [c.d, rotaD []]) (wa63 c []) rfl rfl ?_
 conv=>whnf
 by_cases h0 : entE c [] = 0
 ·obtain ⟨hR, hl, _⟩ := ent_ok h0
  have hm := hR.men
  rw [h0]
  simp only [if_true, true_and]
  conv=>whnf
  refine CallA_fn (wa72 c (allMen c)) [] rfl rfl rfl ?_
  conv=>whnf
  obtain ⟨kn1, hk1, hE⟩ := end_call hR (set := allMen c) .nil [] (InU.zero hR)
  refine CallA_fn hE [100962, 100960, 100961] rfl ?lent rfl ?_
  case lent => exact ⟨_, _, rfl, box_same rfl ⟨rfl, rfl, rfl, trivial⟩, _, _, rfl, rfl, _, _, rfl, rfl, rfl⟩
  cases hb : endB c (allMen c) .zero with
  | false =>
   conv=>whnf
   exact RetA_view 0 rfl ⟨⟨rfl, rfl⟩, rfl⟩
  | true =>
   simp only [if_true]
   conv=>whnf
   generalize hM : needL c = M
   rw [List.length_map]
   refine LoopA_i (T := tys) tysOk (by exact drawsB_spec mixed tysOk (by decide +kernel)) (List.range c.men.length) (fun j (acc : List Int) => ⟨[(1, .ptr 1 0), (2, match acc with
     | [] => .d .nils
     | x :: r => .sl 42 1 0 (x :: r).length), (4, .d (crewD c (allMen c))), (21, .d (i64 c.men.length)), (22, .d (i64 j))], match acc with
     | [] => [(1, .box (.dd c.cells))]
     | x :: r => [(1, .box (.dd c.cells)), (42, .arr 1 (.dd (intsC (x :: r))))], st⟩)
    (fun j r acc => acc.length ≤ j ∧ M = acc ++ (r.filter fun (i : Nat) => !endB c (butSet c i) .zero).map fun (i : Nat) => (i : Int)) [] (Wk.sub ⟨(by first | rfl | (simp only [List.length_map]; rfl) | simp [PX.get]), (by first | rfl | (simp only [List.length_map]; rfl) | simp [PX.get]), (by first | rfl | (simp only [List.length_map]; rfl) | simp [PX.get]), (by first | rfl | (simp only [List.length_map]; rfl) | simp [PX.get]), (by first | rfl | (simp only [List.length_map]; rfl) | simp [PX.get]), trivial⟩ ⟨(by first | rfl | (simp only [List.length_map]; rfl) | simp [PX.get]), trivial⟩) ⟨by simp, hM.symm⟩ ?_ ?_
   ·intro j x r acc hx hj hr2 hi
    obtain ⟨hal, he⟩ := hi
    have hxj : j = x := by
     rw [List.getElem?_range (by simpa using hj)] at hx
     exact Option.some.inj hx
    subst hxj
    have hjm : j < c.men.length := by simpa using hj
    have hpw : (1 : Int) * 2 ^ min (j : Int).toNat IntKind.i64.bits = 2 ^ ((j : Int).toNat) := by
     rw [show min (j : Int).toNat IntKind.i64.bits = j by show min j 64 = j; omega, Int.one_mul]; rfl
    have hpb : (2 : Int) ^ ((j : Int).toNat) ≤ 32 ∧ 0 ≤ (2 : Int) ^ ((j : Int).toNat) := by
     have : j = 0 ∨ j = 1 ∨ j = 2 ∨ j = 3 ∨ j = 4 := by omega
     rcases this with rfl | rfl | rfl | rfl | rfl <;> decide
    have hfl : ∀ b : Bool, endB c (butSet c j) .zero = b → ((j :: r).filter fun (i : Nat) => !endB c (butSet c i) .zero) = (if b then [] else [j]) ++ r.filter fun (i : Nat) => !endB c (butSet c i) .zero := by
     intro b hb
     rw [List.filter_cons, hb]
     cases b <;> rfl
    cases acc with
    | nil =>
     conv=>whnf
     refine brk_i (fun _ => ?_) (fun h => absurd hjm (by have := of_decide_eq_false h; omega))
     conv=>whnf
     refine arith_to (2 ^ ((j : Int).toNat)) hpw (wrap_i64 (by omega)) ?_
     conv=>whnf
     refine DrawCall_fn (wa72o c (butSet c j)) [34] rfl ⟨_, _, rfl, rfl, rfl⟩ rfl ?_
     conv=>whnf
     obtain ⟨kn2, hk2, hE2⟩ := end_call hR (set := butSet c j) .nil [] (InU.zero hR)
     refine DrawCall_fn hE2 [102242, 102240, 102241] rfl ?lent rfl ?_
     case lent => exact ⟨_, _, rfl, box_same rfl ⟨rfl, rfl, rfl, trivial⟩, _, _, rfl, rfl, _, _, rfl, rfl, rfl⟩
     cases he3 : endB c (butSet c j) .zero with
     | true =>
      rw [hfl true he3] at he
      conv=>whnf
      refine arith_in (wrap_i64 (by (try dsimp only); omega)) ?_
      conv=>whnf
      refine ⟨[], ⟨by simp, by simpa using he⟩, (Wk.sub ⟨(by first | rfl | (simp only [List.length_map]; rfl) | simp [PX.get]), (by first | rfl | (simp only [List.length_map]; rfl) | simp [PX.get]), (by first | rfl | (simp only [List.length_map]; rfl) | simp [PX.get]), (by first | rfl | (simp only [List.length_map]; rfl) | simp [PX.get]), (by first | rfl | (simp only [List.length_map]; rfl) | simp [PX.get]), trivial⟩ ⟨(by first | rfl | (simp only [List.length_map]; rfl) | simp [PX.get]), trivial⟩)⟩
     | false =>
      rw [hfl false he3] at he
      conv=>whnf
      refine ownK_whole rfl ?_
      conv=>whnf
      refine arith_in (wrap_i64 (by (try dsimp only); omega)) ?_
      conv=>whnf
      refine ⟨[(j : Int)], ⟨by simp, by simpa using he⟩, (Wk.sub ⟨(by first | rfl | (simp only [List.length_map]; rfl) | simp [PX.get]), (by first | rfl | (simp only [List.length_map]; rfl) | simp [PX.get]), (by first | rfl | (simp only [List.length_map]; rfl) | simp [PX.get]), (by first | rfl | (simp only [List.length_map]; rfl) | simp [PX.get]), (by first | rfl | (simp only [List.length_map]; rfl) | simp [PX.get]), trivial⟩ ⟨(by first | rfl | (simp only [List.length_map]; rfl) | simp [PX.get]), (by first | rfl | (simp only [List.length_map]; rfl) | simp [PX.get]), trivial⟩)⟩
    | cons a l =>
     conv=>whnf
     refine brk_i (fun _ => ?_) (fun h => absurd hjm (by have := of_decide_eq_false h; omega))
     conv=>whnf
     refine arith_to (2 ^ ((j : Int).toNat)) hpw (wrap_i64 (by omega)) ?_
     conv=>whnf
     refine DrawCall_fn (wa72o c (butSet c j)) [34] rfl ⟨_, _, rfl, rfl, rfl⟩ rfl ?_
     conv=>whnf
     obtain ⟨kn2, hk2, hE2⟩ := end_call hR (set := butSet c j) .nil [] (InU.zero hR)
     refine DrawCall_fn hE2 [102242, 102240, 102241] rfl ?lent rfl ?_
     case lent => exact ⟨_, _, rfl, box_same rfl ⟨rfl, rfl, rfl, trivial⟩, _, _, rfl, rfl, _, _, rfl, rfl, rfl⟩
     cases he3 : endB c (butSet c j) .zero with
     | true =>
      rw [hfl true he3] at he
      conv=>whnf
      refine arith_in (wrap_i64 (by (try dsimp only); omega)) ?_
      conv=>whnf
      refine ⟨a :: l, ⟨by simp at hal ⊢; omega, by simpa using he⟩, (Wk.sub ⟨(by first | rfl | (simp only [List.length_map]; rfl) | simp [PX.get]), (by first | rfl | (simp only [List.length_map]; rfl) | simp [PX.get]), (by first | rfl | (simp only [List.length_map]; rfl) | simp [PX.get]), (by first | rfl | (simp only [List.length_map]; rfl) | simp [PX.get]), (by first | rfl | (simp only [List.length_map]; rfl) | simp [PX.get]), trivial⟩ ⟨(by first | rfl | (simp only [List.length_map]; rfl) | simp [PX.get]), (by first | rfl | (simp only [List.length_map]; rfl) | simp [PX.get]), trivial⟩)⟩
     | false =>
      rw [hfl false he3] at he
      conv=>whnf
      refine ownK_whole rfl ?_
      conv=>whnf
      refine ownK_whole (by simp [Els.len, intsC]) ?_
      conv=>whnf
      refine chk_i (decide_eq_true (by
       show ((intsC (a :: l)).length + 1) * 8 ≤ 140737488355328
       simp [intsC] at hal ⊢; omega)) ?_
      conv=>whnf
      refine arith_in (wrap_i64 (by (try dsimp only); omega)) ?_
      conv=>whnf
      refine ⟨a :: l ++ [(j : Int)], ⟨by simp at hal ⊢; omega, by simpa using he⟩, Wk.sub ⟨rfl, ?_, rfl, rfl, rfl, trivial⟩ ⟨rfl, ?_, trivial⟩⟩
      ·show some (V.sl 42 1 0 ((intsC (a :: l)).length + 1)) = some (V.sl 42 1 0 (a :: (l ++ [(j : Int)])).length)
       simp [intsC]
      ·show some (Obj.arr 1 (Els.dd (intsC (a :: l) ++ [[i64 (j : Int)]]))) = some (Obj.arr 1 (Els.dd (intsC (a :: (l ++ [(j : Int)])))))
       simp [intsC]
   ·rintro acc ⟨_, he⟩
    have he : M = acc := by simpa using he
    rw [he]
    cases acc with
    | nil =>
     conv=>whnf
     refine brk_i (fun h => absurd h (by simp)) (fun _ => ?_)
     conv=>whnf
     exact RetA_view 0 rfl ⟨⟨rfl, rfl⟩, rfl⟩
    | cons a l =>
     conv=>whnf
     refine brk_i (fun h => absurd h (by simp)) (fun _ => ?_)
     conv=>whnf
     refine RetA_view 1 (ds := [intsD (a :: l), i64 0]) ?_ ⟨⟨rfl, rfl⟩, rfl⟩
     exact viewL_cons (viewV_sl (es := intsC (a :: l)) rfl (by simp [intsC])) rfl
 ·simp only [h0, false_and, if_false]
  conv=>whnf
  exact RetA_view 0 rfl ⟨⟨rfl, rfl⟩, rfl⟩
end Go.PX
namespace Go.PX
open Go.Proofs
structure Gap where
 row : Int
 t : Tired
 deriving DecidableEq
def Gap.cells (g : Gap) : List D := i64 g.row :: g.t.cells
def Gap.d (g : Gap) : D := .agg g.cells
abbrev Kg := List (Gap × Int)
def kgD (kn : Kg) : List (D × D) := kn.map fun p => (p.1.d, i64 p.2)
def getG : Kg → Gap → Option Int
 | [], _ => none
 | (u, x) :: r, t => if t = u then some x else getG r t
def putG : Kg → Gap → Int → Kg
 | [], t, v => [(t, v)]
 | (u, x) :: r, t, v => if t = u then (t, v) :: r else (u, x) :: putG r t v
theorem same_gap (t u : Gap) : sameD t.d u.d = some (decide (t = u)) := by
 have h1 := same_tired t.t u.t
 have h1 : sameL t.t.cells u.t.cells = some (decide (t.t = u.t)) := h1
 show (match sameI (i64 t.row) (i64 u.row), sameL t.t.cells u.t.cells with
  | some p, some q => some (p && q)
  | _, _ => none) = _
 rw [h1]
 show some (decide (t.row = u.row) && decide (t.t = u.t)) = _
 congr 1
 cases t; cases u
 simp
theorem find_kg_none {kn : Kg} {t : Gap} (h : getG kn t = none) : ∀ n, findD t.d (kgD kn) n = some none := by
 induction kn with
 | nil => intro n; rfl
 | cons p r ih =>
  obtain ⟨u, x⟩ := p
  intro n
  rw [getG] at h
  split at h
  ·cases h
  ·rename_i hu
   show (match sameD t.d u.d with
    | some true => some (some (n, i64 x))
    | some false => findD t.d (kgD r) (n + 1)
    | none => none) = _
   rw [same_gap, decide_eq_false hu]
   exact ih h (n + 1)
theorem find_kg_some {kn : Kg} {t : Gap} {v : Int} (h : getG kn t = some v) : ∀ n, ∃ i, findD t.d (kgD kn) n = some (some (n + i, i64 v)) ∧ ∀ y, (kgD kn).set i (t.d, i64 y) = kgD (putG kn t y) := by
 induction kn with
 | nil => cases h
 | cons p r ih =>
  obtain ⟨u, x⟩ := p
  intro n
  rw [getG] at h
  split at h
  ·rename_i hu
   cases h
   refine ⟨0, ?_, fun y => ?_⟩
   ·show (match sameD t.d u.d with
     | some true => some (some (n, i64 v))
     | some false => findD t.d (kgD r) (n + 1)
     | none => none) = _
    rw [same_gap, decide_eq_true hu]; rfl
   ·rw [putG, if_pos hu]; rfl
  ·rename_i hu
   obtain ⟨i, h1, h2⟩ := ih h (n + 1)
   refine ⟨i + 1, ?_, fun y => ?_⟩
   ·show (match sameD t.d u.d with
     | some true => some (some (n, i64 x))
     | some false => findD t.d (kgD r) (n + 1)
     | none => none) = _
    rw [same_gap, decide_eq_false hu]
    show findD t.d (kgD r) (n + 1) = _
    rw [h1, show n + 1 + i = n + (i + 1) by omega]
   ·rw [putG, if_neg hu]
    show (u.d, i64 x) :: (kgD r).set i (t.d, i64 y) = (u.d, i64 x) :: kgD (putG r t y)
    rw [h2 y]
theorem put_kg_none {kn : Kg} {t : Gap} (h : getG kn t = none) (y : Int) : kgD kn ++ [(t.d, i64 y)] = kgD (putG kn t y) := by
 induction kn with
 | nil => rfl
 | cons p r ih =>
  obtain ⟨u, x⟩ := p
  rw [getG] at h
  split at h
  ·cases h
  ·rename_i hu
   rw [putG, if_neg hu]
   show (u.d, i64 x) :: (kgD r ++ [(t.d, i64 y)]) = _
   rw [ih h]; rfl
theorem get_put_kg (kn : Kg) (t u : Gap) (y : Int) : getG (putG kn t y) u = if u = t then some y else getG kn u := by
 induction kn with
 | nil => rfl
 | cons p r ih =>
  obtain ⟨w, x⟩ := p
  rw [putG]
  split
  ·rename_i h
   subst h
   simp only [getG]
   split <;> rfl
  ·rename_i h
   simp only [getG]
   split
   ·rename_i h2
    subst h2
    rw [if_neg (fun e => h e.symm)]
   ·exact ih
def fitsG (R g : List Int) : Bool := decide (R.length = 0) || decide (R = g)
def tryG (R : List Int) (f : Kg → Tired → Option (List (List Int)) × Kg) : Kg → List (List Int × Tired) → Option (List (List Int)) × Kg
 | kg, [] => (none, kg)
 | kg, p :: r => if fitsG R p.1 then
   match (f kg p.2).1 with
   | some l => (some (p.1 :: l), (f kg p.2).2)
   | none => tryG R f (f kg p.2).2 r
  else tryG R f kg r
def fillW (c : WCase) (set : Int) : List (List Int) → Int → Tired → Kg → Option (List (List Int)) × Kg
 | [], _, _, kg => (some [], kg)
 | R :: rest, row, t, kg => if (getG kg ⟨row, t⟩).isSome then (none, kg) else
  match (tryG R (fun kg u => fillW c set rest (row + 1) u kg) kg (groupsF c set t)).1 with
  | some l => (some l, (tryG R (fun kg u => fillW c set rest (row + 1) u kg) kg (groupsF c set t)).2)
  | none => (none, putG (tryG R (fun kg u => fillW c set rest (row + 1) u kg) kg (groupsF c set t)).2 ⟨row, t⟩ 1)
def KgOk (kg : Kg) : Prop := ∀ g v, getG kg g = some v → v = 1
def Below (row : Int) (a b : Kg) : Prop := ∀ g : Gap, g.row < row → getG b g = getG a g
theorem tryG_ok {R : List Int} {f : Kg → Tired → Option (List (List Int)) × Kg} {row : Int} (hf : ∀ kg u, KgOk kg → KgOk (f kg u).2 ∧ Below row kg (f kg u).2) : ∀ (l : List (List Int × Tired)) (kg : Kg), KgOk kg → KgOk (tryG R f kg l).2 ∧ Below row kg (tryG R f kg l).2
 | [], kg, h => ⟨h, fun _ _ => rfl⟩
 | p :: r, kg, h => by
  obtain ⟨h1, h2⟩ := hf kg p.2 h
  rw [tryG]
  split
  ·split
   ·exact ⟨h1, h2⟩
   ·obtain ⟨h3, h4⟩ := tryG_ok hf r (f kg p.2).2 h1
    exact ⟨h3, fun g hg => (h4 g hg).trans (h2 g hg)⟩
  ·exact tryG_ok hf r kg h
theorem fillW_ok {c : WCase} {set : Int} : ∀ (rows : List (List Int)) (row : Int) (t : Tired) (kg : Kg), KgOk kg → KgOk (fillW c set rows row t kg).2 ∧ Below row kg (fillW c set rows row t kg).2
 | [], row, t, kg, h => ⟨h, fun _ _ => rfl⟩
 | R :: rest, row, t, kg, h => by
  obtain ⟨h1, h2⟩ := tryG_ok (R := R) (f := fun kg u => fillW c set rest (row + 1) u kg) (row := row + 1) (fun kg u hk => fillW_ok rest (row + 1) u kg hk) (groupsF c set t) kg h
  rw [fillW]
  split
  ·exact ⟨h, fun _ _ => rfl⟩
  split
  ·exact ⟨h1, fun g hg => h2 g (by omega)⟩
  ·refine ⟨fun g v hv => ?_, fun g hg => ?_⟩
   ·simp only at hv
    rw [get_put_kg] at hv
    split at hv
    ·cases hv; rfl
    ·exact h1 g v hv
   ·show getG (putG _ _ _) g = _
    rw [get_put_kg, if_neg (by rintro rfl; simp at hg)]
    exact h2 g (by omega)
def fillV (n : Nat) (r : Option (List (List Int)) × Kg) : V := match r.1 with
 | some _ => .tup [.sl 2000000 1 0 n, .d (.bool true)]
 | none => .d (.tup [.nils, .bool false])
def fillHp (row : Nat) (r : Option (List (List Int)) × Kg) : Heap := match r.1 with
 | some l => [(1000000, .map (kgD r.2)), (2000000, .arr 1 (.dd (List.replicate row [.nils] ++ l.map fun r => [intsD r])))]
 | none => [(1000000, .map (kgD r.2))]
theorem wa101 (a b : List Int) (ha : a.length < 4000000000000000000) (hb : b.length < 4000000000000000000) : FnV Try.prog 101 [intsD a, intsD b] (.bool (decide (a = b))) := by
 refine fnV_of mixed tysOk Try.func101 rfl (ft := ft101) 2 (by decide +kernel) (by rfl) fun {σ} Y st => ?_
 conv=>whnf
 refine brk_i (fun h0 => ?_) (fun h0 => ?_)
 ·have h0 : ¬ a.length = b.length := by
   have : ¬ ((a.length : Int) = b.length) := by simpa using h0
   omega
  conv=>whnf
  rw [decide_eq_false (fun e => h0 (by rw [e]))]
  exact RetA_view 0 rfl ⟨⟨rfl, rfl⟩, rfl⟩
 have h0 : a.length = b.length := by
  have : ((a.length : Int) = b.length) := by simpa using h0
  omega
 conv=>whnf
 refine LoopA_i (T := tys) tysOk (by exact drawsB_spec mixed tysOk (by decide +kernel)) a (fun i (_ : Unit) => ⟨[(0, .d (intsD a)), (1, .d (intsD b)), (4, .d (.bool false)), (12, .d (i64 a.length)), (13, .d (i64 i))], [], st⟩)
  (fun i r _ => (decide (a = b)) = decide (r = b.drop i)) () (Wk.sub ⟨(by first | rfl | (simp only [List.length_map]; rfl) | simp [PX.get]), (by first | rfl | (simp only [List.length_map]; rfl) | simp [PX.get]), (by first | rfl | (simp only [List.length_map]; rfl) | simp [PX.get]), (by first | rfl | (simp only [List.length_map]; rfl) | simp [PX.get]), (by first | rfl | (simp only [List.length_map]; rfl) | simp [PX.get]), trivial⟩ trivial) rfl ?_ ?_
 ·intro i x r _ hx hi hr he
  have hib : i < b.length := by omega
  have hdb : b.drop i = b[i] :: b.drop (i + 1) := by rw [List.drop_eq_getElem_cons hib]
  rw [hdb] at he
  have hgb : b[i]? = some b[i] := List.getElem?_eq_getElem hib
  conv=>whnf
  refine brk_i (fun _ => ?_) (fun h => absurd hi (by have := of_decide_eq_false h; omega))
  conv=>whnf
  refine elemK_nat hx ?_
  conv=>whnf
  refine elemK_nat hgb ?_
  conv=>whnf
  refine brk_i (fun h1 => ?_) (fun h1 => ?_)
  ·have h1 : ¬ x = b[i] := by simpa using h1
   conv=>whnf
   rw [he, decide_eq_false (fun e => h1 (List.cons.inj e).1)]
   exact RetA_view 0 rfl ⟨⟨rfl, rfl⟩, rfl⟩
  ·have h1 : x = b[i] := by simpa using h1
   conv=>whnf
   refine arith_in (wrap_i64 (by (try dsimp only); omega)) ?_
   conv=>whnf
   refine ⟨(), ?_, (Wk.sub ⟨(by first | rfl | (simp only [List.length_map]; rfl) | simp [PX.get]), (by first | rfl | (simp only [List.length_map]; rfl) | simp [PX.get]), (by first | rfl | (simp only [List.length_map]; rfl) | simp [PX.get]), (by first | rfl | (simp only [List.length_map]; rfl) | simp [PX.get]), (by first | rfl | (simp only [List.length_map]; rfl) | simp [PX.get]), trivial⟩ trivial)⟩
   rw [he]
   exact decide_eq_decide.2 ⟨fun e => (List.cons.inj e).2, fun e => by rw [h1, e]⟩
 ·intro _ he
  conv=>whnf
  refine brk_i (fun h => absurd h (by simp)) (fun _ => ?_)
  conv=>whnf
  have hd : b.drop a.length = [] := by rw [h0]; simp
  rw [he, hd]
  exact RetA_view 0 rfl ⟨⟨rfl, rfl⟩, rfl⟩
theorem viewLL_inj {g : Nat → Option DO} (B : List (List D)) : viewLL g (injL B) = some B := by
 have := viewLL_app (g := g) (vs := []) (ds := []) rfl B
 simpa using this
theorem viewLL_mid {g : Nat → Option DO} {v : List V} {d : List D} (h : viewL g v = some d) (A B : List (List D)) : viewLL g (injL A ++ v :: injL B) = some (A ++ d :: B) := by
 refine viewLL_app ?_ A
 show (match viewL g v, viewLL g (injL B) with
  | some a, some l => some (a :: l)
  | _, _ => none) = _
 rw [h, viewLL_inj B]
theorem namesOfL_mid (A B : List (List D)) (v : List V) : namesOfL (injL A ++ v :: injL B).flatten = namesOfL v := by
 rw [namesOfL_injL, List.flatten_cons, namesOfL_app, injL_flatten, namesOfL_inj, List.append_nil]
theorem injL_mid (B : List (List D)) (x : List D) (y : List V) : ∀ A : List (List D), (injL (A ++ x :: B)).set A.length y = injL A ++ y :: injL B
 | [] => rfl
 | a :: A => by
  show inj a :: (injL (A ++ x :: B)).set A.length y = inj a :: (injL A ++ y :: injL B)
  rw [injL_mid B x y A]
def FillOk (c : WCase) (set : Int) (rota : List (List Int)) (rows : List (List Int)) : Prop :=
 ∀ (row : Nat) (t : Tired) (kg : Kg), InU c t → KgOk kg → rota.drop row = rows → row + rows.length = rota.length → FnU Try.prog 83 [.d (crewD c set), .d (Gap.d ⟨row, t⟩), .d (rotaD rota), .mp 1000000] [(1000000, .map (kgD kg))] fun v h' =>
  v = fillV rota.length (fillW c set rows row t kg) ∧ h' = fillHp row (fillW c set rows row t kg)
theorem fill_nil {c : WCase} {set : Int} {rota : List (List Int)} (hl : rota.length ≤ 100) : FillOk c set rota [] := by
 intro row t kg ht hk hd hlen σ Y s
 refine fnC_of mixed tysOk Try.func83 rfl (ft := ft83) (args := [.d (crewD c set), .d (Gap.d ⟨row, t⟩), .d (rotaD rota), .mp 1000000]) (show fnB ft83 Try.f83 4 = true from by decide +kernel) ?_
 conv=>whnf
 have hrl : row = rota.length := by simpa using hlen
 refine brk_i (fun h0 => ?_) (fun h0 => absurd h0 (by simp [hrl]))
 conv=>whnf
 refine chk_i (by simp; rfl) ?_
 conv=>whnf
 refine chk_i (decide_eq_true (by dsimp only; simp; omega)) ?_
 conv=>whnf
 have hn : ((rota.map fun r => [intsD r]).length : Int).toNat = rota.length := by simp
 rw [hn]
 refine RetA_hand [22] [.sl 2000000 1 0 rota.length, .d (.bool true)] [(1000000, .map (kgD kg)), (2000000, .arr 1 (.dd (List.replicate rota.length [.nils])))] rfl ⟨rfl, rfl, trivial⟩ rfl ⟨⟨rfl, ?_⟩, rfl⟩
 rw [fillW, ← hrl]
 simp [fillHp]
end Go.PX
