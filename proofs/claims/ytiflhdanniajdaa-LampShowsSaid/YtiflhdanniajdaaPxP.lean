import Derived.Test.YtiflhdanniajdaaPxO
import Derived.Test.YtiflhdanniajdaaPxI
import Derived.Test.YtiflhdanniajdaaPxL
set_option linter.all false
set_option maxRecDepth 10000
/- PX: functions that yield, holding objects of the frame, to one who takes all. -/
namespace Go.PX
open Go.RowKit

/-- Yield is called with these, one after another, and always says that it goes on. -/
def iterT {γ : Type} (Y : Hd γ) : List (List V × Heap) → γ → (γ → Prop) → Prop
  | [], g, Q => Q g
  | (args, h) :: r, g, Q => Y.y args h g fun v h' g' => h' = h ∧ v = .d (.bool true) ∧ iterT Y r g' Q

/-- A function that yields these to one who takes all, and does this to the objects that it holds. -/
def YieldsT (P : Program) (f : FuncId) (caps : List V) (h0 h1 : Heap) (l : List (List V × Heap)) : Prop :=
  ∀ {γ : Type} (Y : Hd γ) (g : γ) (Q : γ → Prop), iterT Y l g Q → FnC P Y f (.yld :: caps) h0 g fun v h' g' => h' = h1 ∧ Q g'

section
variable {P : Program} {T : Tys} {ft : FT} {α σ : Type} {Y : Hd σ}

theorem RangeA_listT (hT : TysOk P T) {g : Operand} {ps : Array Tmp} {a b : Code} (hDa : drawsOk P T ft a) (hDb : drawsOk P T ft b) {f : FuncId} {caps : List V} {e : Env} {h : Heap} {s : σ} {K : AExit → St σ → Prop} (hgv : opnd e g = some (.clo f caps))
    (lt : List Nat) (c1 c2 : Nat) (tb : List Nat) {β : Type} {items : List β} {arg : β → List V} {hp : β → Heap} {h1 : Heap} (hf : YieldsT P f caps (keepT lt h) h1 (items.map fun b => (arg b, hp b))) (hb1 : backB lt h1 = true)
    (I : α → Heap × σ) (J : List β → α → Prop) (x0 : α) (hck : rangeB c1 c2 tb e (cutL h lt) = true) (hlt : lentC c1 tb.length lt caps (keepT lt h) = true) (hI : I x0 = (renH (upR c1 tb) (cutL h lt), s)) (hok0 : okH c2 tb (I x0).1 = true) (hJ0 : J items x0)
    (round : ∀ it rest x, J (it :: rest) x → ∀ (Q : V → Heap → RS α σ → Prop), (∀ x', J rest x' → Q (.d (.bool true)) (hp it) (.go x')) →
      (rangeY P T ft Y I ps a b (renE (upR c1 tb) e) c2 tb).y (arg it) (hp it) (.go x) Q)
    (fin : ∀ x, J [] x → K .normal ⟨e, renH (dnR c1 tb) (I x).1 ++ h1, (I x).2⟩) : RangeA P ft Y g ps a b ⟨e, h, s⟩ K := by
  refine RangeA_genV hT hDa hDb hgv lt c1 c2 tb I x0 hck hlt hI hok0 fun L => ?_
  have key : ∀ (l : List β) (x : α) (L : Loc), J l x → iterT (liftY (rangeY P T ft Y I ps a b (renE (upR c1 tb) e) c2 tb)) (l.map fun b => (arg b, hp b)) (RS.go x, L) (fun g => match g.1 with
      | .go x => K .normal ⟨e, renH (dnR c1 tb) (I x).1 ++ h1, (I x).2⟩
      | .done ex hd s' => K ex ⟨e, renH (dnR c1 tb) hd ++ h1, s'⟩) := by
    intro l
    induction l with
    | nil => exact fun x L hj => fin x hj
    | cons it rest ih =>
      intro x L hj
      exact round it rest x hj (fun v h' g' => ∀ L', h' = hp it ∧ v = .d (.bool true) ∧ iterT (liftY (rangeY P T ft Y I ps a b (renE (upR c1 tb) e) c2 tb)) (rest.map fun b => (arg b, hp b)) (g', L') (fun g => match g.1 with
      | .go x => K .normal ⟨e, renH (dnR c1 tb) (I x).1 ++ h1, (I x).2⟩
      | .done ex hd s' => K ex ⟨e, renH (dnR c1 tb) hd ++ h1, s'⟩)) (fun x' hj' L' => ⟨rfl, rfl, ih x' L' hj'⟩)
  have hr := hf (liftY (rangeY P T ft Y I ps a b (renE (upR c1 tb) e) c2 tb)) (RS.go x0, L) _ (key items x0 L hJ0)
  refine ⟨hr.enter, fun cx hY L F vals w hh hv => (callsIn_fr (hr.run cx hY L F vals w hh hv)).mono ?_⟩
  rintro en w' ⟨x, rfl, v, h', gs, L', F', ⟨rfl, hK⟩, hrest⟩
  exact ⟨x, rfl, v, _, gs, L', F', ⟨hb1, hK⟩, hrest⟩

/-- Yield, with data, to one who takes all. -/
theorem YldA_vT {e : Env} {h : Heap} {s : σ} {d : Option Nat} {ds : List D} {r : List (List V × Heap)} {Q : σ → Prop} (hit : iterT Y ((inj ds, []) :: r) s Q) {args : List V} (hv : args = inj ds) (hd : Nat.ble (d.getD 0) 10000 = true) {K : St σ → Prop}
    (kt : ∀ s', iterT Y r s' Q → applyK (wset d (.d (.bool true))) e h fun e h => K ⟨e, h, s'⟩) : YldA P Y ⟨e, h, s⟩ d args K := by
  have hB : callB [] d (.d (.bool true)) [] = true := by
    simp only [callB, Bool.and_eq_true]
    refine ⟨⟨⟨⟨⟨⟨⟨⟨⟨rfl, rfl⟩, rfl⟩, rfl⟩, rfl⟩, rfl⟩, rfl⟩, hd⟩, rfl⟩, ?_⟩
    cases d <;> rfl
  have hren : ∀ (R : Nat → Nat) (l : List D), renL R (inj l) = inj l := by
    intro R l
    induction l with
    | nil => rfl
    | cons c r ih => show mapId (renF R) (.d c) :: mapIdL (renF R) (inj r) = .d c :: inj r; rw [show mapIdL (renF R) (inj r) = inj r from ih]; rfl
  refine yldY_of [] hit (by rw [hv]; exact hren _ _) rfl rfl rfl ?_
  rintro v h1 s' ⟨rfl, rfl, hi⟩
  refine ⟨hB, ?_⟩
  have := kt s' hi
  rw [applyK_eq s'] at this
  have hs : (applyWs (⟨e, h, s'⟩ : St σ) (wset d (.d (.bool true)))).s = s' := applyWs_s _ _
  show K (applyWs ⟨e, h, s'⟩ (wset d (.d (.bool true))))
  generalize applyWs (⟨e, h, s'⟩ : St σ) (wset d (.d (.bool true))) = st at this hs
  obtain ⟨e1, h1, s1⟩ := st
  simp only at hs; subst hs; exact this
end
end Go.PX

namespace Go.PX
open Go.Proofs

/- Lamp: the failures of a light (the program). -/

theorem upto_len : ∀ {k : Nat} {v : Int}, (upto k v).length = k
  | 0, _ => rfl
  | k + 1, v => by rw [upto, List.length_cons, upto_len]

theorem len_flatMap {α β : Type} {f : α → List β} {n : Nat} : ∀ {l : List α}, (∀ x ∈ l, (f x).length ≤ n) → (l.flatMap f).length ≤ l.length * n
  | [], _ => by simp
  | x :: r, h => by
    rw [List.flatMap_cons, List.length_append, List.length_cons, Nat.succ_mul]
    have h1 := h x (by simp)
    have h2 := len_flatMap (l := r) fun y hy => h y (by simp [hy])
    omega

theorem speedsL_len {s : Span} (hs : s.hi ≤ s.lo + 4) : ∀ {k : Nat}, (speedsL s k).length ≤ 5 ^ k
  | 0 => by simp [speedsL]
  | k + 1 => by
    rw [speedsL]
    have h1 := len_flatMap (l := spanL s) (f := fun v => (speedsL s k).map (v :: ·)) (n := 5 ^ k) fun v _ => by simpa using speedsL_len hs
    have h2 : (spanL s).length ≤ 5 := by unfold spanL; rw [upto_len]; omega
    have h3 := Nat.mul_le_mul_right (5 ^ k) h2
    rw [Nat.pow_succ]
    omega

theorem allT_len {c : LCase} (hR : CaseL c) : (allT c.lamp c.windings).length ≤ 2000 := by
  unfold allT
  have hk : 5 ^ (c.windings.length + 1) ≤ 125 := by
    have : (5 : Nat) ^ (c.windings.length + 1) ≤ 5 ^ 3 := Nat.pow_le_pow_right (by omega) (by have := hR.winds; omega)
    simpa using this
  have h1 := len_flatMap (l := spanL c.lamp.start) (f := fun st => (speedsL c.lamp.speed (c.windings.length + 1)).map fun l => (⟨st, l⟩ : LTruth)) (n := 125) fun v _ => by
    have := speedsL_len (s := c.lamp.speed) hR.lamp.speed.2.2.2 (k := c.windings.length + 1)
    rw [List.length_map]; omega
  have h2 : (spanL c.lamp.start).length ≤ 13 := by
    unfold spanL; rw [upto_len]
    have := hR.far
    omega
  have := Nat.mul_le_mul_right 125 h2
  omega

theorem agL_len {c : LCase} (h0 : (checkL c).2.2 = 0) : (agL c).length ≤ 2000 := by
  unfold agL
  rw [truL_all (CaseL.up h0).1, List.length_map]
  exact Nat.le_trans (List.length_filter_le _ _) (allT_len (checkL_ok h0))

/-- A truth in which a light fails, and the second. -/
def failedD (x : LTruth × Int) : D := .agg [i64 x.1.start, intsD x.1.speeds, i64 x.2]

def failuresL (ps : List LPhase) (l : List (LTruth × List Bool)) : List (LTruth × Int) := l.filterMap fun p => if failsL p.2 ps < 0 then none else some (p.1, failsL p.2 ps)

theorem la94 (n : Nat) (hn : n ≤ 100000) : FnU Try.prog 94 [.ptr 1000000 0] [(1000000, .box (.dd [i64 n]))] fun v h' => v = .d (.tup []) ∧ h' = [(1000000, .box (.dd [i64 (n + 1 : Nat)]))] := by
  intro σ Y s
  refine fnC_of mixed tysOk Try.func94 rfl (ft := ft94) (args := [.ptr 1000000 0]) (show fnB ft94 Try.f94 1 = true from by decide +kernel) ?_
  conv => whnf
  refine arith_to (((n + 1 : Nat) : Int)) (by (try dsimp only); omega) (wrap_i64 (by (try dsimp only); omega)) ?_
  conv => whnf
  exact RetA_hand [] [] [(1000000, .box (.dd [i64 (n + 1 : Nat)]))] rfl ⟨rfl, trivial⟩ rfl ⟨⟨rfl, rfl⟩, rfl⟩

theorem la95 (x y : LTruth × Int) (hx : -1 ≤ x.2 ∧ x.2 ≤ 200) (hy : -1 ≤ y.2 ∧ y.2 ≤ 200) : FnV Try.prog 95 [failedD x, failedD y] (i64 (x.2 - y.2)) := by
  refine fnV_of mixed tysOk Try.func95 rfl (ft := ft95) 2 (by decide +kernel) (by rfl) fun {σ} Y st => ?_
  conv => whnf
  refine arith_to (x.2 - y.2) (by simp) (wrap_i64 (by omega)) ?_
  conv => whnf
  exact RetA_view 0 rfl ⟨⟨rfl, rfl⟩, rfl⟩

/-- What the closure of failures holds. -/
def tellH (n : Nat) : Heap := [(1000000, .box (.vv [.clo 94 [.ptr 1000001 0]])), (1000001, .box (.dd [i64 n]))]
def failC (c : LCase) (l : LLight) : List V := [.d (.ref c.cells), .ptr 1000000 0, .d (.ref l.cells)]

theorem la93 (c : LCase) (l : LLight) (n : Nat) : FnU Try.prog 93 [.d c.d, .d l.d, .clo 94 [.ptr 1000000 0]] [(1000000, .box (.dd [i64 n]))] fun v h' =>
    v = .clo 119 [.d (.ref c.cells), .ptr 2000000 0, .d (.ref l.cells)] ∧ h' = [(1000000, .box (.dd [i64 n])), (2000000, .box (.vv [.clo 94 [.ptr 1000000 0]]))] := by
  intro σ Y s
  refine fnC_of mixed tysOk Try.func93 rfl (ft := ft93) (args := [.d c.d, .d l.d, .clo 94 [.ptr 1000000 0]]) (show fnB ft93 Try.f93 3 = true from by decide +kernel) ?_
  conv => whnf
  refine RetA_wk (l' := [.clo 119 [.d (.ref c.cells), .ptr 5 0, .d (.ref l.cells)]]) (h' := [(5, .box (.vv [.clo 94 [.ptr 1000000 0]])), (1000000, .box (.dd [i64 n]))]) (Wk.trans (Wk.frz 1 [3, 4]) (Wk.sub ⟨(by first | rfl | (simp only [List.length_map]; rfl) | simp [PX.get]), trivial⟩ ⟨(by first | rfl | (simp only [List.length_map]; rfl) | simp [PX.get]), (by first | rfl | (simp only [List.length_map]; rfl) | simp [PX.get]), trivial⟩)) rfl rfl ?_
  exact RetA_hand [5] [.clo 119 [.d (.ref c.cells), .ptr 2000000 0, .d (.ref l.cells)]] [(1000000, .box (.dd [i64 n])), (2000000, .box (.vv [.clo 94 [.ptr 1000000 0]]))] rfl ⟨rfl, rfl, trivial⟩ rfl ⟨⟨rfl, rfl⟩, rfl⟩
end Go.PX

namespace Go.PX
open Go.Proofs

/- Lamp: Kept (the program). -/

theorem failsF_rng {l : List LPhase} : ∀ {r : List Bool} {b : Bool} {A : List LState} {s : Int}, failsF l r b A s = -1 ∨ (s ≤ failsF l r b A s ∧ failsF l r b A s < s + r.length)
  | [], _, _, _ => .inl rfl
  | x :: r, b, A, s => by
    rw [failsF]
    split
    · right; simp only [List.length_cons]; omega
    · rcases failsF_rng (r := r) (b := x) (A := A.filterMap (stepS l (x != b))) (s := s + 1) with h | h
      · exact .inl h
      · right; simp only [List.length_cons]; omega

theorem failsL_rng {l : List LPhase} {lit : List Bool} (h : lit.length ≤ 200) : -1 ≤ failsL lit l ∧ failsL lit l ≤ 200 := by
  unfold failsL
  cases lit with
  | nil => simp
  | cons b r =>
    simp only [List.length_cons] at h
    have := failsF_rng (l := l) (r := r) (b := b) (A := initA b l.length) (s := 1)
    simp only
    omega

set_option maxHeartbeats 1000000 in
theorem yields119 (c : LCase) (l : LLight) (h0 : (checkL c).2.2 = 0) (hl : LightR l) : YieldsT Try.prog 119 (failC c l) (tellH 0) (tellH (agL c).length) ((failuresL l.phases (agL c)).map fun x => ([.d (failedD x)], [])) := by
  intro γ Y g0 Q hit
  have hR := checkL_ok h0
  have hn := hR.lamp.night
  refine fnC_of mixed tysOk Try.func119 rfl (ft := ft119) (args := .yld :: failC c l) (show fnB ft119 Try.f119 4 = true from by decide +kernel) ?_
  conv => whnf
  refine CallA_v (la76 c hR) rfl rfl ?_
  conv => whnf
  refine RangeA_list tysOk (by exact drawsB_spec mixed tysOk (by decide +kernel)) (by exact drawsB_spec mixed tysOk (by decide +kernel)) rfl 1500000 1600000 [4] (by exact yields_agree h0)
    (fun (p : Nat × γ) => ([(1000000, .box (.vv [.clo 94 [.ptr 1000001 0]])), (1000001, .box (.dd [i64 p.1])), (1500000, .box (.vv [.yld]))], p.2))
    (fun (rest : List (LTruth × List Bool)) (p : Nat × γ) => iterT Y ((failuresL l.phases rest).map fun x => ([.d (failedD x)], [])) p.2 Q ∧ (∀ q ∈ rest, q.2.length = c.lamp.night.toNat) ∧ p.1 + rest.length = (agL c).length) (0, g0) rfl rfl rfl ⟨hit, fun p hp => (agL_ok h0 hp).2.2, by simp⟩ ?_ ?_
  · clear hit
    rintro ⟨t, lit⟩ rest ⟨n, g⟩ ⟨hit, hll, hcn⟩ Q' hQ1 hQ2
    refine ⟨⟨rfl, rfl⟩, ?_⟩
    simp only at hit hcn
    have hlen := hll (t, lit) (by simp)
    simp only at hlen
    have hrest : ∀ q ∈ rest, q.2.length = c.lamp.night.toNat := fun q hq => hll q (by simp [hq])
    have hne : lit ≠ [] := by rintro rfl; simp at hlen; omega
    have hag := agL_len h0
    simp only [List.length_cons] at hcn
    conv => whnf
    refine CallA_fn (la94 n (by omega)) [1000001] rfl ⟨_, _, rfl, rfl, rfl⟩ rfl ?_
    conv => whnf
    refine CallA_v (la90 lit l.phases hne (by omega) hl.len) rfl rfl ?_
    conv => whnf
    have hfr := failsL_rng (l := l.phases) (lit := lit) (by omega)
    refine brk_i (fun h1 => ?_) (fun h1 => ?_)
    · have h1 : failsL lit l.phases < 0 := by simpa using h1
      have he : failuresL l.phases ((t, lit) :: rest) = failuresL l.phases rest := by
        unfold failuresL
        rw [List.filterMap_cons]
        simp only [if_pos h1]
      rw [he] at hit
      conv => whnf
      exact ⟨(n + 1, g), (Wk.sub trivial ⟨(by first | rfl | (simp only [List.length_map]; rfl) | simp [PX.get]), (by first | rfl | (simp only [List.length_map]; rfl) | simp [PX.get]), (by first | rfl | (simp only [List.length_map]; rfl) | simp [PX.get]), trivial⟩), rfl, hQ1 _ ⟨hit, hrest, by simp only; omega⟩⟩
    · have h1 : ¬ failsL lit l.phases < 0 := by simpa using h1
      have he : failuresL l.phases ((t, lit) :: rest) = (t, failsL lit l.phases) :: failuresL l.phases rest := by
        unfold failuresL
        rw [List.filterMap_cons]
        simp only [if_neg h1]
      rw [he, List.map_cons] at hit
      conv => whnf
      refine YldA_vT (ds := [failedD (t, failsL lit l.phases)]) hit rfl rfl (fun g1 hi => ?_)
      conv => whnf
      exact ⟨(n + 1, g1), (Wk.sub trivial ⟨(by first | rfl | (simp only [List.length_map]; rfl) | simp [PX.get]), (by first | rfl | (simp only [List.length_map]; rfl) | simp [PX.get]), (by first | rfl | (simp only [List.length_map]; rfl) | simp [PX.get]), trivial⟩), rfl, hQ1 _ ⟨hi, hrest, by simp only; omega⟩⟩
  · rintro ⟨n, g⟩ ⟨hit, _, hcn⟩
    simp only [List.length_nil] at hcn
    conv => whnf
    rw [show n = (agL c).length by omega]
    exact RetA_hand [] [] (tellH (agL c).length) rfl ⟨rfl, rfl, trivial⟩ rfl ⟨rfl, hit⟩

def leastS (acc : Option (LTruth × Int)) (y : LTruth × Int) : Option (LTruth × Int) := match acc with
  | none => some y
  | some x => if y.2 - x.2 < 0 then some y else some x
def leastX (l : List (LTruth × Int)) : Option (LTruth × Int) := l.foldl leastS none

def leastXD (o : Option (LTruth × Int)) : D := match o with
  | none => .tup [.agg [i64 0, .nils, i64 0], .bool false]
  | some x => .tup [failedD x, .bool true]

theorem failuresL_rng {c : LCase} (h0 : (checkL c).2.2 = 0) {l : LLight} {x : LTruth × Int} (hx : x ∈ failuresL l.phases (agL c)) : -1 ≤ x.2 ∧ x.2 ≤ 200 := by
  unfold failuresL at hx
  obtain ⟨p, hp, hpx⟩ := List.mem_filterMap.1 hx
  have hn := (checkL_ok h0).lamp.night
  have hl := (agL_ok h0 hp).2.2
  split at hpx
  · cases hpx
  · cases hpx
    exact failsL_rng (by omega)

set_option maxHeartbeats 1000000 in
theorem la92 (c : LCase) (l : LLight) (h0 : (checkL c).2.2 = 0) (hl : LightR l) : FnU Try.prog 92 [.clo 119 (failC c l), .d (.clo 95 [])] (tellH 0) fun v h' =>
    v = .d (leastXD (leastX (failuresL l.phases (agL c)))) ∧ h' = tellH (agL c).length := by
  intro σ Y st
  refine fnC_of mixed tysOk Try.func92 rfl (ft := ft92) (args := [.clo 119 (failC c l), .d (.clo 95 [])]) (show fnB ft92 Try.f92 2 = true from by decide +kernel) ?_
  have hrng := fun x hx => failuresL_rng h0 (l := l) (x := x) hx
  have hys := fun {γ : Type} => yields119 c l h0 hl (γ := γ)
  generalize (agL c).length = n at hys
  generalize failuresL l.phases (agL c) = items at hrng hys
  conv => whnf
  refine RangeA_listT tysOk (by exact drawsB_spec mixed tysOk (by decide +kernel)) (by exact drawsB_spec mixed tysOk (by decide +kernel)) rfl [1000000, 1000001] 1500000 1600000 [3, 4, 5] (by exact hys) rfl
    (fun (o : Option (LTruth × Int)) => (match o with
      | none => [(1500000, .box (.dd [.clo 95 []])), (1500001, .box (.dd [i64 0, .nils, i64 0])), (1500002, .box (.dd [.bool false]))]
      | some x => [(1500000, .box (.dd [.clo 95 []])), (1500001, .box (.dd [i64 x.1.start, intsD x.1.speeds, i64 x.2])), (1500002, .box (.dd [.bool true]))], st))
    (fun (rest : List (LTruth × Int)) (o : Option (LTruth × Int)) => leastX items = rest.foldl leastS o ∧ (∀ x, o = some x → -1 ≤ x.2 ∧ x.2 ≤ 200) ∧ ∀ x ∈ rest, -1 ≤ x.2 ∧ x.2 ≤ 200) none rfl rfl rfl rfl ⟨rfl, ⟨fun x (h : none = some x) => (by cases h), hrng⟩⟩ ?_ ?_
  · rintro y rest o ⟨hk, ho, hr⟩ Q hQ1
    refine ⟨⟨rfl, rfl⟩, ?_⟩
    rw [List.foldl_cons] at hk
    have hy := hr y (by simp)
    have hrest : ∀ x ∈ rest, -1 ≤ x.2 ∧ x.2 ≤ 200 := fun l h => hr l (by simp [h])
    cases o with
    | none =>
      conv => whnf
      exact ⟨some y, (Wk.sub trivial ⟨(by first | rfl | (simp only [List.length_map]; rfl) | simp [PX.get]), (by first | rfl | (simp only [List.length_map]; rfl) | simp [PX.get]), (by first | rfl | (simp only [List.length_map]; rfl) | simp [PX.get]), trivial⟩), rfl, hQ1 _ ⟨hk, ⟨fun x h => (by cases h; exact hy), hrest⟩⟩⟩
    | some x =>
      have hx := ho x rfl
      conv => whnf
      refine CallA_v (la95 y x hy hx) rfl rfl ?_
      conv => whnf
      rw [leastS] at hk
      refine brk_i (fun h1 => ?_) (fun h1 => ?_)
      · have h1 : y.2 - x.2 < 0 := by simpa using h1
        rw [if_pos h1] at hk
        conv => whnf
        exact ⟨some y, (Wk.sub trivial ⟨(by first | rfl | (simp only [List.length_map]; rfl) | simp [PX.get]), (by first | rfl | (simp only [List.length_map]; rfl) | simp [PX.get]), (by first | rfl | (simp only [List.length_map]; rfl) | simp [PX.get]), trivial⟩), rfl, hQ1 _ ⟨hk, ⟨fun x h => (by cases h; exact hy), hrest⟩⟩⟩
      · have h1 : ¬ y.2 - x.2 < 0 := by simpa using h1
        rw [if_neg h1] at hk
        conv => whnf
        exact ⟨some x, (Wk.sub trivial ⟨(by first | rfl | (simp only [List.length_map]; rfl) | simp [PX.get]), (by first | rfl | (simp only [List.length_map]; rfl) | simp [PX.get]), (by first | rfl | (simp only [List.length_map]; rfl) | simp [PX.get]), trivial⟩), rfl, hQ1 _ ⟨hk, ⟨ho, hrest⟩⟩⟩
  · rintro o ⟨hk, ho, _⟩
    simp only [List.foldl_nil] at hk
    rw [hk]
    cases o with
    | none =>
      conv => whnf
      exact RetA_hand [] [.d (.agg [i64 0, .nils, i64 0]), .d (.bool false)] (tellH n) rfl ⟨rfl, rfl, trivial⟩ rfl ⟨⟨rfl, rfl⟩, rfl⟩
    | some x =>
      conv => whnf
      exact RetA_hand [] [.d (failedD x), .d (.bool true)] (tellH n) rfl ⟨rfl, rfl, trivial⟩ rfl ⟨⟨rfl, rfl⟩, rfl⟩

/-- What Kept returns: no truth agrees, the light is kept, or the first failure. -/
def keptE (c : LCase) (l : LLight) : Int := if entrE c [l] = 0 then (if agL c = [] then 9 else if leastX (failuresL l.phases (agL c)) = none then 4 else 0) else entrE c [l]
def keptX (c : LCase) (l : LLight) : LTruth × Int := if entrE c [l] = 0 then (leastX (failuresL l.phases (agL c))).getD (⟨0, []⟩, 0) else (⟨0, []⟩, 0)
def keptD (c : LCase) (l : LLight) : D := .tup [(keptX c l).1.d, i64 (keptX c l).2, i64 (keptE c l)]

set_option maxHeartbeats 1000000 in
theorem la32 (c : LCase) (l : LLight) : FnV Try.prog 32 [c.d, l.d] (keptD c l) := by
  refine fnV_of mixed tysOk Try.func32 rfl (ft := ft32) 2 (by decide +kernel) (by rfl) fun {σ} Y st => ?_
  conv => whnf
  refine CallA_view (la89 c [l]) rfl 1 rfl ?_
  conv => whnf
  by_cases h0 : entrE c [l] = 0
  case neg =>
    have he : keptE c l = entrE c [l] := by unfold keptE; rw [if_neg h0]
    have hv : keptX c l = (⟨0, []⟩, 0) := by unfold keptX; rw [if_neg h0]
    rw [keptD, he, hv]
    refine brk_i (fun _ => ?_) (fun h1 => absurd h1 (by simp [h0]))
    conv => whnf
    exact RetA_viewR 0 rfl rfl ⟨⟨rfl, rfl⟩, rfl⟩
  obtain ⟨h00, hl⟩ := entr_ok h0
  have hl := hl l (by simp)
  have he : keptE c l = (if agL c = [] then 9 else if leastX (failuresL l.phases (agL c)) = none then 4 else 0) := by unfold keptE; rw [if_pos h0]
  have hv : keptX c l = (leastX (failuresL l.phases (agL c))).getD (⟨0, []⟩, 0) := by unfold keptX; rw [if_pos h0]
  rw [keptD, he, hv]
  refine brk_i (fun h1 => absurd h1 (by simp [h0])) (fun _ => ?_)
  conv => whnf
  refine CallA_fn (la93 c l 0) [7] rfl ⟨_, _, rfl, rfl, rfl⟩ rfl ?_
  conv => whnf
  refine CallA_fn (la92 c l h00 hl) [101408, 7] ?_ ?_ ?_ ?_
  · exact sameVL_eq _ _ ⟨⟨rfl, rfl, ⟨rfl, rfl⟩, rfl, trivial⟩, rfl, trivial⟩
  · exact ⟨_, _, rfl, box_same rfl ⟨⟨rfl, ⟨rfl, rfl⟩, trivial⟩, trivial⟩, _, _, rfl, rfl, rfl⟩
  · rfl
  have hlen := agL_len h00
  cases hX : leastX (failuresL l.phases (agL c)) with
  | none =>
    conv => whnf
    refine brk_i (fun h1 => ?_) (fun h1 => ?_)
    · have h1 : agL c = [] := by simpa using h1
      conv => whnf
      rw [if_pos h1]
      exact RetA_viewR 0 rfl rfl ⟨⟨rfl, rfl⟩, rfl⟩
    · have h1 : ¬ agL c = [] := by simpa using h1
      conv => whnf
      rw [if_neg h1]
      exact RetA_viewR 0 rfl rfl ⟨⟨rfl, rfl⟩, rfl⟩
  | some x =>
    conv => whnf
    refine brk_i (fun h1 => ?_) (fun h1 => ?_)
    · have h1 : agL c = [] := by simpa using h1
      rw [h1] at hX
      cases hX
    · have h1 : ¬ agL c = [] := by simpa using h1
      conv => whnf
      rw [if_neg h1]
      exact RetA_view 0 rfl ⟨⟨rfl, rfl⟩, rfl⟩
end Go.PX

namespace Go.PX
open Go.Proofs

/- Lamp: Which (the program). -/

def keepsB (ps : List LPhase) (p : LTruth × List Bool) : Bool := decide (failsL p.2 ps < 0)

def whichF (A : List (LTruth × List Bool)) : List LLight → Int → List Int
  | [], _ => []
  | x :: r, i => if A.any (keepsB x.phases) then i :: whichF A r (i + 1) else whichF A r (i + 1)

def whichE (c : LCase) (l : List LLight) : Int := entrE c l
def whichV (c : LCase) (l : List LLight) : List Int := if entrE c l = 0 then whichF (agL c) l 0 else []

set_option maxHeartbeats 1000000 in
theorem la35 (c : LCase) (l : List LLight) : FnV Try.prog 35 [c.d, lightsD l] (.tup [intsD (whichV c l), i64 (entrE c l)]) := by
  refine fnV_of mixed tysOk Try.func35 rfl (ft := ft35) 2 (by decide +kernel) (by rfl) fun {σ} Y st => ?_
  conv => whnf
  refine CallA_v (la89 c l) rfl rfl ?_
  conv => whnf
  by_cases h0 : entrE c l = 0
  case neg =>
    have hv : whichV c l = [] := by unfold whichV; rw [if_neg h0]
    rw [hv]
    refine brk_i (fun _ => ?_) (fun h1 => absurd h1 (by simp [h0]))
    conv => whnf
    exact RetA_viewR 0 rfl rfl ⟨⟨rfl, rfl⟩, rfl⟩
  obtain ⟨h00, hl⟩ := entr_ok h0
  have hlen : l.length ≤ 6 := by
    have : (lightsF l).2 = 0 := by unfold entrE at h0; rwa [if_pos h00] at h0
    exact (lightsF_ok this).1.2
  have hR := checkL_ok h00
  have hn := hR.lamp.night
  have hv : whichV c l = whichF (agL c) l 0 := by unfold whichV; rw [if_pos h0]
  rw [hv]
  refine brk_i (fun h1 => absurd h1 (by simp [h0])) (fun _ => ?_)
  conv => whnf
  refine LoopA_i (T := tys) tysOk (by exact drawsB_spec mixed tysOk (by decide +kernel)) l (fun i (acc : List Int) => ⟨[(2, .ptr 2 0), (4, .ptr 4 0), (15, .d (lightsD l)), (16, .d (i64 l.length)), (17, .d (i64 i))], [(2, .box (.dd c.cells)), (4, .box (.vv [.sl 34 1 0 acc.length])), (34, .arr 1 (.dd (acc.map fun n => [i64 n])))], st⟩)
    (fun i r acc => whichF (agL c) l 0 = acc ++ whichF (agL c) r i ∧ acc.length ≤ i ∧ ∀ x ∈ r, LightR x) [] ((Wk.bornBox 4 34 1 rfl rfl rfl rfl).trans (Wk.sub ⟨(by first | rfl | (simp only [List.length_map]; rfl) | simp [PX.get]), (by first | rfl | (simp only [List.length_map]; rfl) | simp [PX.get]), (by first | rfl | (simp only [List.length_map]; rfl) | simp [PX.get]), (by first | rfl | (simp only [List.length_map]; rfl) | simp [PX.get]), (by first | rfl | (simp only [List.length_map]; rfl) | simp [PX.get]), trivial⟩ ⟨(by first | rfl | (simp only [List.length_map]; rfl) | simp [PX.get]), (by first | rfl | (simp only [List.length_map]; rfl) | simp [PX.get]), (by first | rfl | (simp only [List.length_map]; rfl) | simp [PX.get]), trivial⟩)) ⟨rfl, by simp, hl⟩ ?_ ?_
  · intro i x r acc hx hi hr ⟨he, hal, hlr⟩
    rw [whichF] at he
    have hxR := hlr x (by simp)
    have hlr : ∀ y ∈ r, LightR y := fun y hy => hlr y (by simp [hy])
    conv => whnf
    refine brk_i (fun _ => ?_) (fun h => absurd hi (by simpa using h))
    conv => whnf
    refine elemK_nat hx ?_
    conv => whnf
    refine CallA_v (la76 c hR) rfl rfl ?_
    conv => whnf
    refine RangeA_list tysOk (by exact drawsB_spec mixed tysOk (by decide +kernel)) (by exact drawsB_spec mixed tysOk (by decide +kernel)) rfl 1500000 1600000 [2, 4, 6, 7] (by exact yields_agree h00)
      (fun (_ : Unit) => ([(1500000, .box (.dd c.cells)), (1500001, .box (.vv [.sl 34 1 0 acc.length])), (34, .arr 1 (.dd (acc.map fun n => [i64 n]))), (1500002, .box (.dd [i64 i])), (1500003, .box (.dd x.cells))], st))
      (fun rest _ => (agL c).any (keepsB x.phases) = rest.any (keepsB x.phases) ∧ ∀ p ∈ rest, p.2.length = c.lamp.night.toNat) () rfl rfl rfl ⟨rfl, fun p hp => (agL_ok h00 hp).2.2⟩ ?_ ?_
    · rintro ⟨t, lit⟩ rest _ ⟨hk, hll⟩ Q hQ1 hQ2
      refine ⟨⟨rfl, rfl⟩, ?_⟩
      have hlen := hll (t, lit) (by simp)
      simp only at hlen
      have hrest : ∀ q ∈ rest, q.2.length = c.lamp.night.toNat := fun q hq => hll q (by simp [hq])
      have hne : lit ≠ [] := by rintro rfl; simp at hlen; omega
      rw [List.any_cons] at hk
      conv => whnf
      refine CallA_v (la90 lit x.phases hne (by omega) hxR.len) rfl rfl ?_
      conv => whnf
      refine brk_i (fun h1 => ?_) (fun h1 => ?_)
      · have h1 : keepsB x.phases (t, lit) = true := h1
        rw [h1, Bool.true_or] at hk
        rw [hk, if_pos rfl] at he
        conv => whnf
        refine ownK_whole rfl ?_
        conv => whnf
        refine ownK_whole (by simp [Els.len]) ?_
        conv => whnf
        refine chk_i (decide_eq_true (by
          show ((acc.map fun n => [i64 n]).length + 1) * 8 ≤ 140737488355328
          rw [List.length_map]; omega)) ?_
        conv => whnf
        refine ⟨[(1500000, .box (.dd c.cells)), (1500001, .box (.vv [.sl 34 1 0 (acc ++ [(i : Int)]).length])), (34, .arr 1 (.dd ((acc ++ [(i : Int)]).map fun n => [i64 n])))], st, Wk.sub trivial ⟨rfl, ?_, ?_, trivial⟩, rfl, hQ2 _ _ _ ?_⟩
        · simp [PX.get, Els.len]
        · simp [PX.get]
        · conv => whnf
          refine arith_in (wrap_i64 (by (try dsimp only); omega)) ?_
          conv => whnf
          exact ⟨acc ++ [(i : Int)], ⟨by rw [he]; simp, by simp; omega, hlr⟩, (Wk.sub ⟨(by first | rfl | (simp only [List.length_map]; rfl) | simp [PX.get]), (by first | rfl | (simp only [List.length_map]; rfl) | simp [PX.get]), (by first | rfl | (simp only [List.length_map]; rfl) | simp [PX.get]), (by first | rfl | (simp only [List.length_map]; rfl) | simp [PX.get]), (by first | rfl | (simp only [List.length_map]; rfl) | simp [PX.get]), trivial⟩ ⟨(by first | rfl | (simp only [List.length_map]; rfl) | simp [PX.get]), (by first | rfl | (simp only [List.length_map]; rfl) | simp [PX.get]), (by first | rfl | (simp only [List.length_map]; rfl) | simp [PX.get]), trivial⟩)⟩
      · have h1 : keepsB x.phases (t, lit) = false := h1
        rw [h1, Bool.false_or] at hk
        conv => whnf
        exact ⟨(), (Wk.sub trivial ⟨(by first | rfl | (simp only [List.length_map]; rfl) | simp [PX.get]), (by first | rfl | (simp only [List.length_map]; rfl) | simp [PX.get]), (by first | rfl | (simp only [List.length_map]; rfl) | simp [PX.get]), (by first | rfl | (simp only [List.length_map]; rfl) | simp [PX.get]), (by first | rfl | (simp only [List.length_map]; rfl) | simp [PX.get]), trivial⟩), rfl, hQ1 _ ⟨hk, hrest⟩⟩
    · rintro _ ⟨hk, _⟩
      rw [List.any_nil] at hk
      rw [hk, if_neg (by simp)] at he
      conv => whnf
      refine arith_in (wrap_i64 (by (try dsimp only); omega)) ?_
      conv => whnf
      exact ⟨acc, ⟨he, by omega, hlr⟩, (Wk.sub ⟨(by first | rfl | (simp only [List.length_map]; rfl) | simp [PX.get]), (by first | rfl | (simp only [List.length_map]; rfl) | simp [PX.get]), (by first | rfl | (simp only [List.length_map]; rfl) | simp [PX.get]), (by first | rfl | (simp only [List.length_map]; rfl) | simp [PX.get]), (by first | rfl | (simp only [List.length_map]; rfl) | simp [PX.get]), trivial⟩ ⟨(by first | rfl | (simp only [List.length_map]; rfl) | simp [PX.get]), (by first | rfl | (simp only [List.length_map]; rfl) | simp [PX.get]), (by first | rfl | (simp only [List.length_map]; rfl) | simp [PX.get]), trivial⟩)⟩
  · intro acc ⟨he, hal, _⟩
    rw [whichF, List.append_nil] at he
    rw [he]
    conv => whnf
    refine brk_i (fun h => absurd h (by simp)) (fun _ => ?_)
    conv => whnf
    rw [h0]
    exact RetA_view 1 (ds := [intsD acc, i64 0]) (viewL_cons (viewV_sl rfl (by simp)) rfl) ⟨⟨rfl, rfl⟩, rfl⟩
end Go.PX

namespace Go.PX
open Go.Proofs

/- Lamp: Longest and Wind (the program). -/

theorem relaxE_spans : ∀ l : List Span, relaxE (l.map Span.cells) = l.map Span.cells
  | [] => rfl
  | s :: r => by
    rw [List.map_cons, relaxE, relaxE_spans r]; rfl

/-- The case of a lamp alone. -/
def aloneC (x : LLamp) : LCase := ⟨x, [], []⟩

def anyStart (x : LLamp) : LLamp := { x with start := ⟨0, x.drum - 1⟩ }

theorem la96 (s : Int) (b : Bool) : FnV Try.prog 96 [i64 s, .bool b] (.bool true) := by
  refine fnV_of mixed tysOk Try.func96 rfl (ft := ft96) 2 (by decide +kernel) (by rfl) fun {σ} Y st => ?_
  conv => whnf
  exact RetA_view 0 rfl ⟨⟨rfl, rfl⟩, rfl⟩

def anyC (x : LLamp) : List (LTruth × List Bool) := truL (anyStart x) [] trueF

def longStep (ps : List LPhase) (n : Int) (p : LTruth × List Bool) : Int := if failsL p.2 ps ≥ 0 then min n (failsL p.2 ps) else n
def longF (x : LLamp) (ps : List LPhase) : Int := (anyC x).foldl (longStep ps) x.night
def longE (x : LLamp) (l : LLight) : Int := entrE (aloneC x) [l]
def longV (x : LLamp) (l : LLight) : Int := if longE x l = 0 then longF x l.phases else 0

theorem LampR.any {x : LLamp} (h : LampR x) : LampR (anyStart x) := ⟨h.drum, h.slow, h.night, h.lits, h.lit, by
  have := h.drum
  show 0 ≤ (0 : Int) ∧ (0 : Int) ≤ x.drum - 1 ∧ x.drum - 1 ≤ x.drum - 1
  omega, h.speed⟩

theorem failsF_lo {l : List LPhase} {lit : List Bool} (h : 0 ≤ failsL lit l) : 1 ≤ failsL lit l := by
  unfold failsL at h ⊢
  cases lit with
  | nil => simp at h
  | cons b r =>
    have := failsF_rng (l := l) (r := r) (b := b) (A := initA b l.length) (s := 1)
    simp only at h ⊢
    omega

theorem upW_nil (x : LLamp) : upW x [] := trivial
theorem upF_nil {x : LLamp} (h : LampR x) : upF x 0 [] := by
  have := h.night
  show 0 ≤ x.night
  omega

theorem anyC_len {x : LLamp} (h : LampR x) {p : LTruth × List Bool} (hp : p ∈ anyC x) : p.2.length = x.night.toNat := by
  unfold anyC at hp
  rw [truL_all (upF_nil h.any)] at hp
  obtain ⟨t, _, rfl⟩ := List.mem_map.1 hp
  simp only [courseL, courseF_len]; rfl

set_option maxHeartbeats 1000000 in
theorem la37 (x : LLamp) (l : LLight) : FnV Try.prog 37 [x.d, l.d] (.tup [i64 (longV x l), i64 (longE x l)]) := by
  refine fnV_of mixed tysOk Try.func37 rfl (ft := ft37) 2 (by decide +kernel) (by rfl) fun {σ} Y st => ?_
  conv => whnf
  refine CallA_rep (args' := [.d (aloneC x).d, .sl 13 2 0 1]) (fun yv L F w vs => ?_) ?_
  · rintro ⟨a, r, rfl, ha, hr⟩
    refine ⟨a, r, rfl, ?_, hr⟩
    have e : relax (.agg (x.cells ++ [.nils, .nils])) = (aloneC x).d := by
      show D.agg (relaxL (x.cells ++ [.nils, .nils])) = _
      simp only [LLamp.cells, List.cons_append, List.nil_append, relaxL, relax, spansD, relaxE_spans]
      rfl
    exact e ▸ RepD.relax _ _ (show RepD F w (.agg (x.cells ++ [.nils, .nils])) a from ha)
  refine CallA_view (la89 (aloneC x) [l]) rfl 1 rfl ?_
  conv => whnf
  by_cases h0 : longE x l = 0
  case neg =>
    have hv : longV x l = 0 := by unfold longV; rw [if_neg h0]
    rw [hv]
    unfold longE at h0 ⊢
    refine brk_i (fun _ => ?_) (fun h1 => absurd h1 (by simp [h0]))
    conv => whnf
    exact RetA_view 0 rfl ⟨⟨rfl, rfl⟩, rfl⟩
  have hv : longV x l = longF x l.phases := by unfold longV; rw [if_pos h0]
  rw [hv]
  unfold longE at h0 ⊢
  obtain ⟨h00, hl⟩ := entr_ok h0
  have hlR := hl l (by simp)
  have hR0 := (checkL_ok h00).lamp
  have hR0 : LampR x := hR0
  have hR := hR0.any
  have hn := hR0.night
  have hd := hR0.drum
  refine brk_i (fun h1 => absurd h1 (by simp [h0])) (fun _ => ?_)
  conv => whnf
  refine arith_in (wrap_i64 (by (try dsimp only); omega)) ?_
  conv => whnf
  refine CallA_v (la80 (anyStart x) hR) rfl rfl ?_
  conv => whnf
  refine CallA_nil1 (CallA_v (la81 (anyStart x) [] 96 []) rfl rfl ?_)
  conv => whnf
  refine RangeA_list tysOk (by exact drawsB_spec mixed tysOk (by decide +kernel)) (by exact drawsB_spec mixed tysOk (by decide +kernel)) rfl 1500000 1600000 [2, 3, 7] (by exact fun {γ} => yields112 hR (w := []) (by simp) (by simp) (upW_nil _) (fun s b _ => la96 s b))
    (fun (n : Int) => ([(1500000, .box (.dd (anyStart x).cells)), (1500001, .box (.dd l.cells)), (13, .arr 2 (.dd [l.cells])), (1500002, .box (.dd [i64 n]))], st))
    (fun rest n => longF x l.phases = rest.foldl (longStep l.phases) n ∧ ∀ p ∈ rest, p.2.length = x.night.toNat) x.night rfl rfl rfl ⟨rfl, fun p hp => anyC_len hR0 hp⟩ ?_ ?_
  · rintro ⟨t, lit⟩ rest n ⟨hk, hll⟩ Q hQ1 -
    refine ⟨⟨rfl, rfl⟩, ?_⟩
    rw [List.foldl_cons] at hk
    have hlen := hll (t, lit) (by simp)
    simp only at hlen
    have hrest : ∀ q ∈ rest, q.2.length = x.night.toNat := fun q hq => hll q (by simp [hq])
    have hne : lit ≠ [] := by rintro rfl; simp at hlen; omega
    conv => whnf
    refine CallA_v (la90 lit l.phases hne (by omega) hlR.len) rfl rfl ?_
    conv => whnf
    rw [longStep] at hk
    refine brk_i (fun h1 => ?_) (fun h1 => ?_)
    · have h1 : failsL lit l.phases ≥ 0 := by simpa using h1
      rw [if_pos h1] at hk
      conv => whnf
      exact ⟨min n (failsL lit l.phases), (Wk.sub trivial ⟨(by first | rfl | (simp only [List.length_map]; rfl) | simp [PX.get]), (by first | rfl | (simp only [List.length_map]; rfl) | simp [PX.get]), (by first | rfl | (simp only [List.length_map]; rfl) | simp [PX.get]), (by first | rfl | (simp only [List.length_map]; rfl) | simp [PX.get]), trivial⟩), rfl, hQ1 _ ⟨hk, hrest⟩⟩
    · have h1 : ¬ failsL lit l.phases ≥ 0 := by simpa using h1
      rw [if_neg h1] at hk
      conv => whnf
      exact ⟨n, (Wk.sub trivial ⟨(by first | rfl | (simp only [List.length_map]; rfl) | simp [PX.get]), (by first | rfl | (simp only [List.length_map]; rfl) | simp [PX.get]), (by first | rfl | (simp only [List.length_map]; rfl) | simp [PX.get]), (by first | rfl | (simp only [List.length_map]; rfl) | simp [PX.get]), trivial⟩), rfl, hQ1 _ ⟨hk, hrest⟩⟩
  · rintro n ⟨hk, _⟩
    rw [List.foldl_nil] at hk
    rw [hk]
    conv => whnf
    rw [h0]
    exact RetA_view 0 rfl ⟨⟨rfl, rfl⟩, rfl⟩
end Go.PX

namespace Go.PX
open Go.Proofs

/- Lamp: Wind (the program). -/

def windL (k : Nat) (n : Int) : List Int := (List.range k).map fun (i : Nat) => ((i : Int) + 1) * n
def windV (x : LLamp) (l : LLight) : List Int := if longE x l = 0 then windL ((x.night - 1).tdiv (longV x l)).toNat (longV x l) else []

theorem windL_succ (k : Nat) (n : Int) : windL (k + 1) n = windL k n ++ [((k : Int) + 1) * n] := by
  unfold windL
  rw [List.range_succ, List.map_append]; rfl

theorem windL_len (k : Nat) (n : Int) : (windL k n).length = k := by simp [windL]

theorem longF_rng {x : LLamp} {ps : List LPhase} (h : LampR x) : 1 ≤ longF x ps ∧ longF x ps ≤ x.night := by
  have hn := h.night
  unfold longF
  have key : ∀ (l : List (LTruth × List Bool)) (n : Int), 1 ≤ n ∧ n ≤ x.night → 1 ≤ l.foldl (longStep ps) n ∧ l.foldl (longStep ps) n ≤ x.night := by
    intro l
    induction l with
    | nil => exact fun n h => h
    | cons p r ih =>
      intro n hn
      rw [List.foldl_cons]
      refine ih _ ?_
      unfold longStep
      split
      · rename_i h1
        have := failsF_lo h1
        omega
      · exact hn
  exact key _ _ ⟨hn.1, Int.le_refl _⟩

theorem long_ok {x : LLamp} {l : LLight} (h : longE x l = 0) : LampR x ∧ LightR l := by
  obtain ⟨h1, h2⟩ := entr_ok h
  exact ⟨(checkL_ok h1).lamp, h2 l (by simp)⟩

set_option maxHeartbeats 1000000 in
theorem la39 (x : LLamp) (l : LLight) : FnV Try.prog 39 [x.d, l.d] (.tup [intsD (windV x l), i64 (longE x l)]) := by
  refine fnV_of mixed tysOk Try.func39 rfl (ft := ft39) 2 (by decide +kernel) (by rfl) fun {σ} Y st => ?_
  conv => whnf
  refine CallA_v (la37 x l) rfl rfl ?_
  conv => whnf
  by_cases h0 : longE x l = 0
  case neg =>
    have hv : windV x l = [] := by unfold windV; rw [if_neg h0]
    rw [hv]
    refine brk_i (fun _ => ?_) (fun h1 => absurd h1 (by simp [h0]))
    conv => whnf
    exact RetA_viewR 0 rfl rfl ⟨⟨rfl, rfl⟩, rfl⟩
  have hv : windV x l = windL ((x.night - 1).tdiv (longV x l)).toNat (longV x l) := by unfold windV; rw [if_pos h0]
  have hR := (long_ok h0).1
  have hl := longF_rng (ps := l.phases) hR
  have hlv : longV x l = longF x l.phases := by unfold longV; rw [if_pos h0]
  rw [← hlv] at hl
  rw [hv]
  have hn := hR.night
  refine brk_i (fun h1 => absurd h1 (by simp [h0])) (fun _ => ?_)
  conv => whnf
  refine arith_in (wrap_i64 (by (try dsimp only); omega)) ?_
  conv => whnf
  refine chk_i (decide_eq_true (by omega)) ?_
  conv => whnf
  have hq : 0 ≤ (x.night - 1).tdiv (longV x l) ∧ (x.night - 1).tdiv (longV x l) * longV x l ≤ x.night - 1 := by
    rw [Int.tdiv_eq_ediv_of_nonneg (by omega)]
    exact ⟨Int.ediv_nonneg (by omega) (by omega), Int.ediv_mul_le _ (by omega)⟩
  have hq2 : (x.night - 1).tdiv (longV x l) ≤ 200 := by
    rw [Int.tdiv_eq_ediv_of_nonneg (by omega)]
    have := Int.ediv_le_self (a := x.night - 1) (longV x l) (by omega)
    omega
  generalize (x.night - 1).tdiv (longV x l) = k at hq hq2
  generalize longV x l = n at hl hq
  obtain ⟨K, rfl⟩ := Int.eq_ofNat_of_zero_le hq.1
  refine arith_in (wrap_i64 (by (try dsimp only); omega)) ?_
  conv => whnf
  refine LoopA_p (T := tys) tysOk (by exact drawsB_spec mixed tysOk (by decide +kernel)) (α := Nat)
    (fun i => ⟨[(4, .sl 31 1 0 i), (5, .d (i64 (longE x l))), (6, .d (i64 n)), (21, .d (i64 K)), (22, .d (i64 i))], [(31, .arr 1 (.dd ((windL i n).map fun n => [i64 n])))], st⟩) (fun i => i ≤ K) (fun i => K - i) 0 ((Wk.born 4 31 1 rfl rfl rfl).trans (Wk.sub ⟨(by first | rfl | (simp only [List.length_map]; rfl) | simp [PX.get]), (by first | rfl | (simp only [List.length_map]; rfl) | simp [PX.get]), (by first | rfl | (simp only [List.length_map]; rfl) | simp [PX.get]), (by first | rfl | (simp only [List.length_map]; rfl) | simp [PX.get]), (by first | rfl | (simp only [List.length_map]; rfl) | simp [PX.get]), trivial⟩ ⟨(by first | rfl | (simp only [List.length_map]; rfl) | simp [PX.get]), trivial⟩)) (Nat.zero_le _) ?_
  intro i hi
  have hil : (windL i n).length = i := windL_len i n
  conv => whnf
  refine brk_i (fun h1 => ?_) (fun h1 => ?_)
  · have h1 : i < K := by have := of_decide_eq_true h1; omega
    have hm0 : 0 ≤ ((i : Int) + 1) * n := Int.mul_nonneg (by omega) (by omega)
    have hm : ((i : Int) + 1) * n ≤ x.night - 1 := Int.le_trans (Int.mul_le_mul_of_nonneg_right (by omega) (by omega)) hq.2
    conv => whnf
    refine arith_in (wrap_i64 (by (try dsimp only); omega)) ?_
    conv => whnf
    refine arith_in (wrap_i64 (by omega)) ?_
    conv => whnf
    refine ownK_whole rfl ?_
    conv => whnf
    refine ownK_whole (by simp [Els.len, hil]) ?_
    conv => whnf
    refine chk_i (decide_eq_true (by
      show (((windL i n).map fun n => [i64 n]).length + 1) * 8 ≤ 140737488355328
      rw [List.length_map]; omega)) ?_
    conv => whnf
    refine arith_in (wrap_i64 (by (try dsimp only); omega)) ?_
    conv => whnf
    refine ⟨i + 1, (by show K - (i + 1) < K - i; omega), (by show i + 1 ≤ K; omega), Wk.sub ⟨?_, rfl, rfl, rfl, rfl, trivial⟩ ⟨?_, trivial⟩⟩
    · simp [PX.get, Els.len, hil]
    · rw [windL_succ]; simp [PX.get]
  · have h1 : i = K := by have := of_decide_eq_false h1; omega
    subst h1
    conv => whnf
    rw [h0]
    exact RetA_view 1 (ds := [intsD (windL i n), i64 0]) (viewL_cons (viewV_sl rfl (by simp [hil])) rfl) ⟨⟨rfl, rfl⟩, rfl⟩
end Go.PX

namespace Go.PX
open Go.Proofs

/- Lamp: the reference: the error of a lamp. -/

def narrowF (s : Span) (lo hi wide : Int) : Int := if spread lo hi [s] 0 = 0 then (if s.hi - s.lo > wide then 2 else 0) else spread lo hi [s] 0

theorem spread1 {s : Span} {lo hi : Int} : spread lo hi [s] 0 = if inB s.lo lo hi && inB s.hi lo hi then (if s.lo > s.hi then 2 else 0) else 7 := rfl

theorem la104 (s : Span) (lo hi wide : Int) (h : -1000000 ≤ lo ∧ hi ≤ 1000000) : FnV Try.prog 104 [s.d, i64 lo, i64 hi, i64 wide] (i64 (narrowF s lo hi wide)) := by
  refine fnV_of mixed tysOk Try.func104 rfl (ft := ft104) 4 (by decide +kernel) (by rfl) fun {σ} Y st => ?_
  conv => whnf
  refine CallA_v (fn90 s lo hi) rfl rfl ?_
  conv => whnf
  unfold narrowF
  refine brk_i (fun h0 => ?_) (fun h0 => ?_)
  · have h0 : spread lo hi [s] 0 = 0 := by simpa using h0
    rw [if_pos h0]
    have hb : inB s.lo lo hi = true ∧ inB s.hi lo hi = true := by
      rw [spread1] at h0
      split at h0
      · rename_i h1; simpa using h1
      · cases h0
    rw [inB_iff, inB_iff] at hb
    refine arith_to (s.hi - s.lo) (by simp) (wrap_i64 (by omega)) ?_
    conv => whnf
    refine brk_i (fun h1 => ?_) (fun h1 => ?_)
    · have h1 : s.hi - s.lo > wide := by simpa using h1
      rw [if_pos h1]
      conv => whnf
      exact RetA_view 0 rfl ⟨⟨rfl, rfl⟩, rfl⟩
    · have h1 : ¬ s.hi - s.lo > wide := by simpa using h1
      rw [if_neg h1]
      conv => whnf
      rw [h0]
      exact RetA_view 0 rfl ⟨⟨rfl, rfl⟩, rfl⟩
  · have h0 : ¬ spread lo hi [s] 0 = 0 := by simpa using h0
    rw [if_neg h0]
    conv => whnf
    exact RetA_view 0 rfl ⟨⟨rfl, rfl⟩, rfl⟩

theorem narrow_eq (s : Span) (lo hi wide : Int) : narrowF s lo hi wide = if inB s.lo lo hi && inB s.hi lo hi then (if inB (s.hi - s.lo) 0 wide then 0 else 2) else 7 := by
  unfold narrowF
  rw [spread1]
  by_cases h1 : (inB s.lo lo hi && inB s.hi lo hi) = true
  · rw [if_pos h1, if_pos h1]
    by_cases h2 : s.lo > s.hi
    · have : ¬ inB (s.hi - s.lo) 0 wide = true := by rw [inB_iff]; omega
      rw [if_pos h2, if_neg this]; rfl
    · rw [if_neg h2, if_pos rfl]
      by_cases h3 : s.hi - s.lo > wide
      · have : ¬ inB (s.hi - s.lo) 0 wide = true := by rw [inB_iff]; omega
        rw [if_pos h3, if_neg this]
      · have : inB (s.hi - s.lo) 0 wide = true := by rw [inB_iff]; omega
        rw [if_neg h3, if_pos this]
  · rw [if_neg h1, if_neg h1]; rfl

theorem litF_at {drum : Int} {l : List Span} {i : Nat} {x : Span} {r : List Span} {last : Int} (h : litF drum (-1) l 0 = litF drum last (x :: r) i) : litF drum (-1) l 0 = if inB x.lo 0 (drum - 1) && inB x.hi 0 (drum - 1) then (if x.lo > x.hi || x.lo ≤ last then ((i : Int), 2) else litF drum x.hi r (i + 1)) else ((i : Int), 7) := by
  rw [h, litF]

/-- The error of an opening, as the reference looks at it. -/
def sectE (drum last : Int) (x : Span) : Int := if inB x.lo 0 (drum - 1) && inB x.hi 0 (drum - 1) then (if x.lo > x.hi || x.lo ≤ last then 2 else 0) else 7

theorem litF_step {drum last : Int} {x : Span} {r : List Span} {i : Int} : litF drum last (x :: r) i = if sectE drum last x = 0 then litF drum x.hi r (i + 1) else (i, sectE drum last x) := by
  rw [litF, sectE]
  split
  · split <;> simp
  · simp

theorem la62 (x : LLamp) : FnV Try.prog 62 [x.d] (tri (wheelF x)) := by
  refine fnV_of mixed tysOk Try.func62 rfl (ft := ft62) 1 (by decide +kernel) (by rfl) fun {σ} Y st => ?_
  conv => whnf
  refine CallA_v (fn55 x.drum 2 120) rfl rfl ?_
  conv => whnf
  unfold wheelF
  cases h1 : inB x.drum 2 120 with
  | false =>
    conv => whnf
    exact RetA_view 0 rfl ⟨⟨rfl, rfl⟩, rfl⟩
  | true =>
  conv => whnf
  refine CallA_v (fn55 x.slow 1 200) rfl rfl ?_
  conv => whnf
  cases h2 : inB x.slow 1 200 with
  | false =>
    conv => whnf
    exact RetA_view 0 rfl ⟨⟨rfl, rfl⟩, rfl⟩
  | true =>
  conv => whnf
  refine CallA_v (fn55 x.night 1 200) rfl rfl ?_
  conv => whnf
  cases h3 : inB x.night 1 200 with
  | false =>
    conv => whnf
    exact RetA_view 0 rfl ⟨⟨rfl, rfl⟩, rfl⟩
  | true =>
  simp only [Bool.and_self, if_true]
  rw [inB_iff] at h1 h2 h3
  conv => whnf
  refine brk_i (fun h4 => ?_) (fun h4 => ?_)
  · have h4 : 4 < x.lit.length := by have := of_decide_eq_true h4; simp at this; omega
    rw [if_pos h4]
    conv => whnf
    exact RetA_view 0 rfl ⟨⟨rfl, rfl⟩, rfl⟩
  have h4 : ¬ 4 < x.lit.length := by have := of_decide_eq_false h4; simp at this; omega
  rw [if_neg h4]
  conv => whnf
  refine LoopA_i (T := tys) tysOk (by exact drawsB_spec mixed tysOk (by decide +kernel)) x.lit (fun i (last : Int) => ⟨[(1, .ptr 1 0), (5, .d (i64 i))], [(1, .box (.dd x.cells))], st⟩)
    (fun i r last => litF x.drum (-1) x.lit 0 = litF x.drum last r i ∧ (i = 0 ∧ last = -1 ∨ 0 < i ∧ ∃ y, x.lit[i - 1]? = some y ∧ last = y.hi)) (-1) (Wk.sub ⟨(by first | rfl | (simp only [List.length_map]; rfl) | simp [PX.get]), (by first | rfl | (simp only [List.length_map]; rfl) | simp [PX.get]), trivial⟩ ⟨(by first | rfl | (simp only [List.length_map]; rfl) | simp [PX.get]), trivial⟩) ⟨rfl, .inl ⟨rfl, rfl⟩⟩ ?_ ?_
  · intro i y r last hx hi hr ⟨he, hla⟩
    rw [litF_step] at he
    have hnext : (i + 1 = 0 ∧ y.hi = -1 ∨ 0 < i + 1 ∧ ∃ z, x.lit[i + 1 - 1]? = some z ∧ y.hi = z.hi) := .inr ⟨by omega, y, by rw [Nat.add_sub_cancel]; exact hx, rfl⟩
    conv => whnf
    refine brk_i (fun _ => ?_) (fun h => absurd hi (by simpa using h))
    conv => whnf
    refine elemK_nat hx ?_
    conv => whnf
    refine arith_in (wrap_i64 (by (try dsimp only); omega)) ?_
    conv => whnf
    refine DrawCall_v (fn90 y 0 (x.drum - 1)) rfl rfl ?_
    conv => whnf
    rw [spread1]
    by_cases h5 : (inB y.lo 0 (x.drum - 1) && inB y.hi 0 (x.drum - 1)) = true
    case neg =>
      have ho : sectE x.drum last y = 7 := by unfold sectE; rw [if_neg h5]
      rw [ho, if_neg (by decide)] at he
      rw [if_neg h5]
      conv => whnf
      rw [he]
      exact RetA_view 0 rfl ⟨⟨rfl, rfl⟩, rfl⟩
    rw [if_pos h5]
    by_cases h6 : y.lo > y.hi
    · have ho : sectE x.drum last y = 2 := by unfold sectE; rw [if_pos h5, if_pos (by simp [h6])]
      rw [ho, if_neg (by decide)] at he
      rw [if_pos h6]
      conv => whnf
      rw [he]
      exact RetA_view 0 rfl ⟨⟨rfl, rfl⟩, rfl⟩
    rw [if_neg h6]
    conv => whnf
    refine brk_i (fun h7 => ?_) (fun h7 => ?_)
    · have h7 : 0 < i := by simpa using h7
      rcases hla with ⟨h0, _⟩ | ⟨_, z, hz, hzl⟩
      · omega
      subst hzl
      conv => whnf
      refine elemK_nat hx ?_
      conv => whnf
      refine arith_to ((i - 1 : Nat) : Int) (by omega) (wrap_i64 (by omega)) ?_
      conv => whnf
      refine elemK_nat hz ?_
      conv => whnf
      refine brk_i (fun h8 => ?_) (fun h8 => ?_)
      · have h8 : y.lo ≤ z.hi := by simpa using h8
        have ho : sectE x.drum z.hi y = 2 := by unfold sectE; rw [if_pos h5, if_pos (by simp [h8])]
        rw [ho, if_neg (by decide)] at he
        conv => whnf
        rw [he]
        exact RetA_view 0 rfl ⟨⟨rfl, rfl⟩, rfl⟩
      · have h8 : ¬ y.lo ≤ z.hi := by simpa using h8
        have ho : sectE x.drum z.hi y = 0 := by unfold sectE; rw [if_pos h5, if_neg (by simp [h8, h6])]
        rw [ho, if_pos rfl] at he
        conv => whnf
        refine arith_in (wrap_i64 (by (try dsimp only); omega)) ?_
        conv => whnf
        exact ⟨y.hi, ⟨he, hnext⟩, (Wk.sub ⟨(by first | rfl | (simp only [List.length_map]; rfl) | simp [PX.get]), (by first | rfl | (simp only [List.length_map]; rfl) | simp [PX.get]), trivial⟩ ⟨(by first | rfl | (simp only [List.length_map]; rfl) | simp [PX.get]), trivial⟩)⟩
    · have h7 : i = 0 := by have := of_decide_eq_false h7; omega
      rcases hla with ⟨_, hl⟩ | ⟨h0, _⟩
      · have h5' := h5
        simp only [Bool.and_eq_true, inB_iff] at h5'
        have ho : sectE x.drum last y = 0 := by unfold sectE; rw [if_pos h5, if_neg (by simp [h6]; omega)]
        rw [ho, if_pos rfl] at he
        conv => whnf
        refine arith_in (wrap_i64 (by (try dsimp only); omega)) ?_
        conv => whnf
        exact ⟨y.hi, ⟨he, hnext⟩, (Wk.sub ⟨(by first | rfl | (simp only [List.length_map]; rfl) | simp [PX.get]), (by first | rfl | (simp only [List.length_map]; rfl) | simp [PX.get]), trivial⟩ ⟨(by first | rfl | (simp only [List.length_map]; rfl) | simp [PX.get]), trivial⟩)⟩
      · omega
  · intro last ⟨he, _⟩
    rw [litF] at he
    rw [he]
    simp only [if_true]
    conv => whnf
    refine brk_i (fun h => absurd h (by simp)) (fun _ => ?_)
    conv => whnf
    refine arith_in (wrap_i64 (by (try dsimp only); omega)) ?_
    conv => whnf
    refine DrawCall_v (la104 x.start 0 (x.drum - 1) 12 (by omega)) rfl rfl ?_
    conv => whnf
    refine DrawCall_v (la104 x.speed 1 40 4 (by omega)) rfl rfl ?_
    conv => whnf
    have ht : (if (inB x.start.lo 0 (x.drum - 1) && inB x.start.hi 0 (x.drum - 1)) && (inB x.speed.lo 1 40 && inB x.speed.hi 1 40) then
        (if inB (x.start.hi - x.start.lo) 0 12 && inB (x.speed.hi - x.speed.lo) 0 4 then ((0, 0, 0) : Int × Int × Int) else (3, 0, 2)) else (3, 0, 7)) =
        if narrowF x.start 0 (x.drum - 1) 12 = 7 ∨ narrowF x.speed 1 40 4 = 7 then (3, 0, 7) else if narrowF x.start 0 (x.drum - 1) 12 ≠ 0 ∨ narrowF x.speed 1 40 4 ≠ 0 then (3, 0, 2) else (0, 0, 0) := by
      rw [narrow_eq, narrow_eq]
      by_cases q1 : (inB x.start.lo 0 (x.drum - 1) && inB x.start.hi 0 (x.drum - 1)) = true <;> by_cases q2 : (inB x.speed.lo 1 40 && inB x.speed.hi 1 40) = true <;>
        by_cases q3 : inB (x.start.hi - x.start.lo) 0 12 = true <;> by_cases q4 : inB (x.speed.hi - x.speed.lo) 0 4 = true <;> simp [q1, q2, q3, q4]
    rw [ht]
    generalize narrowF x.start 0 (x.drum - 1) 12 = A
    generalize narrowF x.speed 1 40 4 = B
    by_cases hA7 : A = 7
    · rw [if_pos (.inl hA7)]
      rw [decide_eq_true hA7]
      conv => whnf
      exact RetA_view 0 rfl ⟨⟨rfl, rfl⟩, rfl⟩
    rw [decide_eq_false hA7]
    conv => whnf
    by_cases hB7 : B = 7
    · rw [if_pos (.inr hB7)]
      rw [decide_eq_true hB7]
      conv => whnf
      exact RetA_view 0 rfl ⟨⟨rfl, rfl⟩, rfl⟩
    rw [decide_eq_false hB7, if_neg (fun h => h.elim hA7 hB7)]
    conv => whnf
    by_cases hA0 : A = 0
    case neg =>
      rw [if_pos (.inl hA0), decide_eq_false hA0]
      conv => whnf
      exact RetA_view 0 rfl ⟨⟨rfl, rfl⟩, rfl⟩
    rw [decide_eq_true hA0]
    conv => whnf
    by_cases hB0 : B = 0
    case neg =>
      rw [if_pos (.inr hB0), decide_eq_false hB0]
      conv => whnf
      exact RetA_view 0 rfl ⟨⟨rfl, rfl⟩, rfl⟩
    rw [decide_eq_true hB0, if_neg (fun h => h.elim (fun h => h hA0) (fun h => h hB0))]
    conv => whnf
    exact RetA_view 0 rfl ⟨⟨rfl, rfl⟩, rfl⟩
end Go.PX

namespace Go.PX
open Go.Proofs

/- Lamp: the reference: Check. -/

set_option maxHeartbeats 1000000 in
theorem la16 (c : LCase) : FnV Try.prog 16 [c.d] (tri (checkL c)) := by
  refine fnV_of mixed tysOk Try.func16 rfl (ft := ft16) 1 (by decide +kernel) (by rfl) fun {σ} Y st => ?_
  conv => whnf
  refine CallA_v (la62 c.lamp) rfl rfl ?_
  conv => whnf
  unfold checkL
  refine brk_i (fun h1 => ?_) (fun h1 => ?_)
  · have h1 : ¬ (wheelF c.lamp).2.2 = 0 := by simpa using h1
    conv => whnf
    rw [if_neg h1]
    exact RetA_view 0 rfl ⟨⟨rfl, rfl⟩, rfl⟩
  have h1 : (wheelF c.lamp).2.2 = 0 := by simpa using h1
  rw [if_pos h1]
  have hR := wheel_ok h1
  have hn := hR.night
  conv => whnf
  refine arith_in (wrap_i64 (by (try dsimp only); omega)) ?_
  conv => whnf
  refine brk_i (fun h2 => ?_) (fun h2 => ?_)
  · have h2 : 2 < c.windings.length := by have := of_decide_eq_true h2; simp at this; omega
    conv => whnf
    rw [if_pos h2]
    exact RetA_view 0 rfl ⟨⟨rfl, rfl⟩, rfl⟩
  have h2 : ¬ 2 < c.windings.length := by have := of_decide_eq_false h2; simp at this; omega
  rw [if_neg h2]
  conv => whnf
  refine LoopA_i (T := tys) tysOk (by exact drawsB_spec mixed tysOk (by decide +kernel)) c.windings (fun i (last : Int) => ⟨[(1, .ptr 1 0), (8, .d (i64 (c.lamp.night - 1))), (9, .d (i64 i))], [(1, .box (.dd c.cells))], st⟩)
    (fun i r last => windF c.lamp.night 0 c.windings 0 = windF c.lamp.night last r i ∧ (i = 0 ∧ last = 0 ∨ 0 < i ∧ c.windings[i - 1]? = some last)) 0 (Wk.sub ⟨(by first | rfl | (simp only [List.length_map]; rfl) | simp [PX.get]), (by first | rfl | (simp only [List.length_map]; rfl) | simp [PX.get]), (by first | rfl | (simp only [List.length_map]; rfl) | simp [PX.get]), trivial⟩ ⟨(by first | rfl | (simp only [List.length_map]; rfl) | simp [PX.get]), trivial⟩) ⟨rfl, .inl ⟨rfl, rfl⟩⟩ ?_ ?_
  · intro i s r last hx hi hr ⟨he, hla⟩
    rw [windF] at he
    have hnext : (i + 1 = 0 ∧ s = 0 ∨ 0 < i + 1 ∧ c.windings[i + 1 - 1]? = some s) := .inr ⟨by omega, by rw [Nat.add_sub_cancel]; exact hx⟩
    conv => whnf
    refine brk_i (fun _ => ?_) (fun h => absurd hi (by simpa using h))
    conv => whnf
    refine elemK_nat hx ?_
    conv => whnf
    refine CallA_v (fn55 s 1 (c.lamp.night - 1)) rfl rfl ?_
    conv => whnf
    by_cases h3 : inB s 1 (c.lamp.night - 1) = true
    case neg =>
      have h3 : inB s 1 (c.lamp.night - 1) = false := by simpa using h3
      rw [h3] at he ⊢
      rw [if_neg (by simp)] at he
      conv => whnf
      rw [he]
      exact RetA_view 0 rfl ⟨⟨rfl, rfl⟩, rfl⟩
    have h3' := h3
    rw [inB_iff] at h3'
    rw [h3] at he ⊢
    rw [if_pos rfl] at he
    conv => whnf
    refine brk_i (fun h7 => ?_) (fun h7 => ?_)
    · have h7 : 0 < i := by simpa using h7
      rcases hla with ⟨h0, _⟩ | ⟨_, hz⟩
      · omega
      conv => whnf
      refine elemK_nat hx ?_
      conv => whnf
      refine arith_to ((i - 1 : Nat) : Int) (by omega) (wrap_i64 (by omega)) ?_
      conv => whnf
      refine elemK_nat hz ?_
      conv => whnf
      refine brk_i (fun h8 => ?_) (fun h8 => ?_)
      · have h8 : s ≤ last := by simpa using h8
        rw [if_pos h8] at he
        conv => whnf
        rw [he]
        exact RetA_view 0 rfl ⟨⟨rfl, rfl⟩, rfl⟩
      · have h8 : ¬ s ≤ last := by simpa using h8
        rw [if_neg h8] at he
        conv => whnf
        refine arith_in (wrap_i64 (by (try dsimp only); omega)) ?_
        conv => whnf
        exact ⟨s, ⟨he, hnext⟩, (Wk.sub ⟨(by first | rfl | (simp only [List.length_map]; rfl) | simp [PX.get]), (by first | rfl | (simp only [List.length_map]; rfl) | simp [PX.get]), (by first | rfl | (simp only [List.length_map]; rfl) | simp [PX.get]), trivial⟩ ⟨(by first | rfl | (simp only [List.length_map]; rfl) | simp [PX.get]), trivial⟩)⟩
    · have h7 : i = 0 := by have := of_decide_eq_false h7; omega
      rcases hla with ⟨_, hl⟩ | ⟨h0, _⟩
      · rw [if_neg (by omega)] at he
        conv => whnf
        refine arith_in (wrap_i64 (by (try dsimp only); omega)) ?_
        conv => whnf
        exact ⟨s, ⟨he, hnext⟩, (Wk.sub ⟨(by first | rfl | (simp only [List.length_map]; rfl) | simp [PX.get]), (by first | rfl | (simp only [List.length_map]; rfl) | simp [PX.get]), (by first | rfl | (simp only [List.length_map]; rfl) | simp [PX.get]), trivial⟩ ⟨(by first | rfl | (simp only [List.length_map]; rfl) | simp [PX.get]), trivial⟩)⟩
      · omega
  · intro last ⟨he, _⟩
    simp only [windF] at he
    rw [he]
    simp only [if_true]
    conv => whnf
    refine brk_i (fun h => absurd h (by simp)) (fun _ => ?_)
    conv => whnf
    refine brk_i (fun h5 => ?_) (fun h5 => ?_)
    · have h5 : 8 < c.sights.length := by have := of_decide_eq_true h5; simp at this; omega
      conv => whnf
      rw [if_pos h5]
      exact RetA_view 0 rfl ⟨⟨rfl, rfl⟩, rfl⟩
    have h5 : ¬ 8 < c.sights.length := by have := of_decide_eq_false h5; simp at this; omega
    rw [if_neg h5]
    conv => whnf
    refine LoopA_i (T := tys) tysOk (by exact drawsB_spec mixed tysOk (by decide +kernel)) c.sights (fun i (_ : Unit) => ⟨[(1, .ptr 1 0), (8, .d (i64 (c.lamp.night - 1))), (10, .d (i64 i))], [(1, .box (.dd c.cells))], st⟩)
      (fun i r _ => sightF c.lamp.night c.sights 0 = sightF c.lamp.night r i) () (Wk.sub ⟨(by first | rfl | (simp only [List.length_map]; rfl) | simp [PX.get]), (by first | rfl | (simp only [List.length_map]; rfl) | simp [PX.get]), (by first | rfl | (simp only [List.length_map]; rfl) | simp [PX.get]), trivial⟩ ⟨(by first | rfl | (simp only [List.length_map]; rfl) | simp [PX.get]), trivial⟩) rfl ?_ ?_
    · intro i s r _ hx hi hr he
      rw [sightF] at he
      conv => whnf
      refine brk_i (fun _ => ?_) (fun h => absurd hi (by simpa using h))
      conv => whnf
      refine elemK_nat hx ?_
      conv => whnf
      refine CallA_v (fn55 s.second 0 (c.lamp.night - 1)) rfl rfl ?_
      conv => whnf
      by_cases h3 : inB s.second 0 (c.lamp.night - 1) = true
      case neg =>
        have h3 : inB s.second 0 (c.lamp.night - 1) = false := by simpa using h3
        rw [h3] at he ⊢
        rw [if_neg (by simp)] at he
        conv => whnf
        rw [he]
        exact RetA_view 0 rfl ⟨⟨rfl, rfl⟩, rfl⟩
      rw [h3] at he ⊢
      rw [if_pos rfl] at he
      conv => whnf
      refine arith_in (wrap_i64 (by (try dsimp only); omega)) ?_
      conv => whnf
      exact ⟨(), he, (Wk.sub ⟨(by first | rfl | (simp only [List.length_map]; rfl) | simp [PX.get]), (by first | rfl | (simp only [List.length_map]; rfl) | simp [PX.get]), (by first | rfl | (simp only [List.length_map]; rfl) | simp [PX.get]), trivial⟩ ⟨(by first | rfl | (simp only [List.length_map]; rfl) | simp [PX.get]), trivial⟩)⟩
    · intro _ he
      simp only [sightF] at he
      rw [he]
      simp only [if_true]
      conv => whnf
      refine brk_i (fun h => absurd h (by simp)) (fun _ => ?_)
      conv => whnf
      exact RetA_view 0 rfl ⟨⟨rfl, rfl⟩, rfl⟩
end Go.PX

namespace Go.PX
open Go.Proofs

/- Lamp: the reference: Lights. -/

def spansOf (l : List LPhase) : List Span := l.flatMap fun p => [p.flash, p.dark]

theorem spread_eq {lo hi : Int} : ∀ {l : List Span} {e : Int}, spread lo hi l e = if l.all (fun s => inB s.lo lo hi && inB s.hi lo hi) then (if l.any (fun s => decide (s.lo > s.hi)) then (if e = e then 2 else 2) else e) else 7
  | [], e => rfl
  | s :: r, e => by
    rw [spread, List.all_cons, List.any_cons, spread_eq]
    by_cases h1 : (inB s.lo lo hi && inB s.hi lo hi) = true
    · rw [if_pos h1, h1, Bool.true_and]
      by_cases h2 : s.lo > s.hi
      · simp [h2]
      · simp [h2]
    · rw [if_neg h1]
      have h1 : (inB s.lo lo hi && inB s.hi lo hi) = false := by simpa using h1
      rw [h1]; rfl

theorem spread_phases (l : List LPhase) : spread 1 200 (spansOf l) 0 = if l.any (fun p => !phaseIn p) then 7 else if l.any phaseUp then 2 else 0 := by
  rw [spread_eq]
  have h1 : ∀ l : List LPhase, (spansOf l).all (fun s => inB s.lo 1 200 && inB s.hi 1 200) = !l.any (fun p => !phaseIn p) := by
    intro l
    induction l with
    | nil => rfl
    | cons p r ih =>
      have : spansOf (p :: r) = p.flash :: p.dark :: spansOf r := rfl
      rw [this, List.all_cons, List.all_cons, ih, List.any_cons, phaseIn]
      cases inB p.flash.lo 1 200 <;> cases inB p.flash.hi 1 200 <;> cases inB p.dark.lo 1 200 <;> cases inB p.dark.hi 1 200 <;> simp
  have h2 : ∀ l : List LPhase, (spansOf l).any (fun s => decide (s.lo > s.hi)) = l.any phaseUp := by
    intro l
    induction l with
    | nil => rfl
    | cons p r ih =>
      have : spansOf (p :: r) = p.flash :: p.dark :: spansOf r := rfl
      rw [this, List.any_cons, List.any_cons, ih, List.any_cons, phaseUp, Bool.or_assoc]
  rw [h1, h2]
  cases l.any (fun p => !phaseIn p) <;> simp

theorem spansOf_append (a : List LPhase) (p : LPhase) : spansOf (a ++ [p]) = spansOf a ++ [p.flash, p.dark] := by simp [spansOf]
theorem spansOf_len : ∀ l : List LPhase, (spansOf l).length = 2 * l.length
  | [] => rfl
  | p :: r => by
    have : spansOf (p :: r) = p.flash :: p.dark :: spansOf r := rfl
    rw [this]; simp only [List.length_cons, spansOf_len r]; omega

set_option maxHeartbeats 1000000 in
theorem la71 (l : List LPhase) : FnV Try.prog 71 [phasesD l] (i64 (phasesF l)) := by
  refine fnV_of mixed tysOk Try.func71 rfl (ft := ft71) 1 (by decide +kernel) (by rfl) fun {σ} Y st => ?_
  conv => whnf
  refine CallA_view (fn55 l.length 1 3) rfl 1 (by simp; rfl) ?_
  conv => whnf
  unfold phasesF
  by_cases h0 : inB l.length 1 3 = true
  case neg =>
    have h0 : inB l.length 1 3 = false := by simpa using h0
    rw [h0]
    conv => whnf
    exact RetA_view 0 rfl ⟨⟨rfl, rfl⟩, rfl⟩
  rw [h0]
  rw [inB_iff] at h0
  simp only [if_true]
  conv => whnf
  refine LoopA_i (T := tys) tysOk (by exact drawsB_spec mixed tysOk (by decide +kernel)) l (fun i (acc : List LPhase) => ⟨[(0, .d (phasesD l)), (3, .sl 27 2 0 (spansOf acc).length), (4, .d (i64 i))], [(27, .arr 2 (.dd ((spansOf acc).map Span.cells)))], st⟩)
    (fun i r acc => l = acc ++ r ∧ acc.length = i) [] ((Wk.born 3 27 2 rfl rfl rfl).trans (Wk.sub ⟨(by first | rfl | (simp only [List.length_map]; rfl) | simp [PX.get]), (by first | rfl | (simp only [List.length_map]; rfl) | simp [PX.get]), (by first | rfl | (simp only [List.length_map]; rfl) | simp [PX.get]), trivial⟩ ⟨(by first | rfl | (simp only [List.length_map]; rfl) | simp [PX.get]), trivial⟩)) ⟨rfl, rfl⟩ ?_ ?_
  · intro i p r acc hx hi hr ⟨he, hal⟩
    have hsl := spansOf_len acc
    conv => whnf
    refine brk_i (fun _ => ?_) (fun h => absurd hi (by simpa using h))
    conv => whnf
    refine elemK_nat hx ?_
    conv => whnf
    refine elemK_nat hx ?_
    conv => whnf
    refine ownK_whole rfl ?_
    conv => whnf
    refine ownK_whole (by simp [Els.len]) ?_
    conv => whnf
    refine chk_i (decide_eq_true (by
      show (((spansOf acc).map Span.cells).length + 2) * 16 ≤ 140737488355328
      rw [List.length_map]; omega)) ?_
    conv => whnf
    refine arith_in (wrap_i64 (by (try dsimp only); omega)) ?_
    conv => whnf
    refine ⟨acc ++ [p], ⟨by rw [he]; simp, by simp [hal]⟩, Wk.sub ⟨rfl, ?_, rfl, trivial⟩ ⟨?_, trivial⟩⟩
    · simp [PX.get, Els.len, spansOf_append]
    · simp [PX.get, spansOf_append]; exact ⟨rfl, rfl⟩
  · intro acc ⟨he, hal⟩
    rw [List.append_nil] at he
    subst he
    have hsl := spansOf_len l
    conv => whnf
    refine brk_i (fun h => absurd h (by simp)) (fun _ => ?_)
    conv => whnf
    refine CallA_view (ds := [spansD (spansOf l), i64 1, i64 200]) (fn111 (spansOf l) 1 200 (by omega)) rfl 1 (viewL_cons (viewV_sl rfl (by simp)) rfl) ?_
    conv => whnf
    rw [spread_phases]
    exact RetA_view 0 rfl ⟨⟨rfl, rfl⟩, rfl⟩

theorem lightF_eq (b : List LLight) (x : LLight) : lightF b x = if freshF x.name (b.map (·.name)) = 0 then phasesF x.phases else freshF x.name (b.map (·.name)) := by
  unfold lightF freshF
  rw [List.any_map]
  by_cases h1 : nameF x.name = true
  · rw [if_pos h1, if_pos h1]
    by_cases h2 : b.any (fun y => decide (y.name = x.name)) = true
    · have h3 : (b.any ((fun y => decide (y = x.name)) ∘ fun x => x.name)) = true := h2
      rw [if_pos h2, h3]; rfl
    · have h3 : (b.any ((fun y => decide (y = x.name)) ∘ fun x => x.name)) = false := by simpa using h2
      rw [if_neg h2, h3]; rfl
  · rw [if_neg h1, if_neg h1]; rfl

set_option maxHeartbeats 1000000 in
theorem la18 (l : List LLight) : FnV Try.prog 18 [lightsD l] (.tup [i64 (lightsF l).1, i64 (lightsF l).2]) := by
  refine fnV_of mixed tysOk Try.func18 rfl (ft := ft18) 1 (by decide +kernel) (by rfl) fun {σ} Y st => ?_
  conv => whnf
  refine CallA_view (fn55 l.length 1 6) rfl 1 (by simp; rfl) ?_
  conv => whnf
  unfold lightsF
  by_cases h0 : inB l.length 1 6 = true
  case neg =>
    have h0 : inB l.length 1 6 = false := by simpa using h0
    rw [h0]
    conv => whnf
    exact RetA_view 0 rfl ⟨⟨rfl, rfl⟩, rfl⟩
  rw [h0]
  rw [inB_iff] at h0
  simp only [if_true]
  conv => whnf
  refine LoopA_i (T := tys) tysOk (by exact drawsB_spec mixed tysOk (by decide +kernel)) l (fun i (acc : List LLight) => ⟨[(0, .d (lightsD l)), (4, .sl 31 1 0 acc.length), (5, .d (i64 i))], [(31, .arr 1 (.dd (acc.map fun x => [.str x.name])))], st⟩)
    (fun i r acc => firstE lightF [] l 0 = firstE lightF acc r i ∧ acc.length = i) [] ((Wk.born 4 31 1 rfl rfl rfl).trans (Wk.sub ⟨(by first | rfl | (simp only [List.length_map]; rfl) | simp [PX.get]), (by first | rfl | (simp only [List.length_map]; rfl) | simp [PX.get]), (by first | rfl | (simp only [List.length_map]; rfl) | simp [PX.get]), trivial⟩ ⟨(by first | rfl | (simp only [List.length_map]; rfl) | simp [PX.get]), trivial⟩)) ⟨rfl, rfl⟩ ?_ ?_
  · intro i x r acc hx hi hr ⟨he, hal⟩
    rw [firstE, lightF_eq] at he
    conv => whnf
    refine brk_i (fun _ => ?_) (fun h => absurd hi (by simpa using h))
    conv => whnf
    refine elemK_nat hx ?_
    conv => whnf
    refine CallA_view (ds := [.str x.name, strsD (acc.map (·.name))]) (fn91 x.name (acc.map (·.name)) (by simp; omega)) rfl 1 (viewL_cons rfl (viewL_cons (viewV_sl' rfl (by simp [Function.comp_def]) (by simp)) rfl)) ?_
    conv => whnf
    refine elemK_nat hx ?_
    conv => whnf
    refine ownK_whole rfl ?_
    conv => whnf
    refine ownK_whole (by simp [Els.len]) ?_
    conv => whnf
    refine chk_i (decide_eq_true (by
      show ((acc.map fun x => [D.str x.name]).length + 1) * 16 ≤ 140737488355328
      rw [List.length_map]; omega)) ?_
    conv => whnf
    have hwk : ∀ {e : Env} {h : Heap}, True := fun {_ _} => trivial
    refine brk_i (fun h1 => ?_) (fun h1 => ?_)
    · have h1 : freshF x.name (acc.map (·.name)) = 0 := by simpa using h1
      rw [if_pos h1] at he
      conv => whnf
      refine elemK_nat hx ?_
      conv => whnf
      refine CallA_v (la71 x.phases) rfl rfl ?_
      conv => whnf
      by_cases h2 : phasesF x.phases = 0
      · rw [if_pos h2] at he
        refine brk_i (fun h3 => absurd h3 (by simp [h2])) (fun _ => ?_)
        conv => whnf
        refine arith_in (wrap_i64 (by (try dsimp only); omega)) ?_
        conv => whnf
        refine ⟨acc ++ [x], ⟨he, by simp [hal]⟩, Wk.sub ⟨rfl, ?_, rfl, trivial⟩ ⟨?_, trivial⟩⟩
        · simp [PX.get, Els.len]
        · simp [PX.get]
      · rw [if_neg h2] at he
        refine brk_i (fun _ => ?_) (fun h3 => absurd h3 (by simp [h2]))
        conv => whnf
        rw [he]
        exact RetA_view 0 rfl ⟨⟨rfl, rfl⟩, rfl⟩
    · have h1 : ¬ freshF x.name (acc.map (·.name)) = 0 := by simpa using h1
      rw [if_neg h1, if_neg h1] at he
      conv => whnf
      refine brk_i (fun _ => ?_) (fun h3 => absurd h3 (by simp [h1]))
      conv => whnf
      rw [he]
      exact RetA_view 0 rfl ⟨⟨rfl, rfl⟩, rfl⟩
  · intro acc ⟨he, hal⟩
    rw [firstE] at he
    rw [he]
    conv => whnf
    refine brk_i (fun h => absurd h (by simp)) (fun _ => ?_)
    conv => whnf
    exact RetA_view 0 rfl ⟨⟨rfl, rfl⟩, rfl⟩
end Go.PX

namespace Go.PX
open Go.Proofs

/- Lamp: the reference: Truth, asked, bright, Course. -/

theorem la56 (c : LCase) (t : LTruth) (hw : c.windings.length ≤ 1000) : FnV Try.prog 56 [c.d, t.d] (i64 (truthE c t)) := by
  refine fnV_of mixed tysOk Try.func56 rfl (ft := ft56) 2 (by decide +kernel) (by rfl) fun {σ} Y st => ?_
  conv => whnf
  refine arith_in (wrap_i64 (by simp only [List.length_map]; omega)) ?_
  conv => whnf
  unfold truthE
  refine brk_i (fun h1 => ?_) (fun h1 => ?_)
  · have h1 : ¬ t.speeds.length = c.windings.length + 1 := by
      simp at h1; omega
    conv => whnf
    rw [if_neg h1]
    exact RetA_view 0 rfl ⟨⟨rfl, rfl⟩, rfl⟩
  have h1 : t.speeds.length = c.windings.length + 1 := by simp at h1; omega
  rw [if_pos h1]
  conv => whnf
  refine CallA_v (fn55 t.start c.lamp.start.lo c.lamp.start.hi) rfl rfl ?_
  conv => whnf
  by_cases h2 : inB t.start c.lamp.start.lo c.lamp.start.hi = true
  case neg =>
    have h2 : inB t.start c.lamp.start.lo c.lamp.start.hi = false := by simpa using h2
    rw [h2]
    conv => whnf
    exact RetA_view 0 rfl ⟨⟨rfl, rfl⟩, rfl⟩
  rw [h2, Bool.true_and]
  conv => whnf
  refine LoopA_i (T := tys) tysOk (by exact drawsB_spec mixed tysOk (by decide +kernel)) t.speeds (fun i (_ : Unit) => ⟨[(2, .ptr 2 0), (3, .ptr 3 0), (5, .d (i64 i))], [(2, .box (.dd c.cells)), (3, .box (.dd t.cells))], st⟩)
    (fun i r _ => (t.speeds.all fun s => inB s c.lamp.speed.lo c.lamp.speed.hi) = r.all fun s => inB s c.lamp.speed.lo c.lamp.speed.hi) () (Wk.sub ⟨(by first | rfl | (simp only [List.length_map]; rfl) | simp [PX.get]), (by first | rfl | (simp only [List.length_map]; rfl) | simp [PX.get]), (by first | rfl | (simp only [List.length_map]; rfl) | simp [PX.get]), trivial⟩ ⟨(by first | rfl | (simp only [List.length_map]; rfl) | simp [PX.get]), (by first | rfl | (simp only [List.length_map]; rfl) | simp [PX.get]), trivial⟩) rfl ?_ ?_
  · intro i s r _ hx hi hr he
    rw [List.all_cons] at he
    conv => whnf
    refine brk_i (fun _ => ?_) (fun h => absurd hi (by simpa using h))
    conv => whnf
    refine elemK_nat hx ?_
    conv => whnf
    refine DrawCall_v (fn55 s c.lamp.speed.lo c.lamp.speed.hi) rfl rfl ?_
    conv => whnf
    cases h3 : inB s c.lamp.speed.lo c.lamp.speed.hi with
    | true =>
      rw [h3, Bool.true_and] at he
      conv => whnf
      refine arith_in (wrap_i64 (by (try dsimp only); omega)) ?_
      conv => whnf
      exact ⟨(), he, (Wk.sub ⟨(by first | rfl | (simp only [List.length_map]; rfl) | simp [PX.get]), (by first | rfl | (simp only [List.length_map]; rfl) | simp [PX.get]), (by first | rfl | (simp only [List.length_map]; rfl) | simp [PX.get]), trivial⟩ ⟨(by first | rfl | (simp only [List.length_map]; rfl) | simp [PX.get]), (by first | rfl | (simp only [List.length_map]; rfl) | simp [PX.get]), trivial⟩)⟩
    | false =>
      rw [h3, Bool.false_and] at he
      conv => whnf
      rw [he]
      exact RetA_view 0 rfl ⟨⟨rfl, rfl⟩, rfl⟩
  · intro _ he
    rw [List.all_nil] at he
    rw [he]
    conv => whnf
    refine brk_i (fun h => absurd h (by simp)) (fun _ => ?_)
    conv => whnf
    exact RetA_view 0 rfl ⟨⟨rfl, rfl⟩, rfl⟩

def askE (c : LCase) (t : LTruth) (e : Int) : Int := if e = 0 then truthE c t else e

theorem la74 (c : LCase) (t : LTruth) (e : Int) (hw : e = 0 → c.windings.length ≤ 1000) : FnV Try.prog 74 [c.d, t.d, i64 e] (i64 (askE c t e)) := by
  refine fnV_of mixed tysOk Try.func74 rfl (ft := ft74) 3 (by decide +kernel) (by rfl) fun {σ} Y st => ?_
  conv => whnf
  unfold askE
  refine brk_i (fun h0 => ?_) (fun h0 => ?_)
  · have h0 : e = 0 := by simpa using h0
    rw [if_pos h0]
    conv => whnf
    refine CallA_v (la56 c t (hw h0)) rfl rfl ?_
    conv => whnf
    exact RetA_view 0 rfl ⟨⟨rfl, rfl⟩, rfl⟩
  · have h0 : ¬ e = 0 := by simpa using h0
    rw [if_neg h0]
    conv => whnf
    exact RetA_view 0 rfl ⟨⟨rfl, rfl⟩, rfl⟩

theorem la98 (x : LLamp) (a : Int) (hl : x.lit.length ≤ 1000) : FnV Try.prog 98 [x.d, i64 a] (.bool (openB x a)) := by
  refine fnV_of mixed tysOk Try.func98 rfl (ft := ft98) 2 (by decide +kernel) (by rfl) fun {σ} Y st => ?_
  conv => whnf
  unfold openB
  refine LoopA_i (T := tys) tysOk (by exact drawsB_spec mixed tysOk (by decide +kernel)) x.lit (fun i (_ : Unit) => ⟨[(1, .d (i64 a)), (2, .ptr 2 0), (5, .d (i64 i))], [(2, .box (.dd x.cells))], st⟩)
    (fun i r _ => (x.lit.any fun s => inB a s.lo s.hi) = r.any fun s => inB a s.lo s.hi) () (Wk.sub ⟨(by first | rfl | (simp only [List.length_map]; rfl) | simp [PX.get]), (by first | rfl | (simp only [List.length_map]; rfl) | simp [PX.get]), (by first | rfl | (simp only [List.length_map]; rfl) | simp [PX.get]), trivial⟩ ⟨(by first | rfl | (simp only [List.length_map]; rfl) | simp [PX.get]), trivial⟩) rfl ?_ ?_
  · intro i s r _ hx hi hr he
    rw [List.any_cons] at he
    conv => whnf
    refine brk_i (fun _ => ?_) (fun h => absurd hi (by simpa using h))
    conv => whnf
    refine elemK_nat hx ?_
    conv => whnf
    refine elemK_nat hx ?_
    conv => whnf
    refine DrawCall_v (fn55 a s.lo s.hi) rfl rfl ?_
    conv => whnf
    cases h3 : inB a s.lo s.hi with
    | false =>
      rw [h3, Bool.false_or] at he
      conv => whnf
      refine arith_in (wrap_i64 (by (try dsimp only); omega)) ?_
      conv => whnf
      exact ⟨(), he, (Wk.sub ⟨(by first | rfl | (simp only [List.length_map]; rfl) | simp [PX.get]), (by first | rfl | (simp only [List.length_map]; rfl) | simp [PX.get]), (by first | rfl | (simp only [List.length_map]; rfl) | simp [PX.get]), trivial⟩ ⟨(by first | rfl | (simp only [List.length_map]; rfl) | simp [PX.get]), trivial⟩)⟩
    | true =>
      rw [h3, Bool.true_or] at he
      conv => whnf
      rw [he]
      exact RetA_view 0 rfl ⟨⟨rfl, rfl⟩, rfl⟩
  · intro _ he
    rw [List.any_nil] at he
    rw [he]
    conv => whnf
    refine brk_i (fun h => absurd h (by simp)) (fun _ => ?_)
    conv => whnf
    exact RetA_view 0 rfl ⟨⟨rfl, rfl⟩, rfl⟩
end Go.PX

namespace Go.PX
open Go.Proofs

/- Lamp: the makers of the examples. -/

theorem la59 (s : Int) (b : Bool) : FnV Try.prog 59 [i64 s, .bool b] (.agg [i64 s, .bool b]) := by
  refine fnV_of mixed tysOk Try.func59 rfl (ft := ft59) 2 (by decide +kernel) (by rfl) fun {σ} Y st => ?_
  conv => whnf
  exact RetA_view 0 rfl ⟨⟨rfl, rfl⟩, rfl⟩

def lampK : LLamp := ⟨12, [⟨0, 2⟩], ⟨0, 1⟩, ⟨1, 2⟩, 100, 24⟩

theorem la41 : FnV Try.prog 41 [] lampK.d := by
  refine fnV_of mixed tysOk Try.func41 rfl (ft := ft41) 0 (by decide +kernel) (by rfl) fun {σ} Y st => ?_
  conv => whnf
  refine CallA_v (ds := [i64 0, i64 2]) (fn28 0 2) rfl rfl ?_
  conv => whnf
  refine CallA_v (ds := [i64 0, i64 1]) (fn28 0 1) rfl rfl ?_
  conv => whnf
  refine CallA_v (ds := [i64 1, i64 2]) (fn28 1 2) rfl rfl ?_
  conv => whnf
  exact RetA_view 2 rfl ⟨⟨rfl, rfl⟩, rfl⟩

def caseK (l : List LSight) : LCase := ⟨lampK, [], [⟨3, false⟩, ⟨12, true⟩] ++ l⟩

theorem la42_0 : FnV Try.prog 42 [.nils] (caseK []).d := by
  refine fnV_of mixed tysOk Try.func42 rfl (ft := ft42) 1 (by decide +kernel) (by rfl) fun {σ} Y st => ?_
  conv => whnf
  refine CallA_v (la41) rfl rfl ?_
  conv => whnf
  refine CallA_v (ds := [i64 3, .bool false]) (la59 3 false) rfl rfl ?_
  conv => whnf
  refine CallA_v (ds := [i64 12, .bool true]) (la59 12 true) rfl rfl ?_
  conv => whnf
  refine ownK_whole rfl ?_
  conv => whnf
  exact RetA_viewR 2 rfl rfl ⟨⟨rfl, rfl⟩, rfl⟩
theorem la42_1 : FnV Try.prog 42 [.vs [[i64 13, .bool false]]] (caseK [⟨13, false⟩]).d := by
  refine fnV_of mixed tysOk Try.func42 rfl (ft := ft42) 1 (by decide +kernel) (by rfl) fun {σ} Y st => ?_
  conv => whnf
  refine CallA_v (la41) rfl rfl ?_
  conv => whnf
  refine CallA_v (ds := [i64 3, .bool false]) (la59 3 false) rfl rfl ?_
  conv => whnf
  refine CallA_v (ds := [i64 12, .bool true]) (la59 12 true) rfl rfl ?_
  conv => whnf
  refine ownK_whole rfl ?_
  conv => whnf
  exact RetA_viewR 2 rfl rfl ⟨⟨rfl, rfl⟩, rfl⟩
theorem la42_2 : FnV Try.prog 42 [.vs [[i64 13, .bool false], [i64 18, .bool false]]] (caseK [⟨13, false⟩, ⟨18, false⟩]).d := by
  refine fnV_of mixed tysOk Try.func42 rfl (ft := ft42) 1 (by decide +kernel) (by rfl) fun {σ} Y st => ?_
  conv => whnf
  refine CallA_v (la41) rfl rfl ?_
  conv => whnf
  refine CallA_v (ds := [i64 3, .bool false]) (la59 3 false) rfl rfl ?_
  conv => whnf
  refine CallA_v (ds := [i64 12, .bool true]) (la59 12 true) rfl rfl ?_
  conv => whnf
  refine ownK_whole rfl ?_
  conv => whnf
  exact RetA_viewR 2 rfl rfl ⟨⟨rfl, rfl⟩, rfl⟩

theorem la97 (n : ByteArray) (a b c d : Int) : FnV Try.prog 97 [.str n, i64 a, i64 b, i64 c, i64 d] (LLight.d ⟨n, [⟨⟨a, b⟩, ⟨c, d⟩⟩]⟩) := by
  refine fnV_of mixed tysOk Try.func97 rfl (ft := ft97) 5 (by decide +kernel) (by rfl) fun {σ} Y st => ?_
  conv => whnf
  refine CallA_v (fn28 a b) rfl rfl ?_
  conv => whnf
  refine CallA_v (fn28 c d) rfl rfl ?_
  conv => whnf
  exact RetA_view 2 rfl ⟨⟨rfl, rfl⟩, rfl⟩

def sunkB : ByteArray := ⟨#[115, 117, 110, 107]⟩
def noreB : ByteArray := ⟨#[110, 111, 114, 101]⟩
def sunkK : LLight := ⟨sunkB, [⟨⟨1, 2⟩, ⟨4, 5⟩⟩]⟩
def noreK : LLight := ⟨noreB, [⟨⟨1, 3⟩, ⟨3, 9⟩⟩]⟩

theorem la44 : FnV Try.prog 44 [] sunkK.d := by
  refine fnV_of mixed tysOk Try.func44 rfl (ft := ft44) 0 (by decide +kernel) (by rfl) fun {σ} Y st => ?_
  conv => whnf
  refine CallA_v (ds := [.str sunkB, i64 1, i64 2, i64 4, i64 5]) (la97 sunkB 1 2 4 5) rfl rfl ?_
  conv => whnf
  exact RetA_view 0 rfl ⟨⟨rfl, rfl⟩, rfl⟩
theorem la45 : FnV Try.prog 45 [] noreK.d := by
  refine fnV_of mixed tysOk Try.func45 rfl (ft := ft45) 0 (by decide +kernel) (by rfl) fun {σ} Y st => ?_
  conv => whnf
  refine CallA_v (ds := [.str noreB, i64 1, i64 3, i64 3, i64 9]) (la97 noreB 1 3 3 9) rfl rfl ?_
  conv => whnf
  exact RetA_view 0 rfl ⟨⟨rfl, rfl⟩, rfl⟩

theorem la43 (s v : Int) : FnV Try.prog 43 [i64 s, i64 v] (LTruth.d ⟨s, [v]⟩) := by
  refine fnV_of mixed tysOk Try.func43 rfl (ft := ft43) 2 (by decide +kernel) (by rfl) fun {σ} Y st => ?_
  conv => whnf
  exact RetA_view 2 rfl ⟨⟨rfl, rfl⟩, rfl⟩

theorem la34 (a b : LTruth) (ha : a.speeds.length < 1000000) : FnV Try.prog 34 [a.d, b.d] (.bool (decide (a = b))) := by
  refine fnV_of mixed tysOk Try.func34 rfl (ft := ft34) 2 (by decide +kernel) (by rfl) fun {σ} Y st => ?_
  conv => whnf
  have he : (decide (a = b)) = (decide (a.start = b.start) && decide (a.speeds = b.speeds)) := by
    rw [Bool.eq_iff_iff, Bool.and_eq_true, decide_eq_true_eq, decide_eq_true_eq, decide_eq_true_eq]
    constructor
    · rintro rfl; exact ⟨rfl, rfl⟩
    · rintro ⟨h1, h2⟩; cases a; cases b; simp_all
  rw [he]
  by_cases h1 : a.start = b.start
  · rw [decide_eq_true h1]
    conv => whnf
    refine CallA_v (fn19 a.speeds b.speeds ha) rfl rfl ?_
    conv => whnf
    exact RetA_view 0 rfl ⟨⟨rfl, rfl⟩, rfl⟩
  · rw [decide_eq_false h1]
    conv => whnf
    exact RetA_view 0 rfl ⟨⟨rfl, rfl⟩, rfl⟩
end Go.PX

namespace Go.PX
open Go.Proofs

/- Lamp: the values of the examples. -/

theorem vS : showE (caseK []) ⟨1, [2]⟩ = 0 ∧ showL (caseK []) ⟨1, [2]⟩ = [⟨0, 0⟩, ⟨6, 6⟩, ⟨12, 12⟩, ⟨18, 18⟩] := by decide +kernel
theorem vR : rangeE (caseK [⟨13, false⟩]) = 0 ∧ rangeA (caseK [⟨13, false⟩]) = ⟨1, 1⟩ ∧ rangeB' (caseK [⟨13, false⟩]) = [⟨2, 2⟩] := by decide +kernel
theorem vA1 : atE (caseK []) 2 = 0 ∧ atV (caseK []) 2 = 2 := by decide +kernel
theorem vA2 : atE (caseK [⟨13, false⟩]) 6 = 0 ∧ atV (caseK [⟨13, false⟩]) 6 = 1 := by decide +kernel
theorem vW : (checkL (caseK [⟨13, false⟩, ⟨18, false⟩])).2.2 = 0 ∧ wrongV (caseK [⟨13, false⟩, ⟨18, false⟩]) = [2] := by decide +kernel
theorem vF1 : failE (caseK []) sunkK ⟨0, [1]⟩ = 0 ∧ failV (caseK []) sunkK ⟨0, [1]⟩ = 2 := by decide +kernel
theorem vF2 : failE (caseK []) noreK ⟨0, [1]⟩ = 0 ∧ failV (caseK []) noreK ⟨0, [1]⟩ = -1 := by decide +kernel
theorem vK1 : keptE (caseK []) sunkK = 0 ∧ keptX (caseK []) sunkK = (⟨0, [1]⟩, 2) := by decide +kernel
theorem vK2 : keptE (caseK [⟨13, false⟩]) sunkK = 4 := by decide +kernel
theorem vWh : entrE (caseK []) [noreK, sunkK] = 0 ∧ whichV (caseK []) [noreK, sunkK] = [0, 1] := by decide +kernel
theorem vL : longE lampK sunkK = 0 ∧ longV lampK sunkK = 2 := by decide +kernel
theorem vWi : windV lampK sunkK = [2, 4, 6, 8, 10, 12, 14, 16, 18, 20, 22] := by decide +kernel
theorem vT : (lightsF [noreK, noreK]).2 = 5 := by decide +kernel
end Go.PX

namespace Go.PX
open Go.Proofs

/- Lamp: Awake. -/

theorem kS : FnV Try.prog 19 [(caseK []).d, LTruth.d ⟨1, [2]⟩] (.tup [spansD [⟨0, 0⟩, ⟨6, 6⟩, ⟨12, 12⟩, ⟨18, 18⟩], i64 0]) := FnV.cast (la19 _ _) (by rw [vS.1, vS.2])
theorem kR : FnV Try.prog 23 [(caseK [⟨13, false⟩]).d] (.tup [Span.d ⟨1, 1⟩, spansD [⟨2, 2⟩], i64 0]) := FnV.cast (la23 _) (by rw [vR.1, vR.2.1, vR.2.2])
theorem kA1 : FnV Try.prog 25 [(caseK []).d, i64 2] (.tup [i64 2, i64 0]) := FnV.cast (la25 _ _) (by rw [vA1.1, vA1.2])
theorem kA2 : FnV Try.prog 25 [(caseK [⟨13, false⟩]).d, i64 6] (.tup [i64 1, i64 0]) := FnV.cast (la25 _ _) (by rw [vA2.1, vA2.2])
theorem kW : FnV Try.prog 27 [(caseK [⟨13, false⟩, ⟨18, false⟩]).d] (.tup [intsD [2], i64 0]) := FnV.cast (la27 _) (by rw [vW.1, vW.2])
theorem kF1 : FnV Try.prog 30 [(caseK []).d, sunkK.d, LTruth.d ⟨0, [1]⟩] (.tup [i64 2, i64 0]) := FnV.cast (la30 _ _ _) (by rw [vF1.1, vF1.2])
theorem kF2 : FnV Try.prog 30 [(caseK []).d, noreK.d, LTruth.d ⟨0, [1]⟩] (.tup [i64 (-1), i64 0]) := FnV.cast (la30 _ _ _) (by rw [vF2.1, vF2.2])
theorem kK1 : FnV Try.prog 32 [(caseK []).d, sunkK.d] (.tup [LTruth.d ⟨0, [1]⟩, i64 2, i64 0]) := FnV.cast (la32 _ _) (by rw [keptD, vK1.1, vK1.2])
theorem kK2 : FnV Try.prog 32 [(caseK [⟨13, false⟩]).d, sunkK.d] (.tup [(keptX (caseK [⟨13, false⟩]) sunkK).1.d, i64 (keptX (caseK [⟨13, false⟩]) sunkK).2, i64 4]) := FnV.cast (la32 _ _) (by rw [keptD, vK2])
theorem kWh : FnV Try.prog 35 [(caseK []).d, lightsD [noreK, sunkK]] (.tup [intsD [0, 1], i64 0]) := FnV.cast (la35 _ _) (by rw [vWh.1, vWh.2])
theorem kL : FnV Try.prog 37 [lampK.d, sunkK.d] (.tup [i64 2, i64 0]) := FnV.cast (la37 _ _) (by rw [vL.1, vL.2])
theorem kWi : FnV Try.prog 39 [lampK.d, sunkK.d] (.tup [intsD [2, 4, 6, 8, 10, 12, 14, 16, 18, 20, 22], i64 0]) := FnV.cast (la39 _ _) (by rw [vWi, vL.1])
theorem kT : FnV Try.prog 17 [lightsD [noreK, noreK]] (.tup [i64 (lightsF [noreK, noreK]).1, i64 5]) := FnV.cast (la17 _) (by rw [vT])

set_option maxHeartbeats 4000000 in
theorem la22 : FnV Try.prog 22 [] (.bool true) := by
  refine fnV_of mixed tysOk Try.func22 rfl (ft := ft22) 0 (by decide +kernel) (by rfl) fun {σ} Y st => ?_
  conv => whnf
  refine CallA_v (ds := [i64 13, .bool false]) (la59 13 false) rfl rfl ?_
  conv => whnf
  refine CallA_fz la42_1 1 [32] rfl rfl ?_
  conv => whnf
  refine CallA_v la42_0 rfl rfl ?_
  conv => whnf
  refine CallA_v (ds := [i64 1, i64 2]) (la43 1 2) rfl rfl ?_
  conv => whnf
  refine CallA_v (kS) rfl rfl ?_
  conv => whnf
  refine CallA_v (kR) rfl rfl ?_
  conv => whnf
  refine CallA_v la42_0 rfl rfl ?_
  conv => whnf
  refine CallA_v (kA1) rfl rfl ?_
  conv => whnf
  refine CallA_v (kA2) rfl rfl ?_
  conv => whnf
  refine CallA_v (ds := [i64 13, .bool false]) (la59 13 false) rfl rfl ?_
  conv => whnf
  refine CallA_v (ds := [i64 18, .bool false]) (la59 18 false) rfl rfl ?_
  conv => whnf
  refine CallA_fz la42_2 1 [59] rfl rfl ?_
  conv => whnf
  refine CallA_v (kW) rfl rfl ?_
  conv => whnf
  refine CallA_v la42_0 rfl rfl ?_
  conv => whnf
  refine CallA_v (la44) rfl rfl ?_
  conv => whnf
  refine CallA_v (ds := [i64 0, i64 1]) (la43 0 1) rfl rfl ?_
  conv => whnf
  refine CallA_v (kF1) rfl rfl ?_
  conv => whnf
  refine CallA_v la42_0 rfl rfl ?_
  conv => whnf
  refine CallA_v (la45) rfl rfl ?_
  conv => whnf
  refine CallA_v (ds := [i64 0, i64 1]) (la43 0 1) rfl rfl ?_
  conv => whnf
  refine CallA_v (kF2) rfl rfl ?_
  conv => whnf
  refine CallA_v la42_0 rfl rfl ?_
  conv => whnf
  refine CallA_v (la44) rfl rfl ?_
  conv => whnf
  refine CallA_v (kK1) rfl rfl ?_
  conv => whnf
  refine DrawCall_v la44 rfl rfl ?_
  conv => whnf
  refine DrawCall_v kK2 rfl rfl ?_
  conv => whnf
  refine CallA_v la42_0 rfl rfl ?_
  conv => whnf
  refine CallA_v (la45) rfl rfl ?_
  conv => whnf
  refine CallA_v (la44) rfl rfl ?_
  conv => whnf
  refine CallA_fz kWh 1 [96] rfl rfl ?_
  conv => whnf
  refine CallA_v (la41) rfl rfl ?_
  conv => whnf
  refine CallA_v (la44) rfl rfl ?_
  conv => whnf
  refine CallA_v (kL) rfl rfl ?_
  conv => whnf
  refine CallA_v (la41) rfl rfl ?_
  conv => whnf
  refine CallA_v (la44) rfl rfl ?_
  conv => whnf
  refine CallA_v (kWi) rfl rfl ?_
  conv => whnf
  refine CallA_v (la45) rfl rfl ?_
  conv => whnf
  refine CallA_v (la45) rfl rfl ?_
  conv => whnf
  refine CallA_view kT rfl 1 rfl ?_
  conv => whnf
  refine DrawCall_v (ds := [i64 0, i64 0]) (fn28 0 0) rfl rfl ?_
  conv => whnf
  refine DrawCall_v (ds := [i64 6, i64 6]) (fn28 6 6) rfl rfl ?_
  conv => whnf
  refine DrawCall_v (ds := [i64 12, i64 12]) (fn28 12 12) rfl rfl ?_
  conv => whnf
  refine DrawCall_v (ds := [i64 18, i64 18]) (fn28 18 18) rfl rfl ?_
  conv => whnf
  refine DrawCall_view (fn45 [⟨0, 0⟩, ⟨6, 6⟩, ⟨12, 12⟩, ⟨18, 18⟩] [⟨0, 0⟩, ⟨6, 6⟩, ⟨12, 12⟩, ⟨18, 18⟩] (by decide)) rfl 1 rfl ?_
  conv => whnf
  refine DrawCall_v (ds := [i64 1, i64 1]) (fn28 1 1) rfl rfl ?_
  conv => whnf
  refine DrawCall_v (ds := [i64 2, i64 2]) (fn28 2 2) rfl rfl ?_
  conv => whnf
  refine DrawCall_view (fn45 [⟨2, 2⟩] [⟨2, 2⟩] (by decide)) rfl 1 rfl ?_
  conv => whnf
  refine DrawCall_view (fn19 [2] [2] (by decide)) rfl 1 rfl ?_
  conv => whnf
  refine DrawCall_v (ds := [i64 0, i64 1]) (la43 0 1) rfl rfl ?_
  conv => whnf
  refine DrawCall_v (la34 ⟨0, [1]⟩ ⟨0, [1]⟩ (by decide)) rfl rfl ?_
  conv => whnf
  refine DrawCall_view (fn19 [0, 1] [0, 1] (by decide)) rfl 1 rfl ?_
  conv => whnf
  exact RetA_view 0 rfl ⟨⟨rfl, rfl⟩, rfl⟩
end Go.PX
