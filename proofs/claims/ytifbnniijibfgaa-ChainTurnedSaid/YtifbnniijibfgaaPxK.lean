import Derived.Test.YtifbnniijibfgaaPxJ
import Derived.Test.YtifbnniijibfgaaPxG
set_option linter.all false
set_option maxRecDepth 10000
namespace Go.PX
open Go.Proofs

theorem findSome_flatMap {α β γ : Type} (f : α → List β) (g : β → Option γ) : ∀ (l : List α), (l.flatMap f).findSome? g = l.findSome? fun a => (f a).findSome? g
  | [] => rfl
  | a :: r => by
    rw [List.flatMap_cons, List.findSome?_append, findSome_flatMap f g r, List.findSome?_cons]
    cases (f a).findSome? g <;> rfl

theorem listsF_nil (below : Nat) : ∀ (n : Nat) (p : List Int) (start : Nat), below < start + n → 0 < n → listsF below n p start = []
  | 0, p, start, _, h => absurd h (by omega)
  | n + 1, p, start, h, _ => by
    rw [listsF, List.flatMap_eq_nil_iff]
    intro i hi
    rw [List.mem_range'_1] at hi
    cases n with
    | zero => omega
    | succ n => exact listsF_nil below (n + 1) _ _ (by omega) (by omega)

theorem fill_lists {τ : Type} (wf : List Int → τ × Bool) (many : Nat) : ∀ (n : Nat) (p : List Int) (start : Nat), n ≤ many → fillF wf many n p start = (listsF many n p start).findSome? fun q => if (wf q).2 then some (q, (wf q).1) else none
  | 0, p, start, _ => by simp [fillF, listsF]
  | n + 1, p, start, hn => by
    rw [fillF, listsF, findSome_flatMap]
    have hsplit : List.range' start (many - start) = List.range' start (many - n - start) ++ List.range' (start + (many - n - start)) (many - start - (many - n - start)) := by
      rw [List.range'_append_1]; congr 1; omega
    rw [hsplit, List.findSome?_append]
    have h1 : ((List.range' (start + (many - n - start)) (many - start - (many - n - start))).findSome? fun (i : Nat) => (listsF many n (p ++ [(i : Int)]) (i + 1)).findSome? fun q => if (wf q).2 then some (q, (wf q).1) else none) = none := by
      rw [List.findSome?_eq_none_iff]
      intro i hi
      rw [List.mem_range'_1] at hi
      have : listsF many n (p ++ [(i : Int)]) (i + 1) = [] := by
        cases n with
        | zero => omega
        | succ n => exact listsF_nil many (n + 1) _ _ (by omega) (by omega)
      rw [this]; rfl
    rw [h1, Option.or_none]
    congr 1
    funext i
    exact fill_lists wf many n _ _ (by omega)

/-- The first one of lists in order that is wanted, by their number. -/
def firstL (w : List Int → Bool) (many : Nat) : Option (List Int) := (List.range' 0 (many + 1)).findSome? fun (n : Nat) => (listsF many n [] 0).find? w

theorem find_some {α τ : Type} (w : α → Bool) (y : α → τ) : ∀ (l : List α), (l.findSome? fun q => if w q then some (q, y q) else none) = (l.find? w).map fun q => (q, y q)
  | [] => rfl
  | a :: r => by
    rw [List.findSome?_cons, List.find?_cons]
    cases h : w a
    · simp [find_some w y r]
    · simp

theorem findSome_map {α β γ : Type} (f : α → Option β) (g : β → γ) : ∀ (l : List α), (l.findSome? fun a => (f a).map g) = (l.findSome? f).map g
  | [] => rfl
  | a :: r => by
    rw [List.findSome?_cons, List.findSome?_cons]
    cases h : f a with
    | none => simp [findSome_map f g r]
    | some b => simp

theorem findSome_congr {α β : Type} {f g : α → Option β} : ∀ {l : List α}, (∀ a ∈ l, f a = g a) → l.findSome? f = l.findSome? g
  | [], _ => rfl
  | a :: r, h => by
    rw [List.findSome?_cons, List.findSome?_cons, h a (by simp), findSome_congr fun b hb => h b (by simp [hb])]

theorem choose_first {τ : Type} (wf : List Int → τ × Bool) (many : Nat) : chooseF wf many = (firstL (fun q => (wf q).2) many).map fun q => (q, (wf q).1) := by
  unfold chooseF firstL
  rw [← findSome_map]
  refine findSome_congr fun n hn => ?_
  rw [List.mem_range'_1] at hn
  rw [fill_lists wf many n [] 0 (by omega), find_some (fun q => (wf q).2)]

/-- What is wanted of doubts, as the reference says it. -/
def doubtR (s : Shot) (off : Int) (q : List Int) : Bool := (rangeS s off (withoutF q s.gauges 0) s.set).2

theorem doubtsQ_eq (s : Shot) (off : Int) : doubtsQ s off = (firstL (doubtR s off) s.gauges.length).getD [] := by
  unfold doubtsQ
  rw [choose_first]
  have : (fun q => (doubtW s off q).2) = doubtR s off := by
    funext q
    simp only [doubtW, doubtR, rangeS_some]
  rw [this]
  cases firstL (doubtR s off) s.gauges.length <;> rfl

theorem listsF_mem (below : Nat) : ∀ (n : Nat) (p : List Int) (start : Nat), ∀ q ∈ listsF below n p start, q.length = p.length + n
  | 0, p, start, q, h => by rw [listsF, List.mem_singleton] at h; rw [h]; rfl
  | n + 1, p, start, q, h => by
    rw [listsF, List.mem_flatMap] at h
    obtain ⟨i, _, h⟩ := h
    have := listsF_mem below n _ _ q h
    simp at this; omega

theorem fn18 (c : Case) (i : Int) : FnV Try.prog 18 [c.d, i64 i] (.tup [intsD (doubtsE c i), i64 (openE c i)]) := by
  refine fnV_of mixed tysOk Try.func18 rfl (ft := ft18) 2 (by decide +kernel) (by rfl) fun {σ} Y st => ?_
  conv => whnf
  refine CallA_v (ds := [c.d, i64 i]) (fn59 c i) rfl rfl ?_
  by_cases h0 : openE c i = 0
  · obtain ⟨hc, s, hi, hs⟩ := openE_ok h0
    have hR := case_ok hc
    have hm := List.mem_of_getElem? hs
    have hL := hR.look hm
    have hr := (hR.shots s hm).1
    have hlen := hr.len
    have hset := hr.set
    have herr := hR.err
    have hE : doubtsE c i = (firstL (doubtR s c.chain.err) s.gauges.length).getD [] := by rw [← doubtsQ_eq]; simp [doubtsE, h0, hs]
    rw [hE, h0]
    conv => whnf
    refine elemK_i s.cells ⟨hi, by simp [hs]⟩ ?_
    conv => whnf
    obtain ⟨total, ht⟩ : ∃ t, t = firstL (doubtR s c.chain.err) s.gauges.length := ⟨_, rfl⟩
    rw [← ht]
    refine LoopA_p (T := tys) tysOk (by exact drawsB_spec mixed tysOk (by decide +kernel)) (α := Nat)
      (fun n => ⟨[(2, .ptr 2 0), (7, .ptr 7 0), (8, .d (i64 n))], [(2, .box (.dd c.cells)), (7, .box (.dd s.cells))], st⟩)
      (fun n => n ≤ s.gauges.length + 1 ∧ total = (List.range' n (s.gauges.length + 1 - n)).findSome? fun (n : Nat) => (listsF s.gauges.length n [] 0).find? (doubtR s c.chain.err)) (fun n => s.gauges.length + 1 - n) 0
      (Wk.sub ⟨(by first | rfl | (simp only [List.length_map]; rfl) | simp [PX.get]), (by first | rfl | (simp only [List.length_map]; rfl) | simp [PX.get]), (by first | rfl | (simp only [List.length_map]; rfl) | simp [PX.get]), trivial⟩ ⟨(by first | rfl | (simp only [List.length_map]; rfl) | simp [PX.get]), (by first | rfl | (simp only [List.length_map]; rfl) | simp [PX.get]), trivial⟩) ⟨by omega, ht⟩ ?_
    clear ht
    rintro n ⟨hn, he⟩
    conv => whnf
    refine brk_i (fun h2 => ?_) (fun h2 => ?_)
    · have h2 : n ≤ s.gauges.length := by have := of_decide_eq_true h2; simp at this; omega
      obtain ⟨m, hm1⟩ : ∃ m, s.gauges.length + 1 - n = m + 1 := ⟨s.gauges.length - n, by omega⟩
      have hm2 : s.gauges.length + 1 - (n + 1) = m := by omega
      rw [hm1, List.range'_succ, List.findSome?_cons] at he
      conv => whnf
      refine CallA_nil0 ?_
      refine CallA_v (ds := [intsD [], i64 n, i64 s.gauges.length]) (fn65 s.gauges.length (by omega) n [] 0 (by omega) (by simp; omega) (by omega) (.inl ⟨rfl, rfl⟩)) (by simp only [List.length_map]; rfl) rfl ?_
      conv => whnf
      have hlm := listsF_mem s.gauges.length n [] 0
      have hll := listsF_len s.gauges.length (by omega) n [] 0
      have hpow : 8 ^ n ≤ 2097152 := by
        have : 8 ^ n ≤ 8 ^ 7 := Nat.pow_le_pow_right (by omega) (by omega)
        omega
      generalize listsF s.gauges.length n [] 0 = ls at he hlm hll ⊢
      refine LoopA_i (T := tys) tysOk (by exact drawsB_spec mixed tysOk (by decide +kernel)) ls (fun i (_ : Unit) => ⟨[(2, .ptr 2 0), (7, .ptr 7 0), (8, .d (i64 n)), (9, .d (listsD ls)), (10, .d (i64 i))], [(2, .box (.dd c.cells)), (7, .box (.dd s.cells))], st⟩)
        (fun i r _ => (∀ q ∈ r, q.length = ([] : List Int).length + n) ∧ ls.find? (doubtR s c.chain.err) = r.find? (doubtR s c.chain.err)) ()
        (Wk.sub ⟨(by first | rfl | (simp only [List.length_map]; rfl) | simp [PX.get]), (by first | rfl | (simp only [List.length_map]; rfl) | simp [PX.get]), (by first | rfl | (simp only [List.length_map]; rfl) | simp [PX.get]), (by first | rfl | (simp only [List.length_map]; rfl) | simp [PX.get]), (by first | rfl | (simp only [List.length_map]; rfl) | simp [PX.get]), trivial⟩ ⟨(by first | rfl | (simp only [List.length_map]; rfl) | simp [PX.get]), (by first | rfl | (simp only [List.length_map]; rfl) | simp [PX.get]), trivial⟩) ⟨hlm, rfl⟩ ?_ ?_
      · intro j q r _ hx hj hjr ⟨hql, hf⟩
        rw [List.find?_cons] at hf
        have hq := hql q (by simp)
        have hgs : ∀ g ∈ withoutF q s.gauges 0, gaugeOk g := fun g hg => hL.gok g (withoutF_mem g hg)
        have hgl := withoutF_len (q := q) (l := s.gauges) (i := 0)
        conv => whnf
        refine brk_i (fun _ => ?_) (fun h => absurd hj (by simpa using h))
        conv => whnf
        refine elemK_nat hx ?_
        conv => whnf
        refine DrawCall_v (ds := [gaugesD s.gauges, intsD q]) (fn32 s.gauges q (by omega) (by simp at hq; omega)) rfl rfl ?_
        conv => whnf
        refine DrawCall_v (ds := [s.d, i64 c.chain.err, gaugesD (withoutF q s.gauges 0), i64 s.set]) (fn60 s c.chain.err (withoutF q s.gauges 0) s.set (by omega) hL.shot hgs (by omega) (by omega)) rfl rfl ?_
        conv => whnf
        have hd : (rangeS s c.chain.err (withoutF q s.gauges 0) s.set).2 = doubtR s c.chain.err q := rfl
        refine brk_i (fun h3 => ?_) (fun h3 => ?_)
        · rw [hd] at h3
          simp only [h3] at hf
          rw [hf] at he
          conv => whnf
          refine elemK_nat hx ?_
          conv => whnf
          refine RetA_view 0 rfl ⟨⟨?_, rfl⟩, rfl⟩
          rw [he]; rfl
        · rw [hd] at h3
          simp only [h3] at hf
          conv => whnf
          refine arith_in (wrap_i64 (by (try dsimp only); omega)) ?_
          conv => whnf
          exact ⟨(), ⟨fun q hq => hql q (by simp [hq]), hf⟩, (Wk.sub ⟨(by first | rfl | (simp only [List.length_map]; rfl) | simp [PX.get]), (by first | rfl | (simp only [List.length_map]; rfl) | simp [PX.get]), (by first | rfl | (simp only [List.length_map]; rfl) | simp [PX.get]), (by first | rfl | (simp only [List.length_map]; rfl) | simp [PX.get]), (by first | rfl | (simp only [List.length_map]; rfl) | simp [PX.get]), trivial⟩ ⟨(by first | rfl | (simp only [List.length_map]; rfl) | simp [PX.get]), (by first | rfl | (simp only [List.length_map]; rfl) | simp [PX.get]), trivial⟩)⟩
      · intro _ ⟨_, hf⟩
        rw [List.find?_nil] at hf
        rw [hf] at he
        conv => whnf
        refine brk_i (fun h => absurd h (by simp)) (fun _ => ?_)
        conv => whnf
        refine arith_in (wrap_i64 (by (try dsimp only); omega)) ?_
        conv => whnf
        exact ⟨n + 1, by omega, ⟨by omega, by rw [hm2]; exact he⟩, (Wk.sub ⟨(by first | rfl | (simp only [List.length_map]; rfl) | simp [PX.get]), (by first | rfl | (simp only [List.length_map]; rfl) | simp [PX.get]), (by first | rfl | (simp only [List.length_map]; rfl) | simp [PX.get]), trivial⟩ ⟨(by first | rfl | (simp only [List.length_map]; rfl) | simp [PX.get]), (by first | rfl | (simp only [List.length_map]; rfl) | simp [PX.get]), trivial⟩)⟩
    · have h2 : ¬ n ≤ s.gauges.length := by have := of_decide_eq_false h2; simp at this; omega
      rw [show s.gauges.length + 1 - n = 0 by omega] at he
      conv => whnf
      refine RetA_nil0 ?_
      refine RetA_view 0 rfl ⟨⟨?_, rfl⟩, rfl⟩
      rw [he]; rfl
  · have hE : doubtsE c i = [] := by simp [doubtsE, h0]
    rw [hE]
    conv => whnf
    refine brk_i (fun h1 => ?_) (fun h1 => absurd h0 (by simpa using h1))
    conv => whnf
    refine RetA_nil0 ?_
    exact RetA_view 0 rfl ⟨⟨rfl, rfl⟩, rfl⟩
end Go.PX

namespace Go.PX
open Go.Proofs

structure Truth where
  depth : Int
  wind : Int
  current : Int
  swell : Int
  hold : Int
  thick : List Int
def Truth.cells (t : Truth) : List D := [i64 t.depth, i64 t.wind, i64 t.current, i64 t.swell, i64 t.hold, intsD t.thick]
def Truth.d (t : Truth) : D := .agg t.cells
def Ship.cells (s : Ship) : List D := [i64 s.wind, i64 s.current, i64 s.swell, i64 s.yaw]
def Ship.d (s : Ship) : D := .agg s.cells
def forceD (s : Ship) (t : Truth) : D := .agg (s.cells ++ t.cells)

/-- What is needed of a ship and a truth. -/
structure ForceOk (s : Ship) (t : Truth) : Prop where
  wind : 0 ≤ s.wind ∧ s.wind ≤ 10000
  current : 0 ≤ s.current ∧ s.current ≤ 10000
  swell : 0 ≤ s.swell ∧ s.swell ≤ 10000
  yaw : 0 ≤ s.yaw ∧ s.yaw ≤ 20
  tdepth : 0 ≤ t.depth ∧ t.depth ≤ 1000
  twind : 0 ≤ t.wind ∧ t.wind ≤ 80
  tcurrent : 0 ≤ t.current ∧ t.current ≤ 80
  tswell : 0 ≤ t.swell ∧ t.swell ≤ 150
  thold : 0 ≤ t.hold ∧ t.hold ≤ 200000

theorem prod_bd {a b : Int} (A B : Int) (ha : 0 ≤ a ∧ a ≤ A) (hb : 0 ≤ b ∧ b ≤ B) : 0 ≤ a * b ∧ a * b ≤ A * B :=
  ⟨Int.mul_nonneg ha.1 hb.1, Int.mul_le_mul ha.2 hb.2 hb.1 (by omega)⟩

theorem fn99 (s : Ship) (t : Truth) (h : ForceOk s t) : FnV Try.prog 99 [forceD s t] (i64 (t.wind * t.wind * s.wind)) := by
  refine fnV_of mixed tysOk Try.func99 rfl (ft := ft99) 1 (by decide +kernel) (by rfl) fun {σ} Y st => ?_
  conv => whnf
  have h1 := prod_bd 80 80 h.twind h.twind
  have h2 := prod_bd 6400 10000 h1 h.wind
  refine arith_in (wrap_i64 (by (try dsimp only); omega)) ?_
  conv => whnf
  refine arith_in (wrap_i64 (by (try dsimp only); omega)) ?_
  conv => whnf
  exact RetA_view 0 rfl ⟨⟨rfl, rfl⟩, rfl⟩

theorem fn100 (s : Ship) (t : Truth) (h : ForceOk s t) : FnV Try.prog 100 [forceD s t] (i64 (t.current * t.current * s.current)) := by
  refine fnV_of mixed tysOk Try.func100 rfl (ft := ft100) 1 (by decide +kernel) (by rfl) fun {σ} Y st => ?_
  conv => whnf
  have h1 := prod_bd 80 80 h.tcurrent h.tcurrent
  have h2 := prod_bd 6400 10000 h1 h.current
  refine arith_in (wrap_i64 (by (try dsimp only); omega)) ?_
  conv => whnf
  refine arith_in (wrap_i64 (by (try dsimp only); omega)) ?_
  conv => whnf
  exact RetA_view 0 rfl ⟨⟨rfl, rfl⟩, rfl⟩

theorem fn102 (s : Ship) (t : Truth) (h : ForceOk s t) : FnV Try.prog 102 [forceD s t] (i64 (t.swell * s.swell)) := by
  refine fnV_of mixed tysOk Try.func102 rfl (ft := ft102) 1 (by decide +kernel) (by rfl) fun {σ} Y st => ?_
  conv => whnf
  have h1 := prod_bd 150 10000 h.tswell h.swell
  refine arith_in (wrap_i64 (by (try dsimp only); omega)) ?_
  conv => whnf
  exact RetA_view 0 rfl ⟨⟨rfl, rfl⟩, rfl⟩

def upF (n b : Int) : Int := (n + b - 1).tdiv b
def pullF (s : Ship) (t : Truth) (out : Int) : Int := upF ((upF (t.wind * t.wind * s.wind + t.current * t.current * s.current) 100 + t.swell * s.swell) * (1000 + s.yaw * out)) 1000

theorem upF_bd {n b : Int} (N : Int) (hn : 0 ≤ n ∧ n ≤ N) (hb : 1 ≤ b) : 0 ≤ upF n b ∧ upF n b ≤ N + b := by
  unfold upF
  rw [Int.tdiv_eq_ediv_of_nonneg (by omega)]
  constructor
  · exact Int.ediv_nonneg (by omega) (by omega)
  · exact Int.le_trans (Int.ediv_le_self _ (by omega)) (by omega)

theorem pull_bds {s : Ship} {t : Truth} (h : ForceOk s t) {out : Int} (ho : 0 ≤ out ∧ out ≤ 1000) :
    (0 ≤ t.wind * t.wind * s.wind ∧ t.wind * t.wind * s.wind ≤ 64000000) ∧ (0 ≤ t.current * t.current * s.current ∧ t.current * t.current * s.current ≤ 64000000) ∧
    (0 ≤ upF (t.wind * t.wind * s.wind + t.current * t.current * s.current) 100 ∧ upF (t.wind * t.wind * s.wind + t.current * t.current * s.current) 100 ≤ 128000100) ∧
    (0 ≤ t.swell * s.swell ∧ t.swell * s.swell ≤ 1500000) ∧ (0 ≤ s.yaw * out ∧ s.yaw * out ≤ 20000) ∧
    (0 ≤ (upF (t.wind * t.wind * s.wind + t.current * t.current * s.current) 100 + t.swell * s.swell) * (1000 + s.yaw * out) ∧ (upF (t.wind * t.wind * s.wind + t.current * t.current * s.current) 100 + t.swell * s.swell) * (1000 + s.yaw * out) ≤ 130000000 * 21000) ∧
    (0 ≤ pullF s t out ∧ pullF s t out ≤ 3000000000000) := by
  have h1 := prod_bd 6400 10000 (prod_bd 80 80 h.twind h.twind) h.wind
  have h2 := prod_bd 6400 10000 (prod_bd 80 80 h.tcurrent h.tcurrent) h.current
  have h3 := upF_bd (n := t.wind * t.wind * s.wind + t.current * t.current * s.current) (b := 100) 128000000 (by omega) (by omega)
  have h4 := prod_bd 150 10000 h.tswell h.swell
  have h5 := prod_bd 20 1000 h.yaw ho
  have h6 := prod_bd (a := upF (t.wind * t.wind * s.wind + t.current * t.current * s.current) 100 + t.swell * s.swell) (b := 1000 + s.yaw * out) 130000000 21000 (by omega) (by omega)
  have h7 := upF_bd (n := (upF (t.wind * t.wind * s.wind + t.current * t.current * s.current) 100 + t.swell * s.swell) * (1000 + s.yaw * out)) (b := 1000) (130000000 * 21000) h6 (by omega)
  refine ⟨by omega, by omega, by omega, by omega, by omega, h6, ?_⟩
  unfold pullF
  omega

theorem fn73 (s : Ship) (t : Truth) (out : Int) (h : ForceOk s t) (ho : 0 ≤ out ∧ out ≤ 1000) : FnV Try.prog 73 [forceD s t, i64 out] (i64 (pullF s t out)) := by
  refine fnV_of mixed tysOk Try.func73 rfl (ft := ft73) 2 (by decide +kernel) (by rfl) fun {σ} Y st => ?_
  conv => whnf
  obtain ⟨b1, b2, b3, b4, b5, b6, b7⟩ := pull_bds h ho
  refine LoopA_p (T := tys) tysOk (by exact drawsB_spec mixed tysOk (by decide +kernel)) (α := Nat × Int)
    (fun x => ⟨[(1, .d (i64 out)), (2, .ptr 2 0), (5, .d (i64 x.2)), (12, .d (.agg [.mth 99 [forceD s t], .mth 100 [forceD s t]])), (13, .d (i64 x.1))], [(2, .box (.dd (s.cells ++ t.cells)))], st⟩)
    (fun x => (x.1 = 0 ∧ x.2 = 0) ∨ (x.1 = 1 ∧ x.2 = t.wind * t.wind * s.wind) ∨ (x.1 = 2 ∧ x.2 = t.wind * t.wind * s.wind + t.current * t.current * s.current)) (fun x => 2 - x.1) (0, 0)
    (Wk.sub ⟨(by first | rfl | (simp only [List.length_map]; rfl) | simp [PX.get]), (by first | rfl | (simp only [List.length_map]; rfl) | simp [PX.get]), (by first | rfl | (simp only [List.length_map]; rfl) | simp [PX.get]), (by first | rfl | (simp only [List.length_map]; rfl) | simp [PX.get]), (by first | rfl | (simp only [List.length_map]; rfl) | simp [PX.get]), trivial⟩ ⟨(by first | rfl | (simp only [List.length_map]; rfl) | simp [PX.get]), trivial⟩) (.inl ⟨rfl, rfl⟩) ?_
  rintro ⟨n, sum⟩ hn
  simp only at hn
  rcases hn with ⟨rfl, rfl⟩ | ⟨rfl, rfl⟩ | ⟨rfl, rfl⟩
  · conv => whnf
    refine CallA_v (fn99 s t h) rfl rfl ?_
    conv => whnf
    refine arith_in (wrap_i64 (by (try dsimp only); omega)) ?_
    conv => whnf
    refine arith_in (wrap_i64 (by (try dsimp only); omega)) ?_
    conv => whnf
    refine ⟨(1, t.wind * t.wind * s.wind), by simp, .inr (.inl ⟨rfl, rfl⟩), Wk.sub ⟨rfl, rfl, by simp [PX.get], rfl, rfl, trivial⟩ ⟨rfl, trivial⟩⟩
  · conv => whnf
    refine CallA_v (fn100 s t h) rfl rfl ?_
    conv => whnf
    refine arith_in (wrap_i64 (by (try dsimp only); omega)) ?_
    conv => whnf
    refine arith_in (wrap_i64 (by (try dsimp only); omega)) ?_
    conv => whnf
    refine ⟨(2, t.wind * t.wind * s.wind + t.current * t.current * s.current), by simp, .inr (.inr ⟨rfl, rfl⟩), (Wk.sub ⟨(by first | rfl | (simp only [List.length_map]; rfl) | simp [PX.get]), (by first | rfl | (simp only [List.length_map]; rfl) | simp [PX.get]), (by first | rfl | (simp only [List.length_map]; rfl) | simp [PX.get]), (by first | rfl | (simp only [List.length_map]; rfl) | simp [PX.get]), (by first | rfl | (simp only [List.length_map]; rfl) | simp [PX.get]), trivial⟩ ⟨(by first | rfl | (simp only [List.length_map]; rfl) | simp [PX.get]), trivial⟩)⟩
  · conv => whnf
    refine DrawCall_v (ds := [i64 (t.wind * t.wind * s.wind + t.current * t.current * s.current), i64 100]) (fn101 _ 100 (by omega) (by omega)) rfl rfl ?_
    conv => whnf
    refine DrawCall_v (ds := [forceD s t]) (fn102 s t h) rfl rfl ?_
    conv => whnf
    have e1 : (t.wind * t.wind * s.wind + t.current * t.current * s.current + 100 - 1).tdiv 100 = upF (t.wind * t.wind * s.wind + t.current * t.current * s.current) 100 := rfl
    rw [e1]
    refine arith_in (wrap_i64 (by omega)) ?_
    conv => whnf
    refine arith_in (wrap_i64 (by (try dsimp only); omega)) ?_
    conv => whnf
    refine arith_in (wrap_i64 (by (try dsimp only); omega)) ?_
    conv => whnf
    refine arith_in (wrap_i64 (by omega)) ?_
    conv => whnf
    refine CallA_v (ds := [i64 ((upF (t.wind * t.wind * s.wind + t.current * t.current * s.current) 100 + t.swell * s.swell) * (1000 + s.yaw * out)), i64 1000]) (fn101 _ 1000 (by omega) (by omega)) rfl rfl ?_
    conv => whnf
    exact RetA_view 0 rfl ⟨⟨rfl, rfl⟩, rfl⟩

theorem fn82 (s : Ship) (t : Truth) (out : Int) (h : ForceOk s t) (ho : 0 ≤ out ∧ out ≤ 1000) : FnV Try.prog 82 [s.d, t.d, i64 out] (i64 (pullF s t out)) := by
  refine fnV_of mixed tysOk Try.func82 rfl (ft := ft82) 3 (by decide +kernel) (by rfl) fun {σ} Y st => ?_
  conv => whnf
  obtain ⟨b1, b2, b3, b4, b5, b6, b7⟩ := pull_bds h ho
  have c1 := prod_bd 80 80 h.twind h.twind
  have c2 := prod_bd 80 80 h.tcurrent h.tcurrent
  refine arith_in (wrap_i64 (by (try dsimp only); omega)) ?_
  conv => whnf
  refine arith_in (wrap_i64 (by (try dsimp only); omega)) ?_
  conv => whnf
  refine arith_in (wrap_i64 (by (try dsimp only); omega)) ?_
  conv => whnf
  refine arith_in (wrap_i64 (by (try dsimp only); omega)) ?_
  conv => whnf
  refine arith_in (wrap_i64 (by (try dsimp only); omega)) ?_
  conv => whnf
  refine DrawCall_v (ds := [i64 (t.wind * t.wind * s.wind + t.current * t.current * s.current), i64 100]) (fn83 _ 100 (by omega) (by omega)) rfl rfl ?_
  conv => whnf
  have e1 : (t.wind * t.wind * s.wind + t.current * t.current * s.current + 100 - 1).tdiv 100 = upF (t.wind * t.wind * s.wind + t.current * t.current * s.current) 100 := rfl
  rw [e1]
  refine arith_in (wrap_i64 (by (try dsimp only); omega)) ?_
  conv => whnf
  refine arith_in (wrap_i64 (by omega)) ?_
  conv => whnf
  refine arith_in (wrap_i64 (by (try dsimp only); omega)) ?_
  conv => whnf
  refine arith_in (wrap_i64 (by (try dsimp only); omega)) ?_
  conv => whnf
  refine arith_in (wrap_i64 (by omega)) ?_
  conv => whnf
  refine DrawCall_v (ds := [i64 ((upF (t.wind * t.wind * s.wind + t.current * t.current * s.current) 100 + t.swell * s.swell) * (1000 + s.yaw * out)), i64 1000]) (fn83 _ 1000 (by omega) (by omega)) rfl rfl ?_
  conv => whnf
  exact RetA_view 0 rfl ⟨⟨rfl, rfl⟩, rfl⟩
end Go.PX

namespace Go.PX
open Go.Proofs

/-- What is known of new shots, by their indices. -/
def freshM : List Shot → Int → List (D × D)
  | [], _ => []
  | s :: r, i => (i64 i, s.new.d) :: freshM r (i + 1)

theorem freshM_append : ∀ (l : List Shot) (x : Shot) (i : Int), freshM (l ++ [x]) i = freshM l i ++ [(i64 (i + l.length), x.new.d)]
  | [], x, i => by simp [freshM]
  | s :: r, x, i => by
    have : i + 1 + (r.length : Int) = i + ((s :: r).length : Nat) := by simp only [List.length_cons]; omega
    simp only [List.cons_append, freshM, freshM_append r x (i + 1), this]

theorem freshM_none : ∀ (l : List Shot) (i n : Int) (j : Nat), i + l.length ≤ n → findD (i64 n) (freshM l i) j = some none
  | [], i, n, j, _ => rfl
  | s :: r, i, n, j, h => by
    simp only [List.length_cons] at h
    have : decide (n = i) = false := by simp; omega
    simp only [freshM, findD, sameD, decide_true, this]
    exact freshM_none r (i + 1) n (j + 1) (by omega)

theorem freshM_some : ∀ (l : List Shot) (i : Int) (k j : Nat) (s : Shot), l[k]? = some s → findD (i64 (i + k)) (freshM l i) j = some (some (j + k, s.new.d))
  | [], i, k, j, s, h => by simp at h
  | x :: r, i, 0, j, s, h => by
    simp at h; subst h
    simp [freshM, findD, sameD]
  | x :: r, i, k + 1, j, s, h => by
    have h : r[k]? = some s := by simpa using h
    have : decide (i + ((k + 1 : Nat) : Int) = i) = false := by simp; omega
    simp only [freshM, findD, sameD, decide_true, this]
    have := freshM_some r (i + 1) k (j + 1) s h
    rw [show i + ((k + 1 : Nat) : Int) = i + 1 + (k : Int) by omega, this]
    congr 3; omega

def thickL (c : Case) : List Span := c.chain.shots.map fun s => (rangeS s c.chain.err s.gauges c.day).1
def soundE (c : Case) : Int := soundL c.chain.err c.day c.chain.shots 0
def moorC (c : Case) : List D := c.cells ++ [spansD (thickL c), .mv (freshM c.chain.shots 0)]
def moorD (c : Case) : D := .ref (moorC c)

theorem soundL_zero {off day : Int} : ∀ {l : List Shot} {e : Int}, soundL off day l e = 0 → e = 0 ∧ ∀ s ∈ l, (rangeS s off s.gauges day).2 = true
  | [], e, h => ⟨h, fun s hs => by cases hs⟩
  | x :: r, e, h => by
    simp only [soundL] at h
    split at h
    · rename_i he
      obtain ⟨h1, h2⟩ := soundL_zero h
      split at h1
      · rename_i hx
        refine ⟨he, fun s hs => ?_⟩
        rcases List.mem_cons.1 hs with rfl | hs
        · exact hx
        · exact h2 s hs
      · cases h1
    · rename_i he; exact absurd h he

theorem soundL_eight {off day : Int} : ∀ (l : List Shot), soundL off day l 8 = 8
  | [] => rfl
  | x :: r => by simp [soundL]

theorem fn66 (c : Case) (e : Int) (hc : e = 0 → CaseR c) : FnV Try.prog 66 [c.d, i64 e] (.tup [if e = 0 then (if soundE c = 0 then moorD c else .nilp) else .nilp, i64 (if e = 0 then soundE c else e)]) := by
  refine fnV_of mixed tysOk Try.func66 rfl (ft := ft66) 2 (by decide +kernel) (by rfl) fun {σ} Y st => ?_
  conv => whnf
  refine brk_i (fun h1 => ?_) (fun h1 => ?_)
  · have h1 : e ≠ 0 := by simpa using h1
    conv => whnf
    refine RetA_view 0 rfl ⟨⟨?_, rfl⟩, rfl⟩
    simp [h1, packD]
  have h1 : e = 0 := by simpa using h1
  have hR := hc h1
  subst h1
  simp only [if_true]
  have hlen := hR.lens
  obtain ⟨sE, hsE⟩ : ∃ x, x = soundE c := ⟨_, rfl⟩
  rw [← hsE]
  conv => whnf
  refine LoopA_i (T := tys) tysOk (by exact drawsB_spec mixed tysOk (by decide +kernel)) c.chain.shots (fun i (_ : Unit) => ⟨[(2, .ptr 2 0), (6, .ptr 17 0), (20, .d (shotsD c.chain.shots)), (21, .d (i64 c.chain.shots.length)), (22, .d (i64 i))],
      [(2, .box (.dd c.cells)), (17, .box (.vv (inj c.cells ++ [.sl 47 2 0 i, .mp 15]))), (47, .arr 2 (.dd (((thickL c).take i).map Span.cells))), (15, .map (freshM (c.chain.shots.take i) 0))], st⟩)
    (fun i r _ => (∀ s ∈ r, s ∈ c.chain.shots) ∧ sE = soundL c.chain.err c.day r 0) ()
    ((Wk.bornAt 17 47 2 (inj c.cells) [.mp 15] rfl rfl rfl rfl).trans (Wk.sub ⟨(by first | rfl | (simp only [List.length_map]; rfl) | simp [PX.get]), (by first | rfl | (simp only [List.length_map]; rfl) | simp [PX.get]), (by first | rfl | (simp only [List.length_map]; rfl) | simp [PX.get]), (by first | rfl | (simp only [List.length_map]; rfl) | simp [PX.get]), (by first | rfl | (simp only [List.length_map]; rfl) | simp [PX.get]), trivial⟩ ⟨(by first | rfl | (simp only [List.length_map]; rfl) | simp [PX.get]), (by first | rfl | (simp only [List.length_map]; rfl) | simp [PX.get]), (by first | rfl | (simp only [List.length_map]; rfl) | simp [PX.get]), (by first | rfl | (simp only [List.length_map]; rfl) | simp [PX.get]), trivial⟩)) ⟨fun _ h => h, hsE⟩ ?_ ?_
  · intro i x r _ hx hi hr ⟨hm, he⟩
    have hmx := hm x (by simp)
    have hL := hR.look hmx
    have hday := hR.day
    rw [soundL, if_pos rfl] at he
    have htk : c.chain.shots.take (i + 1) = c.chain.shots.take i ++ [x] := by rw [List.take_succ, hx]; rfl
    have htt : (thickL c).take (i + 1) = (thickL c).take i ++ [(rangeS x c.chain.err x.gauges c.day).1] := by
      rw [List.take_succ]
      simp [thickL, hx]
    have hlt : ((thickL c).take i).length = i := by simp [thickL]; omega
    have hlt2 : min i (thickL c).length = i := by simpa using hlt
    conv => whnf
    refine brk_i (fun _ => ?_) (fun h => absurd hi (by simpa using h))
    conv => whnf
    refine elemK_nat hx ?_
    conv => whnf
    refine CallA_v (ds := [.agg (sCells x c.chain.err), i64 c.day]) (fn58 x c.chain.err c.day hL (by omega)) rfl rfl ?_
    conv => whnf
    refine brk_i (fun h2 => ?_) (fun h2 => ?_)
    · have h2 : (rangeS x c.chain.err x.gauges c.day).2 = false := by simpa using h2
      rw [h2] at he
      simp only [Bool.false_eq_true, if_false, soundL_eight] at he
      conv => whnf
      rw [he]
      exact RetA_view 0 rfl ⟨⟨rfl, rfl⟩, rfl⟩
    · have h2 : (rangeS x c.chain.err x.gauges c.day).2 = true := by simpa using h2
      rw [h2] at he
      simp only [if_true] at he
      conv => whnf
      refine ownK_whole rfl ?_
      conv => whnf
      refine ownK.mk (by simp [Els.len, hlt2]) ?_
      conv => whnf
      refine chk_i (by simp [Els.len, Els.part, Els.cons, V.cells, hlt2]; omega) ?_
      conv => whnf
      refine ⟨none, freshM_none _ 0 i 0 (by simp; omega), ?_⟩
      conv => whnf
      refine arith_in (wrap_i64 (by (try dsimp only); omega)) ?_
      conv => whnf
      refine ⟨(), ⟨fun s hs => hm s (by simp [hs]), he⟩, Wk.sub ⟨rfl, rfl, rfl, rfl, rfl, trivial⟩ ⟨rfl, ?_, ?_, ?_, trivial⟩⟩
      · show some (Obj.box (.vv (inj c.cells ++ [.sl 47 2 0 ((((((thickL c).take i).map Span.cells).drop 0).take i).length + 1), .mp 15]))) = _
        rw [List.drop_zero, List.take_of_length_le (by simp; omega)]; simp only [List.length_map, hlt]
      · show some (Obj.arr 2 (.dd (((((thickL c).take i).map Span.cells).drop 0).take i ++ [(rangeS x c.chain.err x.gauges c.day).1.cells]))) = _
        rw [List.drop_zero, List.take_of_length_le (by simp; omega), htt]; simp
      · show some (Obj.map (freshM (c.chain.shots.take i) 0 ++ [(i64 i, x.new.d)])) = _
        rw [htk, freshM_append]
        have : ((c.chain.shots.take i).length : Int) = i := by simp; omega
        rw [this, Int.zero_add]
  · intro _ ⟨_, he⟩
    rw [soundL] at he
    subst he
    conv => whnf
    refine brk_i (fun h => absurd h (by simp)) (fun _ => ?_)
    conv => whnf
    have htl : (thickL c).take c.chain.shots.length = thickL c := List.take_of_length_le (by simp [thickL])
    refine RetA_view 2 (ds := [.ref (c.cells ++ [spansD (thickL c), .mv (freshM (c.chain.shots.take c.chain.shots.length) 0)]), i64 0]) (viewL_cons (viewV_ptr rfl (viewL_app (viewL_cons (viewV_sl' (es' := (thickL c).map Span.cells) rfl (by rw [htl]) (by simp [thickL])) (viewL_cons (viewV_mp rfl) rfl)))) rfl) ⟨⟨?_, rfl⟩, rfl⟩
    rw [List.take_length]
    simp [packD, moorD, moorC]
end Go.PX

namespace Go.PX
open Go.Proofs

theorem onF_le {set fresh wear day : Int} (hf : 0 ≤ fresh) (hw : 0 ≤ wear) (hd : set ≤ day) : 0 ≤ onF set fresh wear day ∧ onF set fresh wear day ≤ fresh := by
  have := Int.mul_nonneg hw (show 0 ≤ day - set by omega)
  unfold onF
  omega

theorem fold_bd {set day : Int} (hd : set ≤ day) : ∀ (l : List (Int × (Int × Int))) (acc : Span × Bool), (∀ t ∈ l, (0 ≤ t.1 ∧ t.1 ≤ 1000000) ∧ (0 ≤ t.2.1 ∧ t.2.1 ≤ 1000000) ∧ (0 ≤ t.2.2 ∧ t.2.2 ≤ 1000000)) →
    (0 ≤ acc.1.lo ∧ acc.1.lo ≤ 1000000) ∧ (0 ≤ acc.1.hi ∧ acc.1.hi ≤ 1000000) → (0 ≤ (l.foldl (thickStep set day) acc).1.lo ∧ (l.foldl (thickStep set day) acc).1.lo ≤ 1000000) ∧ (0 ≤ (l.foldl (thickStep set day) acc).1.hi ∧ (l.foldl (thickStep set day) acc).1.hi ≤ 1000000)
  | [], acc, _, h => h
  | t :: l, acc, ht, h => by
    rw [List.foldl_cons]
    refine fold_bd hd l _ (fun u hu => ht u (by simp [hu])) ?_
    obtain ⟨h1, h2, h3⟩ := ht t (by simp)
    have k1 := onF_le (set := set) (fresh := t.2.1) (wear := t.1) (day := day) h2.1 h1.1 hd
    have k2 := onF_le (set := set) (fresh := t.2.2) (wear := t.1) (day := day) h3.1 h1.1 hd
    unfold thickStep
    cases acc.2 <;> simp only [if_true, Bool.false_eq_true, if_false] <;> omega

theorem rangeS_bd {s : Shot} {off : Int} {gs : List Gauge} {day : Int} (h : LookOk s off gs) (hd : s.set ≤ day) : (0 ≤ (rangeS s off gs day).1.lo ∧ (rangeS s off gs day).1.lo ≤ 1000000) ∧ (0 ≤ (rangeS s off gs day).1.hi ∧ (rangeS s off gs day).1.hi ≤ 1000000) := by
  rw [rangeS_fold]
  exact fold_bd hd _ _ (truthsS_ok h) (by simp)

theorem CaseR.caseOk {c : Case} (h : CaseR c) : CaseOk c := by
  refine ⟨h.lens.2, h.err, h.day, fun s hs => ?_⟩
  have hL := h.look hs
  exact ⟨hL.shot, hL.gok, (h.shots s hs).1.len⟩

theorem soundL_ne {off day : Int} : ∀ (l : List Shot) (e : Int), e ≠ 0 → soundL off day l e = e
  | [], e, _ => rfl
  | x :: r, e, h => by simp [soundL, h]

/-- The error with which a case whose gaugings are looked at is refused. -/
def lookE (c : Case) (e : Int) : Int := if e = 0 then soundE c else e

theorem lookE_eq (c : Case) (e : Int) : soundL c.chain.err c.day c.chain.shots e = lookE c e := by
  unfold lookE soundE
  by_cases h : e = 0
  · rw [if_pos h, h]
  · rw [if_neg h, soundL_ne _ _ h]

def bearsE (c : Case) (i : Int) : Span × Int :=
  if lookE c (openE c i) = 0 then (match (thickL c)[i.toNat]? with
    | some s => (⟨strongF s.lo, strongF s.hi⟩, 0)
    | none => (⟨0, 0⟩, 0)) else (⟨0, 0⟩, lookE c (openE c i))

theorem lookE_zero {c : Case} {e : Int} (h : lookE c e = 0) : e = 0 ∧ soundE c = 0 := by
  unfold lookE at h
  split at h
  · rename_i h0; exact ⟨h0, h⟩
  · rename_i h0; exact absurd h h0

theorem thick_get {c : Case} {i : Nat} {s : Shot} (h : c.chain.shots[i]? = some s) : (thickL c)[i]? = some (rangeS s c.chain.err s.gauges c.day).1 := by
  simp [thickL, h]

theorem fn20 (c : Case) (i : Int) : FnV Try.prog 20 [c.d, i64 i] (.tup [(bearsE c i).1.d, i64 (bearsE c i).2]) := by
  refine fnV_of mixed tysOk Try.func20 rfl (ft := ft20) 2 (by decide +kernel) (by rfl) fun {σ} Y st => ?_
  conv => whnf
  refine CallA_v (ds := [c.d, i64 i]) (fn57 c i) rfl rfl ?_
  by_cases h0 : openE c i = 0
  · obtain ⟨hc, s, hi, hs⟩ := openE_ok h0
    have hR := case_ok hc
    have hm := List.mem_of_getElem? hs
    have hL := hR.look hm
    have hsd := (hR.shots s hm).2
    have hday := hR.day
    have hD : openD c i = .agg (sCells s c.chain.err) := by simp [openD, h0, hs]
    have htg := thick_get hs
    obtain ⟨b1, b2⟩ := rangeS_bd hL (day := c.day) (by omega)
    rw [hD, h0]
    conv => whnf
    refine CallA_v (ds := [c.d, i64 0]) (fn66 c 0 (fun _ => hR)) rfl rfl ?_
    simp only [if_true]
    by_cases h1 : soundE c = 0
    · have hE : bearsE c i = (⟨strongF (rangeS s c.chain.err s.gauges c.day).1.lo, strongF (rangeS s c.chain.err s.gauges c.day).1.hi⟩, 0) := by
        simp [bearsE, lookE, h0, h1, htg]
      rw [hE, h1]
      simp only [if_true]
      generalize rangeS s c.chain.err s.gauges c.day = rr at *
      conv => whnf
      refine elemK_i rr.1.cells ⟨hi, by rw [List.getElem?_map, htg]; rfl⟩ ?_
      conv => whnf
      refine DrawCall_v (fn67 rr.1.lo ⟨by omega, by omega⟩) rfl rfl ?_
      conv => whnf
      refine elemK_i rr.1.cells ⟨hi, by rw [List.getElem?_map, htg]; rfl⟩ ?_
      conv => whnf
      refine DrawCall_v (fn67 rr.1.hi ⟨by omega, by omega⟩) rfl rfl ?_
      conv => whnf
      exact RetA_view 0 rfl ⟨⟨rfl, rfl⟩, rfl⟩
    · have hE : bearsE c i = (⟨0, 0⟩, soundE c) := by
        simp [bearsE, lookE, h0, h1]
      rw [hE]
      simp only [h1, if_false]
      conv => whnf
      refine brk_i (fun _ => ?_) (fun h => absurd h (by simpa using h1))
      conv => whnf
      exact RetA_view 0 rfl ⟨⟨rfl, rfl⟩, rfl⟩
  · have hD : openD c i = .agg [.str ⟨#[]⟩, i64 0, i64 0, i64 0, i64 0, i64 0, i64 0, .nils, i64 0] := by simp [openD, h0]
    have hE : bearsE c i = (⟨0, 0⟩, openE c i) := by simp [bearsE, lookE, h0]
    rw [hD, hE]
    conv => whnf
    refine CallA_v (ds := [c.d, i64 (openE c i)]) (fn66 c (openE c i) (fun h => absurd h h0)) rfl rfl ?_
    simp only [h0, if_false]
    conv => whnf
    refine brk_i (fun _ => ?_) (fun h => absurd h (by simpa using h0))
    conv => whnf
    exact RetA_view 0 rfl ⟨⟨rfl, rfl⟩, rfl⟩

theorem fn21 (c : Case) (i : Int) : FnV Try.prog 21 [c.d, i64 i] (.tup [(bearsE c i).1.d, i64 (bearsE c i).2]) := by
  refine fnV_of mixed tysOk Try.func21 rfl (ft := ft21) 2 (by decide +kernel) (by rfl) fun {σ} Y st => ?_
  conv => whnf
  refine DrawCall_v (fn59 c i) rfl rfl ?_
  conv => whnf
  refine DrawCall_v (ds := [c.d, i64 (openE c i)]) (fn68 c (openE c i) (fun h => (case_ok (openE_ok h).1).caseOk)) rfl rfl ?_
  rw [lookE_eq]
  conv => whnf
  by_cases h1 : lookE c (openE c i) = 0
  · obtain ⟨h0, h2⟩ := lookE_zero h1
    obtain ⟨hc, s, hi, hs⟩ := openE_ok h0
    have hR := case_ok hc
    have hm := List.mem_of_getElem? hs
    have hL := hR.look hm
    have hsd := (hR.shots s hm).2
    have hday := hR.day
    have herr := hR.err
    have htg := thick_get hs
    obtain ⟨b1, b2⟩ := rangeS_bd hL (day := c.day) (by omega)
    rw [h1]
    have hE : bearsE c i = (⟨strongF (rangeS s c.chain.err s.gauges c.day).1.lo, strongF (rangeS s c.chain.err s.gauges c.day).1.hi⟩, 0) := by
      simp [bearsE, h1, htg]
    rw [hE]
    conv => whnf
    refine elemK_i s.cells ⟨hi, by rw [List.getElem?_map, hs]; rfl⟩ ?_
    conv => whnf
    refine elemK_i s.cells ⟨hi, by rw [List.getElem?_map, hs]; rfl⟩ ?_
    conv => whnf
    refine DrawCall_v (ds := [s.d, i64 c.chain.err, gaugesD s.gauges, i64 c.day]) (fn60 s c.chain.err s.gauges c.day (by omega) hL.shot hL.gok hL.len (by omega)) rfl rfl ?_
    generalize rangeS s c.chain.err s.gauges c.day = rr at *
    conv => whnf
    refine DrawCall_v (fn69 rr.1.lo ⟨by omega, by omega⟩) rfl rfl ?_
    conv => whnf
    refine DrawCall_v (fn69 rr.1.hi ⟨by omega, by omega⟩) rfl rfl ?_
    conv => whnf
    exact RetA_view 0 rfl ⟨⟨rfl, rfl⟩, rfl⟩
  · have hE : bearsE c i = (⟨0, 0⟩, lookE c (openE c i)) := by simp [bearsE, h1]
    rw [hE]
    conv => whnf
    refine brk_i (fun _ => ?_) (fun h => absurd h (by simpa using h1))
    conv => whnf
    exact RetA_view 0 rfl ⟨⟨rfl, rfl⟩, rfl⟩
end Go.PX

namespace Go.PX
open Go.Proofs

/-- A mooring as the program holds it. -/
def mD (c : Case) (th : List Span) (fr : List (D × D)) : D := .ref (c.cells ++ [spansD th, .mv fr])

structure MoorOk (c : Case) (th : List Span) : Prop where
  case : CaseR c
  len : th.length = c.chain.shots.length
  th : ∀ s ∈ th, (0 ≤ s.lo ∧ s.lo ≤ 1000000) ∧ (0 ≤ s.hi ∧ s.hi ≤ 1000000)

def backL (l : List Row) : Nat → List (Int × Row)
  | 0 => []
  | n + 1 => ((n : Int), l[n]?.getD ⟨0, 0⟩) :: backL l n

def rowItem (p : Int × Row) : List V × Heap := ([.d (i64 p.1), .d (.agg p.2.cells)], [])

theorem yields119 (rows : List Row) (h : rows.length < 1000000) : Yields Try.prog 119 [.ref [rowsD rows]] ((backL rows rows.length).map rowItem) := by
  intro γ Y g0 Q hit
  refine fnC_of mixed tysOk Try.func119 rfl (ft := ft119) (args := [.yld, .d (.ref [rowsD rows])]) (show fnB ft119 Try.f119 2 = true from by decide +kernel) ?_
  conv => whnf
  refine arith_to ((rows.length : Int) - 1) (by simp) (wrap_i64 (by omega)) ?_
  conv => whnf
  refine LoopA_p (T := tys) tysOk (by exact drawsB_spec mixed tysOk (by decide +kernel)) (α := Int × γ)
    (fun x => ⟨[(0, .yld), (1, .d (.ref [rowsD rows])), (3, .d (i64 x.1))], [], x.2⟩)
    (fun x => -1 ≤ x.1 ∧ x.1 < rows.length ∧ iterate Y ((backL rows (x.1 + 1).toNat).map rowItem) x.2 Q) (fun x => (x.1 + 1).toNat) ((rows.length : Int) - 1, g0)
    (Wk.sub ⟨(by first | rfl | (simp only [List.length_map]; rfl) | simp [PX.get]), (by first | rfl | (simp only [List.length_map]; rfl) | simp [PX.get]), (by first | rfl | (simp only [List.length_map]; rfl) | simp [PX.get]), trivial⟩ trivial) ⟨by simp only; omega, by simp only; omega, by simpa using hit⟩ ?_
  clear hit g0
  rintro ⟨i, g0⟩ ⟨h1, h2, hit⟩
  simp only at h1 h2 hit
  conv => whnf
  refine brk_i (fun hb => ?_) (fun hb => ?_)
  · have hb : 0 ≤ i := by simpa using hb
    have hn : (i + 1).toNat = i.toNat + 1 := by omega
    have hlt : i.toNat < rows.length := by omega
    rw [hn, backL, List.getElem?_eq_getElem hlt, Option.getD_some, show ((i.toNat : Nat) : Int) = i by omega] at hit
    conv => whnf
    refine elemK_i rows[i.toNat].cells ⟨hb, by simp [hlt]⟩ ?_
    conv => whnf
    refine YldA_v (ds := [i64 i, .agg rows[i.toNat].cells]) hit rfl rfl (fun s' hs' => ?_) (fun s' hs' => ?_)
    · conv => whnf
      refine arith_in (wrap_i64 (by (try dsimp only); omega)) ?_
      conv => whnf
      exact ⟨(i - 1, s'), by simp only; omega, ⟨by simp only; omega, by simp only; omega, by simp only; rw [show (i - 1 + 1).toNat = i.toNat by omega]; exact hs'⟩, (Wk.sub ⟨(by first | rfl | (simp only [List.length_map]; rfl) | simp [PX.get]), (by first | rfl | (simp only [List.length_map]; rfl) | simp [PX.get]), (by first | rfl | (simp only [List.length_map]; rfl) | simp [PX.get]), trivial⟩ trivial)⟩
    · conv => whnf
      exact RetA_view 0 rfl ⟨rfl, hs'⟩
  · have hb : ¬ 0 ≤ i := by simpa using hb
    have hi : (i + 1).toNat = 0 := by omega
    rw [hi, backL] at hit
    conv => whnf
    exact RetA_view 0 rfl ⟨rfl, hit⟩

theorem fn117 (rows : List Row) : FnV Try.prog 117 [rowsD rows] (.clo 119 [.ref [rowsD rows]]) := by
  refine fnV_of mixed tysOk Try.func117 rfl (ft := ft117) 1 (by decide +kernel) (by rfl) fun {σ} Y st => ?_
  conv => whnf
  exact RetA_view 1 rfl ⟨⟨rfl, rfl⟩, rfl⟩

/-- Whether a row of the table holds at so many links out. -/
def rowOk (c : Case) (t : Truth) (out : Int) (r : Row) : Bool := decide (r.scope * (t.depth + upF t.swell 2) ≤ 10 * c.chain.long * out)
def rowF (c : Case) (t : Truth) (out : Int) : Row := (((backL c.chain.rows c.chain.rows.length).find? fun p => rowOk c t out p.2).getD (0, ⟨0, 0⟩)).2

theorem backL_mem {l : List Row} : ∀ {n : Nat}, n ≤ l.length → ∀ p ∈ backL l n, p.2 ∈ l
  | 0, _, p, h => by simp [backL] at h
  | n + 1, hn, p, h => by
    simp only [backL, List.mem_cons] at h
    rcases h with rfl | h
    · rw [List.getElem?_eq_getElem (by omega)]; exact List.getElem_mem (by omega)
    · exact backL_mem (by omega) p h

theorem rowF_ok {c : Case} (h : CaseR c) (t : Truth) (out : Int) : (0 ≤ (rowF c t out).scope ∧ (rowF c t out).scope ≤ 200) ∧ (0 ≤ (rowF c t out).holds ∧ (rowF c t out).holds ≤ 1000) := by
  unfold rowF
  cases hf : (backL c.chain.rows c.chain.rows.length).find? fun p => rowOk c t out p.2 with
  | none => simp
  | some p =>
    have := h.rows p.2 (backL_mem (Nat.le_refl _) p (List.mem_of_find?_eq_some hf))
    simp only [Option.getD_some]
    omega

theorem fn108 (c : Case) (th : List Span) (fr : List (D × D)) (t : Truth) (out : Int) (hc : CaseR c) (ht : ForceOk c.ship t) (ho : 0 ≤ out ∧ out ≤ 1000) :
    FnV Try.prog 108 [mD c th fr, t.d, i64 out] (.agg (rowF c t out).cells) := by
  refine fnV_of mixed tysOk Try.func108 rfl (ft := ft108) 3 (by decide +kernel) (by rfl) fun {σ} Y st => ?_
  conv => whnf
  have hlen := hc.rlen
  have hlong := hc.long
  have hu := upF_bd (n := t.swell) (b := 2) 150 ht.tswell (by omega)
  have htd := ht.tdepth
  have hts := ht.tswell
  refine CallA_v (ds := [rowsD c.chain.rows]) (fn117 c.chain.rows) rfl rfl ?_
  conv => whnf
  refine RangeA_list tysOk (by exact drawsB_spec mixed tysOk (by decide +kernel)) (by exact drawsB_spec mixed tysOk (by decide +kernel)) rfl 1500000 1600000 [3, 4, 5, 6] (by exact yields119 c.chain.rows (by omega))
    (fun (_ : Unit) => ([(1500000, .box (.dd [mD c th fr])), (1500001, .box (.dd t.cells)), (1500002, .box (.dd [i64 out])), (1500003, .box (.dd [i64 0, i64 0]))], st))
    (fun rest _ => (∀ p ∈ rest, p.2 ∈ c.chain.rows) ∧ rowF c t out = ((rest.find? fun p => rowOk c t out p.2).getD (0, ⟨0, 0⟩)).2) () rfl rfl rfl ⟨backL_mem (Nat.le_refl _), rfl⟩ ?_ ?_
  · rintro p rest _ ⟨hm, he⟩ Q hQ1 hQ
    refine ⟨⟨rfl, rfl⟩, ?_⟩
    have hr := hc.rows p.2 (hm p (by simp))
    have b1 := prod_bd (a := p.2.scope) (b := t.depth + upF t.swell 2) 200 10000 (by omega) (by omega)
    have b2 := prod_bd (a := 10 * c.chain.long) (b := out) 500 1000 (by omega) (by omega)
    have e1 : (t.swell + 2 - 1).tdiv 2 = upF t.swell 2 := rfl
    conv => whnf
    refine DrawCall_v (fn101 t.swell 2 (by omega) (by omega)) rfl rfl ?_
    conv => whnf
    rw [e1]
    refine arith_in (wrap_i64 (by (try dsimp only); omega)) ?_
    conv => whnf
    refine arith_in (wrap_i64 (by (try dsimp only); omega)) ?_
    conv => whnf
    refine arith_in (wrap_i64 (by (try dsimp only); omega)) ?_
    conv => whnf
    refine arith_in (wrap_i64 (by (try dsimp only); omega)) ?_
    conv => whnf
    refine brk_i (fun hb => ?_) (fun hb => ?_)
    · have hk : rowOk c t out p.2 = true := hb
      rw [List.find?_cons_of_pos (by exact hk)] at he
      conv => whnf
      refine ⟨[(1500000, .box (.dd [mD c th fr])), (1500001, .box (.dd t.cells)), (1500002, .box (.dd [i64 out])), (1500003, .box (.dd p.2.cells))], st, (Wk.sub trivial ⟨(by first | rfl | (simp only [List.length_map]; rfl) | simp [PX.get]), (by first | rfl | (simp only [List.length_map]; rfl) | simp [PX.get]), (by first | rfl | (simp only [List.length_map]; rfl) | simp [PX.get]), (by first | rfl | (simp only [List.length_map]; rfl) | simp [PX.get]), trivial⟩), rfl, hQ _ _ _ ?_⟩
      conv => whnf
      rw [he]
      exact RetA_view 0 rfl ⟨⟨rfl, rfl⟩, rfl⟩
    · have hk : ¬ rowOk c t out p.2 = true := by rw [show rowOk c t out p.2 = false from hb]; simp
      rw [List.find?_cons_of_neg (by exact hk)] at he
      conv => whnf
      exact ⟨(), (Wk.sub trivial ⟨(by first | rfl | (simp only [List.length_map]; rfl) | simp [PX.get]), (by first | rfl | (simp only [List.length_map]; rfl) | simp [PX.get]), (by first | rfl | (simp only [List.length_map]; rfl) | simp [PX.get]), (by first | rfl | (simp only [List.length_map]; rfl) | simp [PX.get]), trivial⟩), rfl, hQ1 () ⟨fun q hq => hm q (by simp [hq]), he⟩⟩
  · rintro _ ⟨_, he⟩
    conv => whnf
    rw [he]
    exact RetA_view 0 rfl ⟨⟨rfl, rfl⟩, rfl⟩
end Go.PX

namespace Go.PX
open Go.Proofs

theorem viewV_agg {g : Nat → Option DO} {cs : List V} {l : List D} (h : viewL g cs = some l) : viewV g (.agg cs) = some (.agg l) := by simp [viewV, h]

/-- A box of data with a nil slice in it holds one without elements. -/
theorem Wk.bornAtD {σ : Type} {e : Env} {h : Heap} {s : σ} (b k sz : Nat) (A B : List D) {l : List D} (hk : Nat.blt k 1000000 = true) (hs : Nat.blt 0 sz = true) (hb : get h b = some (.box (.dd l))) (hl : l = A ++ .nils :: B) (hbk : Nat.beq b k = false) :
    Wk (⟨e, h, s⟩ : St σ) ⟨mapT (mapId (killF k)) e, put (put (mapT (Obj.mapId (killF k)) (cut h k)) k (.arr sz (.dd []))) b (.box (.vv (inj A ++ .sl k sz 0 0 :: inj B))), s⟩ := by
  have hk := Nat.le_of_ble_eq_true hk
  have hs := Nat.le_of_ble_eq_true hs
  have hne : b ≠ k := by rintro rfl; simp at hbk
  have h1 : Wk (⟨e, h, s⟩ : St σ) ⟨mapT (mapId (killF k)) e, put (mapT (Obj.mapId (killF k)) (cut h k)) k (.arr sz (.dd [])), s⟩ := by
    intro cx r m L F a w hg
    exact ⟨_, F, hg.newEmpty k sz (by unfold pinned; omega) hs (.dd []) rfl, Tr.refl F w⟩
  refine h1.trans (Wk.reobj b (o := .box (.dd l)) _ (by rw [get_put, if_neg hne, get_mapT, get_cut, if_neg hne, hb]; rfl) (fun yv L F w h => ?_) fun L hb => hb)
  obtain ⟨c, T, hc, hr⟩ := h
  have hr : RepVL yv L F w (inj l) c.toList := hr
  rw [hl, inj_append] at hr
  exact ⟨c, T, hc, RepVL.nil_at k sz hs hr⟩

def worstT (c : Case) (th : List Span) (w : Weather) : Truth := ⟨w.depth.hi, w.wind.hi, w.current.hi, w.swell.hi, c.chain.hold.lo, th.map Span.lo⟩
def loC (s : Span) : List D := [i64 s.lo]

theorem fn80 (c : Case) (th : List Span) (fr : List (D × D)) (w : Weather) (hl : th.length < 1000000) :
    FnV Try.prog 80 [mD c th fr, w.d] (worstT c th w).d := by
  refine fnV_of mixed tysOk Try.func80 rfl (ft := ft80) 2 (by decide +kernel) (by rfl) fun {σ} Y st => ?_
  conv => whnf
  refine LoopA_i (T := tys) tysOk (by exact drawsB_spec mixed tysOk (by decide +kernel)) th (fun i (_ : Unit) => ⟨[(0, .d (mD c th fr)), (4, .ptr 4 0), (30, .d (spansD th)), (31, .d (i64 th.length)), (32, .d (i64 i))],
      [(4, .box (.vv [.d (i64 w.depth.hi), .d (i64 w.wind.hi), .d (i64 w.current.hi), .d (i64 w.swell.hi), .d (i64 c.chain.hold.lo), .sl 41 1 0 i])), (41, .arr 1 (.dd ((th.take i).map loC)))], st⟩)
    (fun i r _ => True) ()
    ((Wk.bornAtD 4 41 1 [i64 w.depth.hi, i64 w.wind.hi, i64 w.current.hi, i64 w.swell.hi, i64 c.chain.hold.lo] [] rfl rfl rfl rfl rfl).trans (Wk.sub ⟨(by first | rfl | (simp only [List.length_map]; rfl) | simp [PX.get]), (by first | rfl | (simp only [List.length_map]; rfl) | simp [PX.get]), (by first | rfl | (simp only [List.length_map]; rfl) | simp [PX.get]), (by first | rfl | (simp only [List.length_map]; rfl) | simp [PX.get]), (by first | rfl | (simp only [List.length_map]; rfl) | simp [PX.get]), trivial⟩ ⟨(by first | rfl | (simp only [List.length_map]; rfl) | simp [PX.get]), (by first | rfl | (simp only [List.length_map]; rfl) | simp [PX.get]), trivial⟩)) trivial ?_ ?_
  · intro i x r _ hx hi hr _
    have htk : th.take (i + 1) = th.take i ++ [x] := by rw [List.take_succ, hx]; rfl
    have hlt : (th.take i).length = i := by simp; omega
    have hlt2 : min i th.length = i := by simpa using hlt
    conv => whnf
    refine brk_i (fun _ => ?_) (fun h => absurd hi (by simpa using h))
    conv => whnf
    refine elemK_nat hx ?_
    conv => whnf
    refine ownK_whole rfl ?_
    conv => whnf
    refine ownK.mk (by simp [Els.len, hlt2]) ?_
    conv => whnf
    refine chk_i (by simp [Els.len, Els.part, Els.cons, V.cells, hlt2]; omega) ?_
    conv => whnf
    refine arith_in (wrap_i64 (by (try dsimp only); omega)) ?_
    conv => whnf
    refine ⟨(), trivial, Wk.sub ⟨rfl, rfl, rfl, rfl, rfl, trivial⟩ ⟨?_, ?_, trivial⟩⟩
    · show some (Obj.box (.vv [.d (i64 w.depth.hi), .d (i64 w.wind.hi), .d (i64 w.current.hi), .d (i64 w.swell.hi), .d (i64 c.chain.hold.lo), .sl 41 1 0 (((((th.take i).map loC).drop 0).take i).length + 1)])) = _
      rw [List.drop_zero, List.take_of_length_le (by simp; omega)]; simp only [List.length_map, hlt]
    · show some (Obj.arr 1 (.dd ((((th.take i).map loC).drop 0).take i ++ [loC x]))) = _
      rw [List.drop_zero, List.take_of_length_le (by simp; omega), htk]; simp
  · intro _ _
    conv => whnf
    refine brk_i (fun h => absurd h (by simp)) (fun _ => ?_)
    conv => whnf
    have htl : th.take th.length = th := List.take_of_length_le (by simp)
    refine RetA_view 3 (ds := [.agg (worstT c th w).cells]) (viewL_cons (viewV_agg (viewL_cons rfl (viewL_cons rfl (viewL_cons rfl (viewL_cons rfl (viewL_cons rfl (viewL_cons (viewV_sl' (es' := (th.map Span.lo).map fun n => [i64 n]) rfl ?_ (by simp)) rfl))))))) rfl) ⟨⟨rfl, rfl⟩, rfl⟩
    rw [htl]
    simp [loC]
end Go.PX

namespace Go.PX
open Go.Proofs

/-- The first shot that breaks. -/
def judgeL (heavy pull out : Int) : List Shot → List Int → Int → Int → Int × Int
  | s :: r, t :: ts, n, i => if n ≥ out then (0, 0) else if strongF t < pull + heavy * min (n + s.links) out then (2, i) else judgeL heavy pull out r ts (n + s.links) (i + 1)
  | _, _, _, _ => (0, 0)

def judgeF (c : Case) (t : Truth) (out : Int) : Int × Int :=
  if pullF c.ship t out * 1000 > t.hold * (rowF c t out).holds then (1, 0) else judgeL c.chain.heavy (pullF c.ship t out) out c.chain.shots t.thick 0 0

theorem fn81 (c : Case) (th : List Span) (fr : List (D × D)) (t : Truth) (out : Int) (hc : CaseR c) (ht : ForceOk c.ship t) (ho : 0 ≤ out ∧ out ≤ 1000) (hl : t.thick.length = c.chain.shots.length) (hb : ∀ n ∈ t.thick, bd n) :
    FnV Try.prog 81 [mD c th fr, t.d, i64 out] (.tup [i64 (judgeF c t out).1, i64 (judgeF c t out).2]) := by
  refine fnV_of mixed tysOk Try.func81 rfl (ft := ft81) 3 (by decide +kernel) (by rfl) fun {σ} Y st => ?_
  conv => whnf
  obtain ⟨_, _, _, _, _, _, hp⟩ := pull_bds ht ho
  have hrow := (rowF_ok hc t out).2
  have hhold := prod_bd 200000 1000 ht.thold hrow
  have hlen := hc.lens
  have hheavy := hc.heavy
  refine DrawCall_v (ds := [forceD c.ship t, i64 out]) (fn73 c.ship t out ht ho) rfl rfl ?_
  conv => whnf
  unfold judgeF
  generalize pullF c.ship t out = pull at *
  refine arith_in (wrap_i64 (by (try dsimp only); omega)) ?_
  conv => whnf
  refine DrawCall_v (ds := [mD c th fr, t.d, i64 out]) (fn108 c th fr t out hc ht ho) rfl rfl ?_
  conv => whnf
  refine arith_in (wrap_i64 (by (try dsimp only); omega)) ?_
  conv => whnf
  refine brk_i (fun h1 => ?_) (fun h1 => ?_)
  · have h1 : pull * 1000 > t.hold * (rowF c t out).holds := by simpa using h1
    conv => whnf
    simp only [h1, if_true]
    exact RetA_view 0 rfl ⟨⟨rfl, rfl⟩, rfl⟩
  have h1 : ¬ pull * 1000 > t.hold * (rowF c t out).holds := by simpa using h1
  simp only [h1, if_false]
  conv => whnf
  refine LoopA_i (T := tys) tysOk (by exact drawsB_spec mixed tysOk (by decide +kernel)) c.chain.shots (fun i (n : Int) => ⟨[(0, .d (mD c th fr)), (2, .d (i64 out)), (4, .ptr 4 0), (8, .d (i64 pull)), (9, .d (i64 n)), (37, .d (shotsD c.chain.shots)), (38, .d (i64 c.chain.shots.length)), (39, .d (i64 i))],
      [(4, .box (.dd t.cells))], st⟩)
    (fun i r n => (0 ≤ n ∧ n ≤ i * 40) ∧ (∀ s ∈ r, ShotR s) ∧ judgeL c.chain.heavy pull out c.chain.shots t.thick 0 0 = judgeL c.chain.heavy pull out r (t.thick.drop i) n i) 0
    (Wk.sub ⟨(by first | rfl | (simp only [List.length_map]; rfl) | simp [PX.get]), (by first | rfl | (simp only [List.length_map]; rfl) | simp [PX.get]), (by first | rfl | (simp only [List.length_map]; rfl) | simp [PX.get]), (by first | rfl | (simp only [List.length_map]; rfl) | simp [PX.get]), (by first | rfl | (simp only [List.length_map]; rfl) | simp [PX.get]), (by first | rfl | (simp only [List.length_map]; rfl) | simp [PX.get]), (by first | rfl | (simp only [List.length_map]; rfl) | simp [PX.get]), (by first | rfl | (simp only [List.length_map]; rfl) | simp [PX.get]), trivial⟩ ⟨(by first | rfl | (simp only [List.length_map]; rfl) | simp [PX.get]), trivial⟩) ⟨by omega, fun s hs => (hc.shots s hs).1, rfl⟩ ?_ ?_
  · intro i x r n hx hi hr ⟨hn, hm, he⟩
    have hxl := (hm x (by simp)).links
    have hti : i < t.thick.length := by omega
    have htx : t.thick[i]? = some t.thick[i] := List.getElem?_eq_getElem hti
    have hbx := hb _ (List.getElem_mem hti)
    rw [List.drop_eq_getElem_cons hti, judgeL] at he
    generalize t.thick[i] = v at *
    have hi7 : i < 7 := by omega
    have hmn := prod_bd (a := c.chain.heavy) (b := min (n + x.links) out) 200 1000 hheavy (by omega)
    conv => whnf
    refine brk_i (fun _ => ?_) (fun h => absurd hi (by simpa using h))
    conv => whnf
    refine elemK_nat hx ?_
    conv => whnf
    refine brk_i (fun h2 => ?_) (fun h2 => ?_)
    · have h2 : n ≥ out := by simpa using h2
      simp only [h2, if_true] at he
      conv => whnf
      rw [he]
      exact RetA_view 0 rfl ⟨⟨rfl, rfl⟩, rfl⟩
    have h2 : ¬ n ≥ out := by simpa using h2
    simp only [h2, if_false] at he
    conv => whnf
    refine arith_in (wrap_i64 (by (try dsimp only); omega)) ?_
    conv => whnf
    refine elemK_nat htx ?_
    conv => whnf
    refine DrawCall_v (fn67 v hbx) rfl rfl ?_
    conv => whnf
    refine arith_in (wrap_i64 (by (try dsimp only); omega)) ?_
    conv => whnf
    refine arith_in (wrap_i64 (by (try dsimp only); omega)) ?_
    conv => whnf
    refine brk_i (fun h3 => ?_) (fun h3 => ?_)
    · have h3 : strongF v < pull + c.chain.heavy * min (n + x.links) out := by simpa using h3
      simp only [h3, if_true] at he
      conv => whnf
      rw [he]
      exact RetA_view 0 rfl ⟨⟨rfl, rfl⟩, rfl⟩
    · have h3 : ¬ strongF v < pull + c.chain.heavy * min (n + x.links) out := by simpa using h3
      simp only [h3, if_false] at he
      conv => whnf
      refine arith_in (wrap_i64 (by (try dsimp only); omega)) ?_
      conv => whnf
      exact ⟨n + x.links, ⟨by omega, fun s hs => hm s (by simp [hs]), he⟩, (Wk.sub ⟨(by first | rfl | (simp only [List.length_map]; rfl) | simp [PX.get]), (by first | rfl | (simp only [List.length_map]; rfl) | simp [PX.get]), (by first | rfl | (simp only [List.length_map]; rfl) | simp [PX.get]), (by first | rfl | (simp only [List.length_map]; rfl) | simp [PX.get]), (by first | rfl | (simp only [List.length_map]; rfl) | simp [PX.get]), (by first | rfl | (simp only [List.length_map]; rfl) | simp [PX.get]), (by first | rfl | (simp only [List.length_map]; rfl) | simp [PX.get]), (by first | rfl | (simp only [List.length_map]; rfl) | simp [PX.get]), trivial⟩ ⟨(by first | rfl | (simp only [List.length_map]; rfl) | simp [PX.get]), trivial⟩)⟩
  · rintro n ⟨_, _, he⟩
    rw [show ∀ ts n i, judgeL c.chain.heavy pull out [] ts n i = (0, 0) from fun ts n i => by cases ts <;> rfl] at he
    conv => whnf
    refine brk_i (fun h => absurd h (by simp)) (fun _ => ?_)
    conv => whnf
    rw [he]
    exact RetA_view 0 rfl ⟨⟨rfl, rfl⟩, rfl⟩

/-- The truth at the worst in a weather is a truth that can be judged. -/
theorem worst_ok {c : Case} {th : List Span} (h : MoorOk c th) {w : Weather} (hw : w ∈ c.weathers) : ForceOk c.ship (worstT c th w) := by
  obtain ⟨hd, hwi, hcu, hsw⟩ := h.case.weathers w hw
  obtain ⟨s1, s2, s3, s4⟩ := h.case.ship
  have hh := h.case.hold
  exact ⟨s1, s2, s3, s4, by simp only [worstT]; omega, by simp only [worstT]; omega, by simp only [worstT]; omega, by simp only [worstT]; omega, by simp only [worstT]; omega⟩

def judgeW (c : Case) (th : List Span) (out : Int) (w : Weather) : Int × Int := judgeF c (worstT c th w) out

/-- The first weather in which the mooring does not hold. -/
def breakL (c : Case) (th : List Span) (out : Int) : List Weather → Int → Int × Int × Int
  | [], _ => (0, 0, 0)
  | w :: r, i => if (judgeW c th out w).1 ≠ 0 then ((judgeW c th out w).1, i, (judgeW c th out w).2) else breakL c th out r (i + 1)
def breakF (c : Case) (th : List Span) (out : Int) : Int × Int × Int := breakL c th out c.weathers 0

theorem fn81w (c : Case) (th : List Span) (fr : List (D × D)) (w : Weather) (out : Int) (h : MoorOk c th) (hw : w ∈ c.weathers) (ho : 0 ≤ out ∧ out ≤ 1000) :
    FnV Try.prog 81 [mD c th fr, (worstT c th w).d, i64 out] (.tup [i64 (judgeW c th out w).1, i64 (judgeW c th out w).2]) :=
  fn81 c th fr (worstT c th w) out h.case (worst_ok h hw) ho (by simp [worstT, h.len]) (by
    intro n hn
    simp only [worstT, List.mem_map] at hn
    obtain ⟨s, hs, rfl⟩ := hn
    have := (h.th s hs).1
    exact ⟨by omega, by omega⟩)

theorem fn74 (c : Case) (th : List Span) (fr : List (D × D)) (out : Int) (h : MoorOk c th) (ho : 0 ≤ out ∧ out ≤ 1000) :
    FnV Try.prog 74 [mD c th fr, i64 out] (tri (breakF c th out)) := by
  refine fnV_of mixed tysOk Try.func74 rfl (ft := ft74) 2 (by decide +kernel) (by rfl) fun {σ} Y st => ?_
  conv => whnf
  have hwl := h.case.wlen
  have hsl := h.case.lens
  have htl := h.len
  refine LoopA_i (T := tys) tysOk (by exact drawsB_spec mixed tysOk (by decide +kernel)) c.weathers (fun i (_ : Unit) => ⟨[(0, .d (mD c th fr)), (1, .d (i64 out)), (13, .d (weathersD c.weathers)), (14, .d (i64 c.weathers.length)), (15, .d (i64 i))], [], st⟩)
    (fun i r _ => (∀ w ∈ r, w ∈ c.weathers) ∧ breakF c th out = breakL c th out r i) ()
    (Wk.sub ⟨(by first | rfl | (simp only [List.length_map]; rfl) | simp [PX.get]), (by first | rfl | (simp only [List.length_map]; rfl) | simp [PX.get]), (by first | rfl | (simp only [List.length_map]; rfl) | simp [PX.get]), (by first | rfl | (simp only [List.length_map]; rfl) | simp [PX.get]), (by first | rfl | (simp only [List.length_map]; rfl) | simp [PX.get]), trivial⟩ trivial) ⟨fun _ h => h, rfl⟩ ?_ ?_
  · intro i x r _ hx hi hr ⟨hm, he⟩
    have hxm := hm x (by simp)
    rw [breakL] at he
    conv => whnf
    refine brk_i (fun _ => ?_) (fun h => absurd hi (by simpa using h))
    conv => whnf
    refine elemK_nat hx ?_
    conv => whnf
    refine CallA_v (ds := [mD c th fr, x.d]) (fn80 c th fr x (by omega)) rfl rfl ?_
    conv => whnf
    refine CallA_v (ds := [mD c th fr, (worstT c th x).d, i64 out]) (fn81w c th fr x out h hxm ho) rfl rfl ?_
    conv => whnf
    refine brk_i (fun h2 => ?_) (fun h2 => ?_)
    · have h2 : (judgeW c th out x).1 ≠ 0 := by simpa using h2
      rw [if_pos h2] at he
      conv => whnf
      rw [he]
      exact RetA_view 0 rfl ⟨⟨rfl, rfl⟩, rfl⟩
    · have h2 : ¬ (judgeW c th out x).1 ≠ 0 := by simpa using h2
      rw [if_neg h2] at he
      conv => whnf
      refine arith_in (wrap_i64 (by (try dsimp only); omega)) ?_
      conv => whnf
      exact ⟨(), ⟨fun s hs => hm s (by simp [hs]), he⟩, (Wk.sub ⟨(by first | rfl | (simp only [List.length_map]; rfl) | simp [PX.get]), (by first | rfl | (simp only [List.length_map]; rfl) | simp [PX.get]), (by first | rfl | (simp only [List.length_map]; rfl) | simp [PX.get]), (by first | rfl | (simp only [List.length_map]; rfl) | simp [PX.get]), (by first | rfl | (simp only [List.length_map]; rfl) | simp [PX.get]), trivial⟩ trivial)⟩
  · rintro _ ⟨_, he⟩
    rw [breakL] at he
    conv => whnf
    refine brk_i (fun h => absurd h (by simp)) (fun _ => ?_)
    conv => whnf
    rw [he]
    exact RetA_view 0 rfl ⟨⟨rfl, rfl⟩, rfl⟩
end Go.PX

namespace Go.PX
open Go.Proofs

theorem fn51_nil (lo hi : Int) : FnV Try.prog 51 [i64 lo, i64 hi, .nils] (.bool false) := by
  refine fnV_of mixed tysOk Try.func51 rfl (ft := ft51) 3 (by decide +kernel) (by rfl) fun {σ} Y st => ?_
  conv => whnf
  refine CallA_nil0 ?_
  refine CallA_view (fn86 [] 87 [.ref [i64 lo], .ref [i64 hi]] (fun n => decide (n < lo) || decide (n > hi)) (by simp) (fun x _ => fn87 x lo hi)) rfl 1 rfl ?_
  conv => whnf
  exact RetA_view 0 rfl ⟨⟨rfl, rfl⟩, rfl⟩

/-- The error with which a case, a length and places are refused. -/
def goE (c : Case) (out : Int) (bad : Bool) : Int :=
  if (checkC c).2.2 ≠ 0 then (checkC c).2.2 else if bad then 4 else if inB out 1 (linksF c.chain.shots) then 0 else 7

theorem links_bd {c : Case} (h : CaseR c) : ∀ s ∈ c.chain.shots, bd s.links := fun s hs => by
  have := (h.shots s hs).1.links
  exact ⟨by omega, by omega⟩

theorem linksF_in : ∀ {l : List Shot}, (∀ s ∈ l, 1 ≤ s.links ∧ s.links ≤ 40) → (l.length : Int) ≤ linksF l ∧ linksF l ≤ 40 * l.length
  | [], _ => by simp [linksF]
  | s :: r, h => by
    have h1 := h s (by simp)
    have h2 := linksF_in (l := r) fun x hx => h x (by simp [hx])
    simp only [linksF, List.length_cons]
    omega

theorem links_ok {c : Case} (h : CaseR c) : 1 ≤ linksF c.chain.shots ∧ linksF c.chain.shots ≤ 280 := by
  have h1 := linksF_in fun s hs => (h.shots s hs).1.links
  have h2 := h.lens
  omega

theorem goE_zero {c : Case} {out : Int} {bad : Bool} (h : goE c out bad = 0) : CaseR c ∧ bad = false ∧ 1 ≤ out ∧ out ≤ linksF c.chain.shots ∧ out ≤ 1000 := by
  unfold goE at h
  split at h
  · rename_i h1; exact absurd h h1
  · rename_i h1
    have hR := case_ok (c := c) (by simpa using h1)
    have hl := links_ok hR
    split at h
    · cases h
    · rename_i h2
      split at h
      · rename_i h3
        rw [inB_iff] at h3
        exact ⟨hR, by simpa using h2, by omega, by omega, by omega⟩
      · cases h

theorem fn72 (c : Case) (out : Int) (d : D) (bad : Bool) (hd : FnV Try.prog 51 [i64 0, i64 ((c.weathers.length : Int) - 1), d] (.bool bad)) :
    FnV Try.prog 72 [c.d, i64 out, d] (i64 (goE c out bad)) := by
  refine fnV_of mixed tysOk Try.func72 rfl (ft := ft72) 3 (by decide +kernel) (by rfl) fun {σ} Y st => ?_
  conv => whnf
  refine CallA_v (fn13 c) rfl rfl ?_
  conv => whnf
  unfold goE
  by_cases h0 : (checkC c).2.2 = 0
  · have hR := case_ok h0
    have hw := hR.wlen
    rw [h0]
    conv => whnf
    refine arith_to ((c.weathers.length : Int) - 1) (by simp) (wrap_i64 (by omega)) ?_
    conv => whnf
    refine CallA_v (ds := [i64 0, i64 ((c.weathers.length : Int) - 1), d]) hd rfl rfl ?_
    conv => whnf
    cases bad with
    | true =>
      conv => whnf
      rw [if_neg (by simpa using h0), if_pos rfl]
      exact RetA_view 0 rfl ⟨⟨rfl, rfl⟩, rfl⟩
    | false =>
      have hk := links_bd hR
      rw [if_neg (by simpa using h0), if_neg (by simp)]
      conv => whnf
      refine CallA_v (fn84 c.chain (by have := hR.lens; omega) hk) rfl rfl ?_
      conv => whnf
      refine CallA_view (fn51_1 1 (linksF c.chain.shots) out) rfl 1 rfl ?_
      conv => whnf
      refine brk_i (fun h3 => ?_) (fun h3 => ?_)
      · have h3 : inB out 1 (linksF c.chain.shots) = false := by simpa using h3
        conv => whnf
        rw [if_neg (by simp [h3])]
        exact RetA_view 0 rfl ⟨⟨rfl, rfl⟩, rfl⟩
      · have h3 : inB out 1 (linksF c.chain.shots) = true := by simpa using h3
        conv => whnf
        rw [if_pos h3]
        exact RetA_view 0 rfl ⟨⟨rfl, rfl⟩, rfl⟩
  · conv => whnf
    refine brk_i (fun _ => ?_) (fun h => absurd h (by simpa using h0))
    conv => whnf
    rw [if_pos (by simpa using h0)]
    exact RetA_view 0 rfl ⟨⟨rfl, rfl⟩, rfl⟩
end Go.PX

namespace Go.PX
open Go.Proofs

theorem RepDL.nilAt {F : Nat → Nat} {w : World} {B : List D} : ∀ {A : List D} {l : List Value}, RepDL F w (A ++ .nils :: B) l → RepDL F w (A ++ .vs [] :: B) l
  | [], l, h => by
    obtain ⟨x, l', rfl, hx, hr⟩ := h
    have hx : x = .slice none 0 0 := hx
    subst hx
    exact ⟨_, l', rfl, ⟨none, 0, 0, rfl, rfl, Nat.le_refl _, fun h => absurd rfl h⟩, hr⟩
  | a :: A, l, h => by
    obtain ⟨x, l', rfl, hx, hr⟩ := h
    exact ⟨x, l', rfl, hx, RepDL.nilAt hr⟩

/-- A struct with a nil slice is passed as one with an empty list. -/
theorem CallA_nilAt {P : Program} {σ : Type} {Y : Hd σ} {st : St σ} {d : Option Nat} {f : FuncId} (A B : List D) {l : List D} {r : List V} {K : St σ → Prop} (hl : l = A ++ .nils :: B) (hc : CallA P Y st d f (.d (.agg (A ++ .vs [] :: B)) :: r) K) : CallA P Y st d f (.d (.agg l) :: r) K := by
  subst hl
  refine CallA_re (fun yv L F w l hv => ?_) hc
  obtain ⟨x, l', rfl, hx, hr⟩ := hv
  obtain ⟨a, rfl, ha⟩ := hx
  exact ⟨_, l', rfl, ⟨a, rfl, RepDL.nilAt ha⟩, hr⟩

def badAt (c : Case) (i : Int) : Bool := !inB i 0 ((c.weathers.length : Int) - 1)

def pullT (w : Weather) : Truth := ⟨0, w.wind.hi, w.current.hi, w.swell.hi, 0, []⟩

def pullE (c : Case) (i out : Int) : Int × Int :=
  if goE c out (badAt c i) = 0 then (match c.weathers[i.toNat]? with
    | some w => (pullF c.ship (pullT w) out, 0)
    | none => (0, 0)) else (0, goE c out (badAt c i))

theorem badAt_ok {c : Case} {i : Int} (h : badAt c i = false) : ∃ w, 0 ≤ i ∧ c.weathers[i.toNat]? = some w ∧ w ∈ c.weathers := by
  have h : inB i 0 ((c.weathers.length : Int) - 1) = true := by simpa [badAt] using h
  rw [inB_iff] at h
  have hl : i.toNat < c.weathers.length := by omega
  exact ⟨c.weathers[i.toNat], h.1, List.getElem?_eq_getElem hl, List.getElem_mem hl⟩

theorem pull_ok {c : Case} (h : CaseR c) {w : Weather} (hw : w ∈ c.weathers) : ForceOk c.ship (pullT w) := by
  obtain ⟨hd, hwi, hcu, hsw⟩ := h.weathers w hw
  obtain ⟨s1, s2, s3, s4⟩ := h.ship
  exact ⟨s1, s2, s3, s4, by simp only [pullT]; omega, by simp only [pullT]; omega, by simp only [pullT]; omega, by simp only [pullT]; omega, by simp only [pullT]; omega⟩

theorem fn24 (c : Case) (i out : Int) : FnV Try.prog 24 [c.d, i64 i, i64 out] (.tup [i64 (pullE c i out).1, i64 (pullE c i out).2]) := by
  refine fnV_of mixed tysOk Try.func24 rfl (ft := ft24) 3 (by decide +kernel) (by rfl) fun {σ} Y st => ?_
  conv => whnf
  refine CallA_view (fn72 c out (.vs [[i64 i]]) (badAt c i) (fn51_1 0 ((c.weathers.length : Int) - 1) i)) rfl 1 rfl ?_
  conv => whnf
  by_cases h0 : goE c out (badAt c i) = 0
  · obtain ⟨hR, hb, ho⟩ := goE_zero h0
    obtain ⟨w, hi, hw, hm⟩ := badAt_ok hb
    have hE : pullE c i out = (pullF c.ship (pullT w) out, 0) := by simp [pullE, h0, hw]
    rw [hE, h0]
    conv => whnf
    refine elemK_i w.cells ⟨hi, by rw [List.getElem?_map, hw]; rfl⟩ ?_
    conv => whnf
    refine CallA_nilAt (c.ship.cells ++ [i64 0, i64 w.wind.hi, i64 w.current.hi, i64 w.swell.hi, i64 0]) [] rfl ?_
    refine CallA_v (ds := [forceD c.ship (pullT w), i64 out]) (fn73 c.ship (pullT w) out (pull_ok hR hm) (by omega)) rfl rfl ?_
    conv => whnf
    exact RetA_view 0 rfl ⟨⟨rfl, rfl⟩, rfl⟩
  · have hE : pullE c i out = (0, goE c out (badAt c i)) := by simp [pullE, h0]
    rw [hE]
    conv => whnf
    refine brk_i (fun _ => ?_) (fun h => absurd h (by simpa using h0))
    conv => whnf
    exact RetA_view 0 rfl ⟨⟨rfl, rfl⟩, rfl⟩

theorem moor_ok {c : Case} (h : CaseR c) : MoorOk c (thickL c) := by
  refine ⟨h, by simp [thickL], fun s hs => ?_⟩
  simp only [thickL, List.mem_map] at hs
  obtain ⟨x, hx, rfl⟩ := hs
  exact rangeS_bd (h.look hx) (h.shots x hx).2

def whyE (c : Case) (out : Int) : (Int × Int × Int) × Int :=
  if lookE c (goE c out false) = 0 then (breakF c (thickL c) out, 0) else ((0, 0, 0), lookE c (goE c out false))

theorem lookE_ne {c : Case} {e : Int} (h : lookE c e ≠ 0) : (e = 0 ∧ soundE c ≠ 0 ∧ lookE c e = soundE c) ∨ (e ≠ 0 ∧ lookE c e = e) := by
  unfold lookE at *
  split
  · rename_i h0; left; rw [if_pos h0] at h; exact ⟨h0, h, rfl⟩
  · rename_i h0; right; exact ⟨h0, rfl⟩

/-- What a look at a case's shots gives. -/
def lookD (c : Case) (e : Int) : D := if lookE c e = 0 then moorD c else .nilp

theorem fn66' (c : Case) (e : Int) (hc : e = 0 → CaseR c) : FnV Try.prog 66 [c.d, i64 e] (.tup [lookD c e, i64 (lookE c e)]) := by
  refine FnV.cast (fn66 c e hc) ?_
  unfold lookD lookE
  by_cases h : e = 0
  · simp [h]
  · simp [h]

theorem fn25 (c : Case) (out : Int) : FnV Try.prog 25 [c.d, i64 out] (.tup [i64 (whyE c out).1.1, i64 (whyE c out).1.2.1, i64 (whyE c out).1.2.2, i64 (whyE c out).2]) := by
  refine fnV_of mixed tysOk Try.func25 rfl (ft := ft25) 2 (by decide +kernel) (by rfl) fun {σ} Y st => ?_
  conv => whnf
  refine DrawCall_v (ds := [c.d, i64 out, .nils]) (fn72 c out .nils false (fn51_nil 0 _)) rfl rfl ?_
  conv => whnf
  refine DrawCall_v (ds := [c.d, i64 (goE c out false)]) (fn66' c (goE c out false) (fun h => (goE_zero h).1)) rfl rfl ?_
  unfold lookD
  by_cases h1 : lookE c (goE c out false) = 0
  · obtain ⟨h0, hs⟩ := lookE_zero h1
    obtain ⟨hR, _, ho⟩ := goE_zero h0
    have hE : whyE c out = (breakF c (thickL c) out, 0) := by simp [whyE, h1]
    rw [hE, if_pos h1, h1]
    conv => whnf
    refine CallA_v (ds := [mD c (thickL c) (freshM c.chain.shots 0), i64 out]) (fn74 c (thickL c) (freshM c.chain.shots 0) out (moor_ok hR) (by omega)) rfl rfl ?_
    conv => whnf
    exact RetA_view 0 rfl ⟨⟨rfl, rfl⟩, rfl⟩
  · have hE : whyE c out = ((0, 0, 0), lookE c (goE c out false)) := by simp [whyE, h1]
    rw [hE, if_neg h1]
    conv => whnf
    refine brk_i (fun _ => ?_) (fun h => absurd h (by simpa using h1))
    conv => whnf
    exact RetA_view 0 rfl ⟨⟨rfl, rfl⟩, rfl⟩
end Go.PX

namespace Go.PX
open Go.Proofs

def noTruth : D := .agg [i64 0, i64 0, i64 0, i64 0, i64 0, .nils]

def showE (c : Case) (i out : Int) : D × (Int × Int) × Int :=
  if lookE c (goE c out (badAt c i)) = 0 then (match c.weathers[i.toNat]? with
    | some w => ((worstT c (thickL c) w).d, judgeW c (thickL c) out w, 0)
    | none => (noTruth, (0, 0), 0)) else (noTruth, (0, 0), lookE c (goE c out (badAt c i)))

theorem fn35 (c : Case) (i out : Int) : FnV Try.prog 35 [c.d, i64 i, i64 out] (.tup [(showE c i out).1, i64 (showE c i out).2.1.1, i64 (showE c i out).2.1.2, i64 (showE c i out).2.2]) := by
  refine fnV_of mixed tysOk Try.func35 rfl (ft := ft35) 3 (by decide +kernel) (by rfl) fun {σ} Y st => ?_
  conv => whnf
  refine DrawCall_view (fn72 c out (.vs [[i64 i]]) (badAt c i) (fn51_1 0 ((c.weathers.length : Int) - 1) i)) rfl 1 rfl ?_
  conv => whnf
  refine DrawCall_v (ds := [c.d, i64 (goE c out (badAt c i))]) (fn66' c (goE c out (badAt c i)) (fun h => (goE_zero h).1)) rfl rfl ?_
  unfold lookD
  by_cases h1 : lookE c (goE c out (badAt c i)) = 0
  · obtain ⟨h0, hs⟩ := lookE_zero h1
    obtain ⟨hR, hb, ho⟩ := goE_zero h0
    obtain ⟨w, hi, hw, hm⟩ := badAt_ok hb
    have hM := moor_ok hR
    have hlen : (thickL c).length < 1000000 := by have := hR.lens; rw [hM.len]; omega
    have hE : showE c i out = ((worstT c (thickL c) w).d, judgeW c (thickL c) out w, 0) := by simp [showE, h1, hw]
    rw [hE, if_pos h1, h1]
    conv => whnf
    refine elemK_i w.cells ⟨hi, by rw [List.getElem?_map, hw]; rfl⟩ ?_
    conv => whnf
    refine CallA_v (ds := [mD c (thickL c) (freshM c.chain.shots 0), w.d]) (fn80 c (thickL c) (freshM c.chain.shots 0) w hlen) rfl rfl ?_
    conv => whnf
    refine CallA_v (ds := [mD c (thickL c) (freshM c.chain.shots 0), (worstT c (thickL c) w).d, i64 out]) (fn81w c (thickL c) (freshM c.chain.shots 0) w out hM hm (by omega)) rfl rfl ?_
    conv => whnf
    exact RetA_view 0 rfl ⟨⟨rfl, rfl⟩, rfl⟩
  · have hE : showE c i out = (noTruth, (0, 0), lookE c (goE c out (badAt c i))) := by simp [showE, h1]
    rw [hE, if_neg h1]
    conv => whnf
    refine brk_i (fun _ => ?_) (fun h => absurd h (by simpa using h1))
    conv => whnf
    exact RetA_view 0 rfl ⟨⟨rfl, rfl⟩, rfl⟩

def bandsL (c : Case) (w : Weather) : List Span := [w.depth, w.wind, w.current, w.swell, c.chain.hold] ++ thickL c
def valsL (t : Truth) : List Int := [t.depth, t.wind, t.current, t.swell, t.hold] ++ t.thick

/-- Is a value outside its band? -/
def outL : List Span → List Int → Bool
  | s :: r, n :: l => !inB n s.lo s.hi || outL r l
  | _, _ => false

def inE (c : Case) (i out : Int) (t : Truth) : (Int × Int) × Int :=
  if lookE c (goE c out (badAt c i)) = 0 then (
    if t.thick.length = c.chain.shots.length then (match c.weathers[i.toNat]? with
    | some w => if outL (bandsL c w) (valsL t) then ((0, 0), 7) else (judgeF c t out, 0)
    | none => ((0, 0), 0)) else ((0, 0), 3)) else ((0, 0), lookE c (goE c out (badAt c i)))

theorem outL_mem : ∀ {l : List Span} {ts : List Int}, l.length = ts.length → outL l ts = false → ∀ n ∈ ts, ∃ s ∈ l, s.lo ≤ n ∧ n ≤ s.hi
  | [], [], _, _, n, hn => by cases hn
  | s :: l, m :: ts, hl, ho, n, hn => by
    simp only [outL, Bool.or_eq_false_iff, Bool.not_eq_false', inB_iff] at ho
    simp only [List.mem_cons] at hn
    rcases hn with rfl | hn
    · exact ⟨s, by simp, ho.1⟩
    · obtain ⟨s', h1, h2⟩ := outL_mem (by simpa using hl) ho.2 n hn
      exact ⟨s', by simp [h1], h2⟩

theorem bands_ok {c : Case} (h : CaseR c) {w : Weather} (hw : w ∈ c.weathers) {t : Truth} (hl : t.thick.length = c.chain.shots.length) (ho : outL (bandsL c w) (valsL t) = false) : ForceOk c.ship t ∧ ∀ n ∈ t.thick, bd n := by
  obtain ⟨hd, hwi, hcu, hsw⟩ := h.weathers w hw
  obtain ⟨s1, s2, s3, s4⟩ := h.ship
  have hh := h.hold
  simp only [bandsL, valsL, List.cons_append, List.nil_append, outL, Bool.or_eq_false_iff, Bool.not_eq_false', inB_iff] at ho
  obtain ⟨o1, o2, o3, o4, o5, o6⟩ := ho
  refine ⟨⟨s1, s2, s3, s4, by omega, by omega, by omega, by omega, by omega⟩, fun n hn => ?_⟩
  obtain ⟨s, hs, hn⟩ := outL_mem (by simp [thickL, hl]) o6 n hn
  have := (moor_ok h).th s hs
  exact ⟨by omega, by omega⟩

theorem fn39 (c : Case) (i out : Int) (t : Truth) : FnV Try.prog 39 [c.d, i64 i, i64 out, t.d] (.tup [i64 (inE c i out t).1.1, i64 (inE c i out t).1.2, i64 (inE c i out t).2]) := by
  refine fnV_of mixed tysOk Try.func39 rfl (ft := ft39) 4 (by decide +kernel) (by rfl) fun {σ} Y st => ?_
  conv => whnf
  refine DrawCall_view (fn72 c out (.vs [[i64 i]]) (badAt c i) (fn51_1 0 ((c.weathers.length : Int) - 1) i)) rfl 1 rfl ?_
  conv => whnf
  refine DrawCall_v (ds := [c.d, i64 (goE c out (badAt c i))]) (fn66' c (goE c out (badAt c i)) (fun h => (goE_zero h).1)) rfl rfl ?_
  unfold lookD
  by_cases h1 : lookE c (goE c out (badAt c i)) = 0
  · obtain ⟨h0, hs⟩ := lookE_zero h1
    obtain ⟨hR, hb, ho⟩ := goE_zero h0
    obtain ⟨w, hi, hw, hm⟩ := badAt_ok hb
    have hM := moor_ok hR
    have hlen : (thickL c).length < 1000000 := by have := hR.lens; rw [hM.len]; omega
    rw [if_pos h1]
    by_cases h2 : t.thick.length = c.chain.shots.length
    · have hE : inE c i out t = if outL (bandsL c w) (valsL t) then ((0, 0), 7) else (judgeF c t out, 0) := by simp [inE, h1, h2, hw]
      rw [hE, h1]
      conv => whnf
      refine brk_i (fun h => absurd h (by simp [h2])) (fun _ => ?_)
      conv => whnf
      refine elemK_i w.cells ⟨hi, by rw [List.getElem?_map, hw]; rfl⟩ ?_
      conv => whnf
      have hk : ∀ n, n = 2 → Els.ok n (.dd ((thickL c).map Span.cells)) = true := fun n hn => by
        subst hn
        exact lenAllD_map (fun x => ⟨rfl, rfl⟩) (thickL c)
      refine ownK.mk rfl ?_
      conv => whnf
      rw [hk]
      rotate_left
      · rfl
      conv => whnf
      refine chk_i (decide_eq_true (show (5 + ((thickL c).map Span.cells).length) * 16 ≤ 140737488355328 by simp; omega)) ?_
      conv => whnf
      have hk2 : ∀ n, n = 1 → Els.ok n (.dd (t.thick.map fun n => [i64 n])) = true := fun n hn => by
        subst hn
        exact lenAllD_map (fun x => ⟨rfl, rfl⟩) t.thick
      refine ownK.mk rfl ?_
      conv => whnf
      rw [hk2]
      rotate_left
      · rfl
      conv => whnf
      have hb1 : some (V.sl 60 2 0 (5 + ((thickL c).map Span.cells).length)) = some (V.sl 60 2 0 (bandsL c w).length) := by simp [bandsL]; omega
      have hb2 : some (V.sl 74 1 0 (5 + (t.thick.map fun n => [i64 n]).length)) = some (V.sl 74 1 0 (valsL t).length) := by simp [valsL]; omega
      have hb3 : some (V.d (i64 ((5 + (t.thick.map fun n => [i64 n]).length : Nat) : Int))) = some (V.d (i64 (valsL t).length)) := by simp [valsL]; omega
      have htk : t.thick.length ≤ 7 := by have := hR.lens; omega
      refine chk_i (decide_eq_true (show (5 + (t.thick.map fun n => [i64 n]).length) * 8 ≤ 140737488355328 by simp; omega)) ?_
      conv => whnf
      refine LoopA_i (T := tys) tysOk (by exact drawsB_spec mixed tysOk (by decide +kernel)) (valsL t) (fun i (_ : Unit) => ⟨[(2, .d (i64 out)), (7, .ptr 7 0), (11, .d (mD c (thickL c) (freshM c.chain.shots 0))), (13, .sl 60 2 0 (bandsL c w).length), (74, .sl 74 1 0 (valsL t).length), (75, .d (i64 (valsL t).length)), (76, .d (i64 i))],
          [(7, .box (.dd t.cells)), (60, .arr 2 (.dd ((bandsL c w).map Span.cells))), (74, .arr 1 (.dd ((valsL t).map fun n => [i64 n])))], st⟩)
        (fun i r _ => outL (bandsL c w) (valsL t) = outL ((bandsL c w).drop i) r) ()
        (Wk.sub ⟨rfl, rfl, rfl, hb1, hb2, hb3, rfl, trivial⟩ ⟨rfl, rfl, rfl, trivial⟩) rfl ?_ ?_
      · intro i x r _ hx hi hr he
        have hbl : (bandsL c w).length = (valsL t).length := by simp [bandsL, valsL, thickL, h2]
        have hib : i < (bandsL c w).length := by omega
        have hbx : (bandsL c w)[i]? = some (bandsL c w)[i] := List.getElem?_eq_getElem hib
        have hvl : (valsL t).length ≤ 12 := by simp [valsL]; omega
        rw [List.drop_eq_getElem_cons hib, outL] at he
        generalize (bandsL c w)[i] = b at *
        conv => whnf
        refine brk_i (fun _ => ?_) (fun h => absurd hi (by simpa using h))
        conv => whnf
        refine chk_i (by simp; omega) ?_
        conv => whnf
        refine cellK_i [i64 x] (by simp [hx]) ?_
        conv => whnf
        refine chk_i (by simp; omega) ?_
        conv => whnf
        refine cellK_i b.cells (by simp [hbx]) ?_
        conv => whnf
        refine chk_i (by simp; omega) ?_
        conv => whnf
        refine cellK_i b.cells (by simp [hbx]) ?_
        conv => whnf
        refine DrawCall_view (fn51_1 b.lo b.hi x) rfl 1 rfl ?_
        conv => whnf
        refine brk_i (fun h3 => ?_) (fun h3 => ?_)
        · have h3 : inB x b.lo b.hi = false := by simpa using h3
          simp only [h3, Bool.not_false, Bool.true_or] at he
          conv => whnf
          rw [if_pos he]
          exact RetA_view 0 rfl ⟨⟨rfl, rfl⟩, rfl⟩
        · have h3 : inB x b.lo b.hi = true := by simpa using h3
          simp only [h3, Bool.not_true, Bool.false_or] at he
          conv => whnf
          refine arith_in (wrap_i64 (by (try dsimp only); omega)) ?_
          conv => whnf
          exact ⟨(), he, (Wk.sub ⟨(by first | rfl | (simp only [List.length_map]; rfl) | simp [PX.get]), (by first | rfl | (simp only [List.length_map]; rfl) | simp [PX.get]), (by first | rfl | (simp only [List.length_map]; rfl) | simp [PX.get]), (by first | rfl | (simp only [List.length_map]; rfl) | simp [PX.get]), (by first | rfl | (simp only [List.length_map]; rfl) | simp [PX.get]), (by first | rfl | (simp only [List.length_map]; rfl) | simp [PX.get]), (by first | rfl | (simp only [List.length_map]; rfl) | simp [PX.get]), trivial⟩ ⟨(by first | rfl | (simp only [List.length_map]; rfl) | simp [PX.get]), (by first | rfl | (simp only [List.length_map]; rfl) | simp [PX.get]), (by first | rfl | (simp only [List.length_map]; rfl) | simp [PX.get]), trivial⟩)⟩
      · rintro _ he
        have he : outL (bandsL c w) (valsL t) = false := by rw [he]; cases (bandsL c w).drop (valsL t).length <;> rfl
        obtain ⟨hF, hbd⟩ := bands_ok hR hm h2 he
        rw [if_neg (by simp [he])]
        conv => whnf
        refine brk_i (fun h => absurd h (by simp)) (fun _ => ?_)
        conv => whnf
        refine CallA_v (ds := [mD c (thickL c) (freshM c.chain.shots 0), t.d, i64 out]) (fn81 c (thickL c) (freshM c.chain.shots 0) t out hR hF (by omega) h2 hbd) rfl rfl ?_
        conv => whnf
        exact RetA_view 0 rfl ⟨⟨rfl, rfl⟩, rfl⟩
    · have hE : inE c i out t = ((0, 0), 3) := by simp [inE, h1, h2]
      rw [hE, h1]
      conv => whnf
      refine brk_i (fun _ => ?_) (fun h => absurd h (by simp; omega))
      conv => whnf
      exact RetA_view 0 rfl ⟨⟨rfl, rfl⟩, rfl⟩
  · have hE : inE c i out t = ((0, 0), lookE c (goE c out (badAt c i))) := by simp [inE, h1]
    rw [hE, if_neg h1]
    conv => whnf
    refine brk_i (fun _ => ?_) (fun h => absurd h (by simpa using h1))
    conv => whnf
    exact RetA_view 0 rfl ⟨⟨rfl, rfl⟩, rfl⟩
end Go.PX
