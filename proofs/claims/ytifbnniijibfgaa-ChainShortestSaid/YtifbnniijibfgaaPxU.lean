import Derived.Test.YtifbnniijibfgaaPxT
set_option linter.all false
set_option maxRecDepth 10000
namespace Go.PX
open Go.Proofs

/-- All ascending lists that go on so, with so many numbers to come. -/
def listsF (below : Nat) : Nat → List Int → Nat → List (List Int)
  | 0, p, _ => [p]
  | many + 1, p, start => (List.range' start (below - start)).flatMap fun (i : Nat) => listsF below many (p ++ [(i : Int)]) (i + 1)

theorem listsF_len (below : Nat) (hb : below ≤ 8) : ∀ (many : Nat) (p : List Int) (start : Nat), (listsF below many p start).length ≤ 8 ^ many
  | 0, p, start => by simp [listsF]
  | many + 1, p, start => by
    have key : ∀ (l : List Nat), (l.flatMap fun (i : Nat) => listsF below many (p ++ [(i : Int)]) (i + 1)).length ≤ l.length * 8 ^ many := by
      intro l
      induction l with
      | nil => simp
      | cons a r ih =>
        have := listsF_len below hb many (p ++ [(a : Int)]) (a + 1)
        simp only [List.flatMap_cons, List.length_append, List.length_cons, Nat.add_mul, Nat.one_mul]
        omega
    have h1 := key (List.range' start (below - start))
    simp only [List.length_range'] at h1
    rw [listsF, Nat.pow_succ]
    have h2 : (below - start) * 8 ^ many ≤ 8 * 8 ^ many := Nat.mul_le_mul_right _ (by omega)
    omega

def listsD (l : List (List Int)) : D := .vs (l.map fun q => [intsD q])

/-- Where the next number begins. -/
def startOk (p : List Int) (start : Nat) : Prop := (p = [] ∧ start = 0) ∨ ∃ q, p = q ++ [(start : Int) - 1]

theorem fn65 (below : Nat) (hb : below ≤ 8) : ∀ (many : Nat) (p : List Int) (start : Nat), many ≤ 8 → p.length + many ≤ 100 → start ≤ 1000 → startOk p start → FnV Try.prog 65 [intsD p, i64 many, i64 below] (listsD (listsF below many p start))
  | 0, p, start, hm, hp, hs, hst => by
    refine fnV_of mixed tysOk Try.func65 rfl (ft := ft65) 3 (by decide +kernel) (by rfl) fun {σ} Y st => ?_
    conv => whnf
    exact RetA_sl (es := [[intsD p]]) rfl rfl ⟨⟨rfl, rfl⟩, rfl⟩
  | many + 1, p, start, hm, hp, hs, hst => by
    refine fnV_of mixed tysOk Try.func65 rfl (ft := ft65) 3 (by decide +kernel) (by rfl) fun {σ} Y st => ?_
    conv => whnf
    have ih := fn65 below hb many
    have hpow : 8 ^ (many + 1) ≤ 134217728 := by
      have : 8 ^ (many + 1) ≤ 8 ^ 9 := Nat.pow_le_pow_right (by omega) (by omega)
      omega
    have hlen := listsF_len below hb (many + 1) p start
    obtain ⟨total, ht⟩ : ∃ t, t = listsF below (many + 1) p start := ⟨_, rfl⟩
    rw [← ht] at hlen ⊢
    refine brk_i (fun h1 => ?_) (fun h1 => ?_)
    case' refine_1 =>
      have h1 : 0 < p.length := by simpa using h1
      obtain ⟨q, hq⟩ : ∃ q, p = q ++ [(start : Int) - 1] := by
        rcases hst with ⟨rfl, _⟩ | h
        · simp at h1
        · exact h
      conv => whnf
      refine arith_to ((p.length - 1 : Nat) : Int) (by simp; omega) (wrap_i64 (by omega)) ?_
      conv => whnf
      refine elemK_i [i64 ((start : Int) - 1)] ⟨by omega, by rw [hq]; simp⟩ ?_
      conv => whnf
      refine arith_to ((start : Int)) (by (try dsimp only); omega) (wrap_i64 (by (try dsimp only); omega)) ?_
      conv => whnf
    case' refine_2 =>
      have h1 : start = 0 := by
        rcases hst with ⟨_, h⟩ | ⟨q, rfl⟩
        · exact h
        · simp at h1
      subst h1
      conv => whnf
    all_goals
      refine LoopA_p (T := tys) tysOk (by exact drawsB_spec mixed tysOk (by decide +kernel)) (α := Nat × List (List Int))
        (fun x => ⟨[(0, .d (intsD p)), (1, .d (i64 (many + 1 : Nat))), (2, .d (i64 below)), (8, .sl 41 1 0 x.2.length), (9, .d (i64 x.1))], [(41, .arr 1 (.dd (x.2.map fun q => [intsD q])))], st⟩)
        (fun x => x.1 ≤ max 1000 below ∧ total = x.2 ++ (List.range' x.1 (below - x.1)).flatMap fun (i : Nat) => listsF below many (p ++ [(i : Int)]) (i + 1)) (fun x => below - x.1) (_, [])
        ((Wk.born 8 41 1 rfl rfl rfl).trans (Wk.sub ⟨rfl, rfl, rfl, rfl, rfl, trivial⟩ ⟨rfl, trivial⟩)) ⟨by simp only; omega, ht⟩ ?_
      clear h1 hst ht
      rintro ⟨i, acc⟩ ⟨hi, he⟩
      simp only at hi he
      conv => whnf
      refine brk_i (fun h2 => ?_) (fun h2 => ?_)
      · have h2 : i < below := by have := of_decide_eq_true h2; omega
        obtain ⟨m, hm1⟩ : ∃ m, below - i = m + 1 := ⟨below - i - 1, by omega⟩
        have hm2 : below - (i + 1) = m := by omega
        rw [hm1, List.range'_succ, List.flatMap_cons] at he
        have hacc : acc.length + (listsF below many (p ++ [(i : Int)]) (i + 1)).length ≤ 134217728 := by
          have := hlen
          rw [he] at this
          simp only [List.length_append] at this
          omega
        conv => whnf
        refine chk_i (by
          show (lenAllD 1 (p.map fun n => [i64 n]) && true) = true
          rw [lenAllD_map (fun x => ⟨rfl, rfl⟩)]; rfl) ?_
        conv => whnf
        refine chk_i (by simp [Els.len, Els.part]; omega) ?_
        conv => whnf
        refine chk_i (by simp [Els.len, Els.part]) ?_
        conv => whnf
        refine chk_i (by simp [Els.len, Els.part, Els.cons, V.cells]; omega) ?_
        conv => whnf
        refine arith_to (many : Int) (by omega) (wrap_i64 (by omega)) ?_
        conv => whnf
        have hbuf : intsC (p ++ [(i : Int)]) = ((p.map fun n => [i64 n]).drop 0).take (((Els.part (.dd []) 0 0).len + (Els.dd (p.map fun n => [i64 n])).len)) ++ [[i64 (i : Int)]] := by
          simp [intsC, Els.len, Els.part, List.take_of_length_le]
        refine CallA_frz 1 [36] ?_
        refine CallA_sub (e' := [(0, .d (intsD p)), (1, .d (i64 (many + 1 : Nat))), (2, .d (i64 below)), (9, .d (i64 i)), (30, .sl 41 1 0 acc.length)]) (h' := [(41, .arr 1 (.dd (acc.map fun q => [intsD q])))])
          (args' := [.d (intsD (p ++ [(i : Int)])), .d (i64 many), .d (i64 below)]) ⟨rfl, rfl, rfl, rfl, rfl, trivial⟩ ⟨rfl, trivial⟩ ?_ ?_
        · exact replL_sl0 (ds := [i64 many, i64 below]) (viewV_sl' (es' := intsC (p ++ [(i : Int)])) rfl hbuf.symm (by simp [intsC, Els.len, Els.part, Els.cons, V.cells]))
        refine CallA_v (ih (p ++ [(i : Int)]) (i + 1) (by omega) (by simp; omega) (by omega) (.inr ⟨p, by simp⟩)) rfl rfl ?_
        conv => whnf
        refine chk_i (by simp [Els.len]) ?_
        conv => whnf
        refine chk_i (by
          show (lenAllD 1 ((listsF below many (p ++ [(i : Int)]) (i + 1)).map fun q => [intsD q]) && true) = true
          rw [lenAllD_map (fun x => ⟨rfl, rfl⟩)]; rfl) ?_
        conv => whnf
        refine chk_i (by simp [Els.len, Els.part]; omega) ?_
        conv => whnf
        refine arith_to ((i + 1 : Nat) : Int) (by omega) (wrap_i64 (by omega)) ?_
        conv => whnf
        refine ⟨(i + 1, acc ++ listsF below many (p ++ [(i : Int)]) (i + 1)), by simp only; omega, ⟨by simp only; omega, by simp only; rw [hm2, List.append_assoc]; exact he⟩, Wk.sub ⟨rfl, rfl, rfl, ?_, rfl, trivial⟩ ⟨?_, trivial⟩⟩
        · simp [PX.get, Els.len, Els.part]
        · simp [PX.get, Els.app, Els.part, List.take_of_length_le]
      · have h2 : ¬ i < below := by have := of_decide_eq_false h2; omega
        rw [show below - i = 0 by omega] at he
        conv => whnf
        simp only [List.range'_zero, List.flatMap_nil, List.append_nil] at he
        rw [he]
        exact RetA_sl rfl (by simp) ⟨⟨rfl, rfl⟩, rfl⟩
end Go.PX

namespace Go.PX
open Go.Proofs

theorem findSome_flatMap {α β γ : Type} (f : α → List β) (g : β → Option γ) : ∀ (l : List α), (l.flatMap f).findSome? g = l.findSome? fun a => (f a).findSome? g
  | [] => rfl
  | a :: r => by
    rw [List.flatMap_cons, List.findSome?_append, findSome_flatMap f g r, List.findSome?_cons]
    cases (f a).findSome? g <;> rfl

theorem listsF_nil (below : Nat) : ∀ (n : Nat) (p : List Int) (start : Nat), below < start + n → 0 < n → listsF below n p start = []
  | 0, p, start, _, h => absurd h (by omega)
  | n + 1, p, start, h, _ => by
    rw [listsF, List.flatMap_eq_nil_iff]
    intro i hi
    rw [List.mem_range'_1] at hi
    cases n with
    | zero => omega
    | succ n => exact listsF_nil below (n + 1) _ _ (by omega) (by omega)

theorem fill_lists {τ : Type} (wf : List Int → τ × Bool) (many : Nat) : ∀ (n : Nat) (p : List Int) (start : Nat), n ≤ many → fillF wf many n p start = (listsF many n p start).findSome? fun q => if (wf q).2 then some (q, (wf q).1) else none
  | 0, p, start, _ => by simp [fillF, listsF]
  | n + 1, p, start, hn => by
    rw [fillF, listsF, findSome_flatMap]
    have hsplit : List.range' start (many - start) = List.range' start (many - n - start) ++ List.range' (start + (many - n - start)) (many - start - (many - n - start)) := by
      rw [List.range'_append_1]; congr 1; omega
    rw [hsplit, List.findSome?_append]
    have h1 : ((List.range' (start + (many - n - start)) (many - start - (many - n - start))).findSome? fun (i : Nat) => (listsF many n (p ++ [(i : Int)]) (i + 1)).findSome? fun q => if (wf q).2 then some (q, (wf q).1) else none) = none := by
      rw [List.findSome?_eq_none_iff]
      intro i hi
      rw [List.mem_range'_1] at hi
      have : listsF many n (p ++ [(i : Int)]) (i + 1) = [] := by
        cases n with
        | zero => omega
        | succ n => exact listsF_nil many (n + 1) _ _ (by omega) (by omega)
      rw [this]; rfl
    rw [h1, Option.or_none]
    congr 1
    funext i
    exact fill_lists wf many n _ _ (by omega)

/-- The first one of lists in order that is wanted, by their number. -/
def firstL (w : List Int → Bool) (many : Nat) : Option (List Int) := (List.range' 0 (many + 1)).findSome? fun (n : Nat) => (listsF many n [] 0).find? w

theorem find_some {α τ : Type} (w : α → Bool) (y : α → τ) : ∀ (l : List α), (l.findSome? fun q => if w q then some (q, y q) else none) = (l.find? w).map fun q => (q, y q)
  | [] => rfl
  | a :: r => by
    rw [List.findSome?_cons, List.find?_cons]
    cases h : w a
    · simp [find_some w y r]
    · simp

theorem findSome_map {α β γ : Type} (f : α → Option β) (g : β → γ) : ∀ (l : List α), (l.findSome? fun a => (f a).map g) = (l.findSome? f).map g
  | [] => rfl
  | a :: r => by
    rw [List.findSome?_cons, List.findSome?_cons]
    cases h : f a with
    | none => simp [findSome_map f g r]
    | some b => simp

theorem findSome_congr {α β : Type} {f g : α → Option β} : ∀ {l : List α}, (∀ a ∈ l, f a = g a) → l.findSome? f = l.findSome? g
  | [], _ => rfl
  | a :: r, h => by
    rw [List.findSome?_cons, List.findSome?_cons, h a (by simp), findSome_congr fun b hb => h b (by simp [hb])]

theorem choose_first {τ : Type} (wf : List Int → τ × Bool) (many : Nat) : chooseF wf many = (firstL (fun q => (wf q).2) many).map fun q => (q, (wf q).1) := by
  unfold chooseF firstL
  rw [← findSome_map]
  refine findSome_congr fun n hn => ?_
  rw [List.mem_range'_1] at hn
  rw [fill_lists wf many n [] 0 (by omega), find_some (fun q => (wf q).2)]

/-- What is wanted of doubts, as the reference says it. -/
def doubtR (s : Shot) (off : Int) (q : List Int) : Bool := (rangeS s off (withoutF q s.gauges 0) s.set).2

theorem doubtsQ_eq (s : Shot) (off : Int) : doubtsQ s off = (firstL (doubtR s off) s.gauges.length).getD [] := by
  unfold doubtsQ
  rw [choose_first]
  have : (fun q => (doubtW s off q).2) = doubtR s off := by
    funext q
    simp only [doubtW, doubtR, rangeS_some]
  rw [this]
  cases firstL (doubtR s off) s.gauges.length <;> rfl

theorem listsF_mem (below : Nat) : ∀ (n : Nat) (p : List Int) (start : Nat), ∀ q ∈ listsF below n p start, q.length = p.length + n
  | 0, p, start, q, h => by rw [listsF, List.mem_singleton] at h; rw [h]; rfl
  | n + 1, p, start, q, h => by
    rw [listsF, List.mem_flatMap] at h
    obtain ⟨i, _, h⟩ := h
    have := listsF_mem below n _ _ q h
    simp at this; omega

theorem fn18 (c : Case) (i : Int) : FnV Try.prog 18 [c.d, i64 i] (.tup [intsD (doubtsE c i), i64 (openE c i)]) := by
  refine fnV_of mixed tysOk Try.func18 rfl (ft := ft18) 2 (by decide +kernel) (by rfl) fun {σ} Y st => ?_
  conv => whnf
  refine CallA_v (ds := [c.d, i64 i]) (fn59 c i) rfl rfl ?_
  by_cases h0 : openE c i = 0
  · obtain ⟨hc, s, hi, hs⟩ := openE_ok h0
    have hR := case_ok hc
    have hm := List.mem_of_getElem? hs
    have hL := hR.look hm
    have hr := (hR.shots s hm).1
    have hlen := hr.len
    have hset := hr.set
    have herr := hR.err
    have hE : doubtsE c i = (firstL (doubtR s c.chain.err) s.gauges.length).getD [] := by rw [← doubtsQ_eq]; simp [doubtsE, h0, hs]
    rw [hE, h0]
    conv => whnf
    refine elemK_i s.cells ⟨hi, by simp [hs]⟩ ?_
    conv => whnf
    obtain ⟨total, ht⟩ : ∃ t, t = firstL (doubtR s c.chain.err) s.gauges.length := ⟨_, rfl⟩
    rw [← ht]
    refine LoopA_p (T := tys) tysOk (by exact drawsB_spec mixed tysOk (by decide +kernel)) (α := Nat)
      (fun n => ⟨[(2, .ptr 2 0), (7, .ptr 7 0), (8, .d (i64 n))], [(2, .box (.dd c.cells)), (7, .box (.dd s.cells))], st⟩)
      (fun n => n ≤ s.gauges.length + 1 ∧ total = (List.range' n (s.gauges.length + 1 - n)).findSome? fun (n : Nat) => (listsF s.gauges.length n [] 0).find? (doubtR s c.chain.err)) (fun n => s.gauges.length + 1 - n) 0
      (Wk.sub ⟨(by first | rfl | (simp only [List.length_map]; rfl) | simp [PX.get]), (by first | rfl | (simp only [List.length_map]; rfl) | simp [PX.get]), (by first | rfl | (simp only [List.length_map]; rfl) | simp [PX.get]), trivial⟩ ⟨(by first | rfl | (simp only [List.length_map]; rfl) | simp [PX.get]), (by first | rfl | (simp only [List.length_map]; rfl) | simp [PX.get]), trivial⟩) ⟨by omega, ht⟩ ?_
    clear ht
    rintro n ⟨hn, he⟩
    conv => whnf
    refine brk_i (fun h2 => ?_) (fun h2 => ?_)
    · have h2 : n ≤ s.gauges.length := by have := of_decide_eq_true h2; simp at this; omega
      obtain ⟨m, hm1⟩ : ∃ m, s.gauges.length + 1 - n = m + 1 := ⟨s.gauges.length - n, by omega⟩
      have hm2 : s.gauges.length + 1 - (n + 1) = m := by omega
      rw [hm1, List.range'_succ, List.findSome?_cons] at he
      conv => whnf
      refine CallA_nil0 ?_
      refine CallA_v (ds := [intsD [], i64 n, i64 s.gauges.length]) (fn65 s.gauges.length (by omega) n [] 0 (by omega) (by simp; omega) (by omega) (.inl ⟨rfl, rfl⟩)) (by simp only [List.length_map]; rfl) rfl ?_
      conv => whnf
      have hlm := listsF_mem s.gauges.length n [] 0
      have hll := listsF_len s.gauges.length (by omega) n [] 0
      have hpow : 8 ^ n ≤ 2097152 := by
        have : 8 ^ n ≤ 8 ^ 7 := Nat.pow_le_pow_right (by omega) (by omega)
        omega
      generalize listsF s.gauges.length n [] 0 = ls at he hlm hll ⊢
      refine LoopA_i (T := tys) tysOk (by exact drawsB_spec mixed tysOk (by decide +kernel)) ls (fun i (_ : Unit) => ⟨[(2, .ptr 2 0), (7, .ptr 7 0), (8, .d (i64 n)), (9, .d (listsD ls)), (10, .d (i64 i))], [(2, .box (.dd c.cells)), (7, .box (.dd s.cells))], st⟩)
        (fun i r _ => (∀ q ∈ r, q.length = ([] : List Int).length + n) ∧ ls.find? (doubtR s c.chain.err) = r.find? (doubtR s c.chain.err)) ()
        (Wk.sub ⟨(by first | rfl | (simp only [List.length_map]; rfl) | simp [PX.get]), (by first | rfl | (simp only [List.length_map]; rfl) | simp [PX.get]), (by first | rfl | (simp only [List.length_map]; rfl) | simp [PX.get]), (by first | rfl | (simp only [List.length_map]; rfl) | simp [PX.get]), (by first | rfl | (simp only [List.length_map]; rfl) | simp [PX.get]), trivial⟩ ⟨(by first | rfl | (simp only [List.length_map]; rfl) | simp [PX.get]), (by first | rfl | (simp only [List.length_map]; rfl) | simp [PX.get]), trivial⟩) ⟨hlm, rfl⟩ ?_ ?_
      · intro j q r _ hx hj hjr ⟨hql, hf⟩
        rw [List.find?_cons] at hf
        have hq := hql q (by simp)
        have hgs : ∀ g ∈ withoutF q s.gauges 0, gaugeOk g := fun g hg => hL.gok g (withoutF_mem g hg)
        have hgl := withoutF_len (q := q) (l := s.gauges) (i := 0)
        conv => whnf
        refine brk_i (fun _ => ?_) (fun h => absurd hj (by simpa using h))
        conv => whnf
        refine elemK_nat hx ?_
        conv => whnf
        refine DrawCall_v (ds := [gaugesD s.gauges, intsD q]) (fn32 s.gauges q (by omega) (by simp at hq; omega)) rfl rfl ?_
        conv => whnf
        refine DrawCall_v (ds := [s.d, i64 c.chain.err, gaugesD (withoutF q s.gauges 0), i64 s.set]) (fn60 s c.chain.err (withoutF q s.gauges 0) s.set (by omega) hL.shot hgs (by omega) (by omega)) rfl rfl ?_
        conv => whnf
        have hd : (rangeS s c.chain.err (withoutF q s.gauges 0) s.set).2 = doubtR s c.chain.err q := rfl
        refine brk_i (fun h3 => ?_) (fun h3 => ?_)
        · rw [hd] at h3
          simp only [h3] at hf
          rw [hf] at he
          conv => whnf
          refine elemK_nat hx ?_
          conv => whnf
          refine RetA_view 0 rfl ⟨⟨?_, rfl⟩, rfl⟩
          rw [he]; rfl
        · rw [hd] at h3
          simp only [h3] at hf
          conv => whnf
          refine arith_in (wrap_i64 (by (try dsimp only); omega)) ?_
          conv => whnf
          exact ⟨(), ⟨fun q hq => hql q (by simp [hq]), hf⟩, (Wk.sub ⟨(by first | rfl | (simp only [List.length_map]; rfl) | simp [PX.get]), (by first | rfl | (simp only [List.length_map]; rfl) | simp [PX.get]), (by first | rfl | (simp only [List.length_map]; rfl) | simp [PX.get]), (by first | rfl | (simp only [List.length_map]; rfl) | simp [PX.get]), (by first | rfl | (simp only [List.length_map]; rfl) | simp [PX.get]), trivial⟩ ⟨(by first | rfl | (simp only [List.length_map]; rfl) | simp [PX.get]), (by first | rfl | (simp only [List.length_map]; rfl) | simp [PX.get]), trivial⟩)⟩
      · intro _ ⟨_, hf⟩
        rw [List.find?_nil] at hf
        rw [hf] at he
        conv => whnf
        refine brk_i (fun h => absurd h (by simp)) (fun _ => ?_)
        conv => whnf
        refine arith_in (wrap_i64 (by (try dsimp only); omega)) ?_
        conv => whnf
        exact ⟨n + 1, by omega, ⟨by omega, by rw [hm2]; exact he⟩, (Wk.sub ⟨(by first | rfl | (simp only [List.length_map]; rfl) | simp [PX.get]), (by first | rfl | (simp only [List.length_map]; rfl) | simp [PX.get]), (by first | rfl | (simp only [List.length_map]; rfl) | simp [PX.get]), trivial⟩ ⟨(by first | rfl | (simp only [List.length_map]; rfl) | simp [PX.get]), (by first | rfl | (simp only [List.length_map]; rfl) | simp [PX.get]), trivial⟩)⟩
    · have h2 : ¬ n ≤ s.gauges.length := by have := of_decide_eq_false h2; simp at this; omega
      rw [show s.gauges.length + 1 - n = 0 by omega] at he
      conv => whnf
      refine RetA_nil0 ?_
      refine RetA_view 0 rfl ⟨⟨?_, rfl⟩, rfl⟩
      rw [he]; rfl
  · have hE : doubtsE c i = [] := by simp [doubtsE, h0]
    rw [hE]
    conv => whnf
    refine brk_i (fun h1 => ?_) (fun h1 => absurd h0 (by simpa using h1))
    conv => whnf
    refine RetA_nil0 ?_
    exact RetA_view 0 rfl ⟨⟨rfl, rfl⟩, rfl⟩
end Go.PX

namespace Go.PX
open Go.Proofs

structure Truth where
  depth : Int
  wind : Int
  current : Int
  swell : Int
  hold : Int
  thick : List Int
def Truth.cells (t : Truth) : List D := [i64 t.depth, i64 t.wind, i64 t.current, i64 t.swell, i64 t.hold, intsD t.thick]
def Truth.d (t : Truth) : D := .agg t.cells
def Ship.cells (s : Ship) : List D := [i64 s.wind, i64 s.current, i64 s.swell, i64 s.yaw]
def Ship.d (s : Ship) : D := .agg s.cells
def forceD (s : Ship) (t : Truth) : D := .agg (s.cells ++ t.cells)

/-- What is needed of a ship and a truth. -/
structure ForceOk (s : Ship) (t : Truth) : Prop where
  wind : 0 ≤ s.wind ∧ s.wind ≤ 10000
  current : 0 ≤ s.current ∧ s.current ≤ 10000
  swell : 0 ≤ s.swell ∧ s.swell ≤ 10000
  yaw : 0 ≤ s.yaw ∧ s.yaw ≤ 20
  tdepth : 0 ≤ t.depth ∧ t.depth ≤ 1000
  twind : 0 ≤ t.wind ∧ t.wind ≤ 80
  tcurrent : 0 ≤ t.current ∧ t.current ≤ 80
  tswell : 0 ≤ t.swell ∧ t.swell ≤ 150
  thold : 0 ≤ t.hold ∧ t.hold ≤ 200000

theorem prod_bd {a b : Int} (A B : Int) (ha : 0 ≤ a ∧ a ≤ A) (hb : 0 ≤ b ∧ b ≤ B) : 0 ≤ a * b ∧ a * b ≤ A * B :=
  ⟨Int.mul_nonneg ha.1 hb.1, Int.mul_le_mul ha.2 hb.2 hb.1 (by omega)⟩

theorem fn99 (s : Ship) (t : Truth) (h : ForceOk s t) : FnV Try.prog 99 [forceD s t] (i64 (t.wind * t.wind * s.wind)) := by
  refine fnV_of mixed tysOk Try.func99 rfl (ft := ft99) 1 (by decide +kernel) (by rfl) fun {σ} Y st => ?_
  conv => whnf
  have h1 := prod_bd 80 80 h.twind h.twind
  have h2 := prod_bd 6400 10000 h1 h.wind
  refine arith_in (wrap_i64 (by (try dsimp only); omega)) ?_
  conv => whnf
  refine arith_in (wrap_i64 (by (try dsimp only); omega)) ?_
  conv => whnf
  exact RetA_view 0 rfl ⟨⟨rfl, rfl⟩, rfl⟩

theorem fn100 (s : Ship) (t : Truth) (h : ForceOk s t) : FnV Try.prog 100 [forceD s t] (i64 (t.current * t.current * s.current)) := by
  refine fnV_of mixed tysOk Try.func100 rfl (ft := ft100) 1 (by decide +kernel) (by rfl) fun {σ} Y st => ?_
  conv => whnf
  have h1 := prod_bd 80 80 h.tcurrent h.tcurrent
  have h2 := prod_bd 6400 10000 h1 h.current
  refine arith_in (wrap_i64 (by (try dsimp only); omega)) ?_
  conv => whnf
  refine arith_in (wrap_i64 (by (try dsimp only); omega)) ?_
  conv => whnf
  exact RetA_view 0 rfl ⟨⟨rfl, rfl⟩, rfl⟩

theorem fn102 (s : Ship) (t : Truth) (h : ForceOk s t) : FnV Try.prog 102 [forceD s t] (i64 (t.swell * s.swell)) := by
  refine fnV_of mixed tysOk Try.func102 rfl (ft := ft102) 1 (by decide +kernel) (by rfl) fun {σ} Y st => ?_
  conv => whnf
  have h1 := prod_bd 150 10000 h.tswell h.swell
  refine arith_in (wrap_i64 (by (try dsimp only); omega)) ?_
  conv => whnf
  exact RetA_view 0 rfl ⟨⟨rfl, rfl⟩, rfl⟩

def upF (n b : Int) : Int := (n + b - 1).tdiv b
def pullF (s : Ship) (t : Truth) (out : Int) : Int := upF ((upF (t.wind * t.wind * s.wind + t.current * t.current * s.current) 100 + t.swell * s.swell) * (1000 + s.yaw * out)) 1000

theorem upF_bd {n b : Int} (N : Int) (hn : 0 ≤ n ∧ n ≤ N) (hb : 1 ≤ b) : 0 ≤ upF n b ∧ upF n b ≤ N + b := by
  unfold upF
  rw [Int.tdiv_eq_ediv_of_nonneg (by omega)]
  constructor
  · exact Int.ediv_nonneg (by omega) (by omega)
  · exact Int.le_trans (Int.ediv_le_self _ (by omega)) (by omega)

theorem pull_bds {s : Ship} {t : Truth} (h : ForceOk s t) {out : Int} (ho : 0 ≤ out ∧ out ≤ 1000) :
    (0 ≤ t.wind * t.wind * s.wind ∧ t.wind * t.wind * s.wind ≤ 64000000) ∧ (0 ≤ t.current * t.current * s.current ∧ t.current * t.current * s.current ≤ 64000000) ∧
    (0 ≤ upF (t.wind * t.wind * s.wind + t.current * t.current * s.current) 100 ∧ upF (t.wind * t.wind * s.wind + t.current * t.current * s.current) 100 ≤ 128000100) ∧
    (0 ≤ t.swell * s.swell ∧ t.swell * s.swell ≤ 1500000) ∧ (0 ≤ s.yaw * out ∧ s.yaw * out ≤ 20000) ∧
    (0 ≤ (upF (t.wind * t.wind * s.wind + t.current * t.current * s.current) 100 + t.swell * s.swell) * (1000 + s.yaw * out) ∧ (upF (t.wind * t.wind * s.wind + t.current * t.current * s.current) 100 + t.swell * s.swell) * (1000 + s.yaw * out) ≤ 130000000 * 21000) ∧
    (0 ≤ pullF s t out ∧ pullF s t out ≤ 3000000000000) := by
  have h1 := prod_bd 6400 10000 (prod_bd 80 80 h.twind h.twind) h.wind
  have h2 := prod_bd 6400 10000 (prod_bd 80 80 h.tcurrent h.tcurrent) h.current
  have h3 := upF_bd (n := t.wind * t.wind * s.wind + t.current * t.current * s.current) (b := 100) 128000000 (by omega) (by omega)
  have h4 := prod_bd 150 10000 h.tswell h.swell
  have h5 := prod_bd 20 1000 h.yaw ho
  have h6 := prod_bd (a := upF (t.wind * t.wind * s.wind + t.current * t.current * s.current) 100 + t.swell * s.swell) (b := 1000 + s.yaw * out) 130000000 21000 (by omega) (by omega)
  have h7 := upF_bd (n := (upF (t.wind * t.wind * s.wind + t.current * t.current * s.current) 100 + t.swell * s.swell) * (1000 + s.yaw * out)) (b := 1000) (130000000 * 21000) h6 (by omega)
  refine ⟨by omega, by omega, by omega, by omega, by omega, h6, ?_⟩
  unfold pullF
  omega

theorem fn73 (s : Ship) (t : Truth) (out : Int) (h : ForceOk s t) (ho : 0 ≤ out ∧ out ≤ 1000) : FnV Try.prog 73 [forceD s t, i64 out] (i64 (pullF s t out)) := by
  refine fnV_of mixed tysOk Try.func73 rfl (ft := ft73) 2 (by decide +kernel) (by rfl) fun {σ} Y st => ?_
  conv => whnf
  obtain ⟨b1, b2, b3, b4, b5, b6, b7⟩ := pull_bds h ho
  refine LoopA_p (T := tys) tysOk (by exact drawsB_spec mixed tysOk (by decide +kernel)) (α := Nat × Int)
    (fun x => ⟨[(1, .d (i64 out)), (2, .ptr 2 0), (5, .d (i64 x.2)), (12, .d (.agg [.mth 99 [forceD s t], .mth 100 [forceD s t]])), (13, .d (i64 x.1))], [(2, .box (.dd (s.cells ++ t.cells)))], st⟩)
    (fun x => (x.1 = 0 ∧ x.2 = 0) ∨ (x.1 = 1 ∧ x.2 = t.wind * t.wind * s.wind) ∨ (x.1 = 2 ∧ x.2 = t.wind * t.wind * s.wind + t.current * t.current * s.current)) (fun x => 2 - x.1) (0, 0)
    (Wk.sub ⟨(by first | rfl | (simp only [List.length_map]; rfl) | simp [PX.get]), (by first | rfl | (simp only [List.length_map]; rfl) | simp [PX.get]), (by first | rfl | (simp only [List.length_map]; rfl) | simp [PX.get]), (by first | rfl | (simp only [List.length_map]; rfl) | simp [PX.get]), (by first | rfl | (simp only [List.length_map]; rfl) | simp [PX.get]), trivial⟩ ⟨(by first | rfl | (simp only [List.length_map]; rfl) | simp [PX.get]), trivial⟩) (.inl ⟨rfl, rfl⟩) ?_
  rintro ⟨n, sum⟩ hn
  simp only at hn
  rcases hn with ⟨rfl, rfl⟩ | ⟨rfl, rfl⟩ | ⟨rfl, rfl⟩
  · conv => whnf
    refine CallA_v (fn99 s t h) rfl rfl ?_
    conv => whnf
    refine arith_in (wrap_i64 (by (try dsimp only); omega)) ?_
    conv => whnf
    refine arith_in (wrap_i64 (by (try dsimp only); omega)) ?_
    conv => whnf
    refine ⟨(1, t.wind * t.wind * s.wind), by simp, .inr (.inl ⟨rfl, rfl⟩), Wk.sub ⟨rfl, rfl, by simp [PX.get], rfl, rfl, trivial⟩ ⟨rfl, trivial⟩⟩
  · conv => whnf
    refine CallA_v (fn100 s t h) rfl rfl ?_
    conv => whnf
    refine arith_in (wrap_i64 (by (try dsimp only); omega)) ?_
    conv => whnf
    refine arith_in (wrap_i64 (by (try dsimp only); omega)) ?_
    conv => whnf
    refine ⟨(2, t.wind * t.wind * s.wind + t.current * t.current * s.current), by simp, .inr (.inr ⟨rfl, rfl⟩), (Wk.sub ⟨(by first | rfl | (simp only [List.length_map]; rfl) | simp [PX.get]), (by first | rfl | (simp only [List.length_map]; rfl) | simp [PX.get]), (by first | rfl | (simp only [List.length_map]; rfl) | simp [PX.get]), (by first | rfl | (simp only [List.length_map]; rfl) | simp [PX.get]), (by first | rfl | (simp only [List.length_map]; rfl) | simp [PX.get]), trivial⟩ ⟨(by first | rfl | (simp only [List.length_map]; rfl) | simp [PX.get]), trivial⟩)⟩
  · conv => whnf
    refine DrawCall_v (ds := [i64 (t.wind * t.wind * s.wind + t.current * t.current * s.current), i64 100]) (fn101 _ 100 (by omega) (by omega)) rfl rfl ?_
    conv => whnf
    refine DrawCall_v (ds := [forceD s t]) (fn102 s t h) rfl rfl ?_
    conv => whnf
    have e1 : (t.wind * t.wind * s.wind + t.current * t.current * s.current + 100 - 1).tdiv 100 = upF (t.wind * t.wind * s.wind + t.current * t.current * s.current) 100 := rfl
    rw [e1]
    refine arith_in (wrap_i64 (by omega)) ?_
    conv => whnf
    refine arith_in (wrap_i64 (by (try dsimp only); omega)) ?_
    conv => whnf
    refine arith_in (wrap_i64 (by (try dsimp only); omega)) ?_
    conv => whnf
    refine arith_in (wrap_i64 (by omega)) ?_
    conv => whnf
    refine CallA_v (ds := [i64 ((upF (t.wind * t.wind * s.wind + t.current * t.current * s.current) 100 + t.swell * s.swell) * (1000 + s.yaw * out)), i64 1000]) (fn101 _ 1000 (by omega) (by omega)) rfl rfl ?_
    conv => whnf
    exact RetA_view 0 rfl ⟨⟨rfl, rfl⟩, rfl⟩

theorem fn82 (s : Ship) (t : Truth) (out : Int) (h : ForceOk s t) (ho : 0 ≤ out ∧ out ≤ 1000) : FnV Try.prog 82 [s.d, t.d, i64 out] (i64 (pullF s t out)) := by
  refine fnV_of mixed tysOk Try.func82 rfl (ft := ft82) 3 (by decide +kernel) (by rfl) fun {σ} Y st => ?_
  conv => whnf
  obtain ⟨b1, b2, b3, b4, b5, b6, b7⟩ := pull_bds h ho
  have c1 := prod_bd 80 80 h.twind h.twind
  have c2 := prod_bd 80 80 h.tcurrent h.tcurrent
  refine arith_in (wrap_i64 (by (try dsimp only); omega)) ?_
  conv => whnf
  refine arith_in (wrap_i64 (by (try dsimp only); omega)) ?_
  conv => whnf
  refine arith_in (wrap_i64 (by (try dsimp only); omega)) ?_
  conv => whnf
  refine arith_in (wrap_i64 (by (try dsimp only); omega)) ?_
  conv => whnf
  refine arith_in (wrap_i64 (by (try dsimp only); omega)) ?_
  conv => whnf
  refine DrawCall_v (ds := [i64 (t.wind * t.wind * s.wind + t.current * t.current * s.current), i64 100]) (fn83 _ 100 (by omega) (by omega)) rfl rfl ?_
  conv => whnf
  have e1 : (t.wind * t.wind * s.wind + t.current * t.current * s.current + 100 - 1).tdiv 100 = upF (t.wind * t.wind * s.wind + t.current * t.current * s.current) 100 := rfl
  rw [e1]
  refine arith_in (wrap_i64 (by (try dsimp only); omega)) ?_
  conv => whnf
  refine arith_in (wrap_i64 (by omega)) ?_
  conv => whnf
  refine arith_in (wrap_i64 (by (try dsimp only); omega)) ?_
  conv => whnf
  refine arith_in (wrap_i64 (by (try dsimp only); omega)) ?_
  conv => whnf
  refine arith_in (wrap_i64 (by omega)) ?_
  conv => whnf
  refine DrawCall_v (ds := [i64 ((upF (t.wind * t.wind * s.wind + t.current * t.current * s.current) 100 + t.swell * s.swell) * (1000 + s.yaw * out)), i64 1000]) (fn83 _ 1000 (by omega) (by omega)) rfl rfl ?_
  conv => whnf
  exact RetA_view 0 rfl ⟨⟨rfl, rfl⟩, rfl⟩
end Go.PX
