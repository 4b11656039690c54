import Derived.Test.YtboaolnlajoanaaGreatDoorPxO
import Derived.Test.YtboaolnlajoanaaGreatDoorPxL
import Derived.Test.YtboaolnlajoanaaGreatDoorPxN
import Derived.Test.YtboaolnlajoanaaGreatDoorPxM
set_option linter.all false
set_option maxRecDepth 10000
namespace Go.PX
open Go.Proofs
theorem dig_call {d : Nat} {b : UInt8} (h : ∀ w : World, Calls Tryz.prog 115 #[.int .i64 (d : Int)] w fun e w' => e = .returned (.string ⟨#[b]⟩) ∧ w' = w.alloc (.cells #[.int .u8 b.toNat] 5)) : FnV Tryz.prog 115 [i64 (d : Int)] (.str ⟨#[b]⟩) := by
 refine fnV_calls (enters Tryz.func115 rfl (by decide +kernel)) fun vals w F hl hf hr => ?_
 obtain ⟨x, l', h1, h2, h3⟩ := hr
 have h2 : x = .int .i64 (d : Int) := h2
 have h3 : l' = [] := h3
 subst h2 h3
 have hv : vals = #[.int .i64 (d : Int)] := Array.ext' h1
 subst hv
 refine (h w).mono ?_
 rintro e w' ⟨rfl, rfl⟩
 refine ⟨_, rfl, ⟨rfl, rfl, rfl, by simp, fun b hb => ?_⟩, F, fun _ _ => rfl, fun b hb => hf b ?_, rfl⟩
 ·show (w.heap.push _)[b]? = _
  rw [Array.getElem?_push_lt hb, Array.getElem?_eq_getElem hb]
 ·have : (w.alloc (.cells #[.int .u8 (b : Nat)] 5)).heap.size = w.heap.size + 1 := by simp
  simp at hb; omega
theorem dig_any : ∀ d : Nat, d < 10 → ∃ b : UInt8, numB (d : Int) = ⟨#[b]⟩ ∧ ∀ w : World, Calls Tryz.prog 115 #[.int .i64 (d : Int)] w fun e w' => e = .returned (.string ⟨#[b]⟩) ∧ w' = w.alloc (.cells #[.int .u8 b.toNat] 5)
 | 0, _ => ⟨48, rfl, dig_0⟩
 | 1, _ => ⟨49, rfl, dig_1⟩
 | 2, _ => ⟨50, rfl, dig_2⟩
 | 3, _ => ⟨51, rfl, dig_3⟩
 | 4, _ => ⟨52, rfl, dig_4⟩
 | 5, _ => ⟨53, rfl, dig_5⟩
 | 6, _ => ⟨54, rfl, dig_6⟩
 | 7, _ => ⟨55, rfl, dig_7⟩
 | 8, _ => ⟨56, rfl, dig_8⟩
 | 9, _ => ⟨57, rfl, dig_9⟩
 | d + 10, h => absurd h (by omega)
theorem ch115_one (d : Nat) (hd : d < 10) : FnV Tryz.prog 115 [i64 (d : Int)] (.str (numB d)) := by
 obtain ⟨b, h1, h2⟩ := dig_any d hd
 rw [h1]
 exact dig_call h2
theorem numB_step {n : Int} (h0 : 10 ≤ n) (h1 : n ≤ 1000000000000000000) : numB n = numB (n / 10) ++ numB (n % 10) := by
 have e : ∀ m : Int, 0 ≤ m → m ≤ 1000000000000000000 → numL m = Lib.decDigits m.toNat := by
  intro m h2 h3
  rw [numL_eq ⟨by omega, h3⟩]
  unfold Lib.itoa
  rw [if_neg (by omega)]
 have e2 : (n / 10).toNat = n.toNat / 10 := by omega
 have e3 : (n % 10).toNat = n.toNat % 10 := by omega
 have key : numL n = numL (n / 10) ++ numL (n % 10) := by
  rw [e n (by omega) h1, e (n / 10) (by omega) (by omega), e (n % 10) (by omega) (by omega), e2, e3]
  conv => lhs; rw [Lib.decDigits, dif_neg (by omega)]
  rw [Lib.decDigits_one (show n.toNat % 10 < 10 by omega)]
 unfold numB
 rw [key]
 apply ByteArray.ext
 simp
theorem ch115s (n : Int) (h0 : 10 ≤ n) (h1 : n ≤ 1000000000000000000) (ha : FnV Tryz.prog 115 [i64 (n / 10)] (.str (numB (n / 10)))) (hb : FnV Tryz.prog 115 [i64 (n % 10)] (.str (numB (n % 10)))) : FnV Tryz.prog 115 [i64 n] (.str (numB n)) := by
 refine fnV_of mixed tysOk Tryz.func115 rfl (ft := ft115) 1 (by decide +kernel) (by rfl) fun {σ} Y st => ?_
 conv=>whnf
 refine brk_i (fun h => absurd h (by simp; omega)) (fun _ => ?_)
 conv=>whnf
 refine brk_i (fun h => absurd h (by simp; omega)) (fun _ => ?_)
 have hq : n.tdiv 10 = n / 10 := Int.tdiv_eq_ediv_of_nonneg (by omega)
 have hr : n.tmod 10 = n % 10 := Int.tmod_eq_emod_of_nonneg (by omega)
 conv=>whnf
 refine arith_to (n / 10) hq (wrap_i64 (by omega)) ?_
 conv=>whnf
 refine CallA_v (ds := [i64 (n / 10)]) ha rfl rfl ?_
 conv=>whnf
 rw [hr]
 refine CallA_v (ds := [i64 (n % 10)]) hb rfl rfl ?_
 conv=>whnf
 have s1 := numB_size (n / 10)
 have s2 := numB_size (n % 10)
 refine brk_i (fun _ => ?_) (fun h => absurd h (by simp; omega))
 rw [numB_step h0 h1]
 conv=>whnf
 exact RetA_view 0 rfl ⟨⟨rfl, rfl⟩, rfl⟩
theorem ch115_pos (k : Nat) : ∀ n : Int, 0 ≤ n → n < 10 ^ (k + 1) → n ≤ 1000000000000000000 → FnV Tryz.prog 115 [i64 n] (.str (numB n)) := by
 induction k with
 | zero =>
  intro n h0 h1 _
  obtain ⟨d, rfl⟩ : ∃ d : Nat, n = d := ⟨n.toNat, by omega⟩
  exact fun {σ} => ch115_one d (by omega)
 | succ k ih =>
  intro n h0 h1 h2
  by_cases h : n < 10
  ·obtain ⟨d, rfl⟩ : ∃ d : Nat, n = d := ⟨n.toNat, by omega⟩
   exact ch115_one d (by omega)
  ·have ha : FnV Tryz.prog 115 [i64 (n / 10)] (.str (numB (n / 10))) := fun {σ} => ih (n / 10) (by omega) (by rw [Int.pow_succ] at h1; omega) (by omega)
   have hb : FnV Tryz.prog 115 [i64 (n % 10)] (.str (numB (n % 10))) := by
    obtain ⟨d, hd⟩ : ∃ d : Nat, n % 10 = d := ⟨(n % 10).toNat, by omega⟩
    rw [hd]
    exact fun {σ} => ch115_one d (by omega)
   exact ch115s n (by omega) h2 ha hb
theorem numB_neg {n : Int} (h : n < 0) (h1 : -1000000000000000000 ≤ n) : numB n = ⟨#[45]⟩ ++ numB (-n) := by
 have e : numL n = 45 :: numL (-n) := by
  unfold numL
  rw [if_pos h, if_neg (by omega)]
  congr 2; omega
 unfold numB
 rw [e]
 apply ByteArray.ext
 simp
theorem ch115_nn (m : Int) (h0 : 0 ≤ m) (h1 : m ≤ 1000000000000000000) : FnV Tryz.prog 115 [i64 m] (.str (numB m)) := by
 have h2 : (10 : Int) ^ (18 + 1) = 10000000000000000000 := by decide
 exact fun {σ} => ch115_pos 18 m h0 (by omega) h1
theorem ch115_mi (n : Int) (h : n < 0) (h1 : -1000000000000000000 ≤ n) : FnV Tryz.prog 115 [i64 n] (.str (⟨#[45]⟩ ++ numB (-n))) := by
 refine fnV_of mixed tysOk Tryz.func115 rfl (ft := ft115) 1 (by decide +kernel) (by rfl) fun {σ} Y st => ?_
 conv=>whnf
 refine brk_i (fun _ => ?_) (fun h => absurd h (by simp; omega))
 conv=>whnf
 refine arith_to ((-n)) (by (try dsimp only); omega) (wrap_i64 (by (try dsimp only); omega)) ?_
 conv=>whnf
 refine CallA_v (ds := [i64 (-n)]) (ch115_nn (-n) (by omega) (by omega)) rfl rfl ?_
 conv=>whnf
 have s1 := numB_size (-n)
 refine brk_i (fun _ => ?_) (fun h => absurd (of_decide_eq_false h) (by show ¬ ¬ (1 + (numB (-n)).size ≤ 9223372036854775807); omega))
 conv=>whnf
 exact RetA_view 0 rfl ⟨⟨rfl, rfl⟩, rfl⟩
theorem ch115 (n : Int) (h : In18 n) : FnV Tryz.prog 115 [i64 n] (.str (numB n)) := by
 unfold In18 at h
 by_cases h0 : 0 ≤ n
 ·exact ch115_nn n h0 h.2
 ·rw [numB_neg (by omega) h.1]
  exact ch115_mi n (by omega) h.1
end Go.PX
namespace Go.PX
open Go.Proofs
theorem lit_size (l : List UInt8) : (⟨l.toArray⟩ : ByteArray).size = l.length := by
 show l.toArray.size = _
 simp
set_option maxHeartbeats 1000000 in
theorem ch87 (c : Cht) (hR : ChtR c) (hN : NmR c) : FnV Tryz.prog 87 [c.d] (.str (chtT c)) := by
 refine fnV_of mixed tysOk Tryz.func87 rfl (ft := ft87) 1 (by decide +kernel) (by rfl) fun {σ} Y st => ?_
 conv=>whnf
 refine LoopA_i (T := tys) tysOk (by exact drawsB_spec mixed tysOk (by decide +kernel)) c.marks (fun i (acc : ByteArray) => ⟨[(1, .ptr 1 0), (3, .d (.str acc)), (4, .d (i64 i))], [(1, .box (.dd c.cells))], st⟩) (fun i r acc => acc ++ catB (r.map markT) = catB (c.marks.map markT)) .empty (Wk.sub ⟨(by first | rfl | (simp only [List.length_map]; rfl) | simp [PX.get]), (by first | rfl | (simp only [List.length_map]; rfl) | simp [PX.get]), (by first | rfl | (simp only [List.length_map]; rfl) | simp [PX.get]), trivial⟩ ⟨(by first | rfl | (simp only [List.length_map]; rfl) | simp [PX.get]), trivial⟩) (by simp) ?_ ?_
 ·rintro i m r acc hmi hi hir hacc
  have hmm := List.mem_of_getElem? hmi
  obtain ⟨hp, hpt⟩ := hR.mark m hmm
  have hx18 : In18 m.at'.x := by have := hp.x; unfold In18; omega
  have hy18 : In18 m.at'.y := by have := hp.y; unfold In18; omega
  have hnm := hN.mark m hmm
  have hml := hR.marks
  have hasz : acc.size ≤ 20000 := by
   have h1 := congrArg ByteArray.size hacc
   rw [ba_size] at h1
   have h2 := chtT_size hR hN
   rw [chtT, ba_size] at h2
   omega
  have sx := numB_size m.at'.x
  have sy := numB_size m.at'.y
  conv=>whnf
  refine brk_i (fun _ => ?_) (fun h => absurd hi (by simpa using h))
  conv=>whnf
  refine elemK_nat hmi ?_
  conv=>whnf
  refine brk_i (fun _ => ?_) (fun h => absurd (of_decide_eq_false h) (by simp only [ba_size, lit_size, List.length_cons, List.length_nil]; omega))
  conv=>whnf
  refine brk_i (fun _ => ?_) (fun h => absurd (of_decide_eq_false h) (by simp only [ba_size, lit_size, List.length_cons, List.length_nil]; omega))
  conv=>whnf
  refine brk_i (fun _ => ?_) (fun h => absurd (of_decide_eq_false h) (by simp only [ba_size, lit_size, List.length_cons, List.length_nil]; omega))
  conv=>whnf
  refine DrawCall_v (ds := [i64 m.at'.x]) (ch115 _ hx18) rfl rfl ?_
  conv=>whnf
  refine brk_i (fun _ => ?_) (fun h => absurd (of_decide_eq_false h) (by simp only [ba_size, lit_size, List.length_cons, List.length_nil]; omega))
  conv=>whnf
  refine brk_i (fun _ => ?_) (fun h => absurd (of_decide_eq_false h) (by simp only [ba_size, lit_size, List.length_cons, List.length_nil]; omega))
  conv=>whnf
  refine DrawCall_v (ds := [i64 m.at'.y]) (ch115 _ hy18) rfl rfl ?_
  conv=>whnf
  refine brk_i (fun _ => ?_) (fun h => absurd (of_decide_eq_false h) (by simp only [ba_size, lit_size, List.length_cons, List.length_nil]; omega))
  conv=>whnf
  have hJ : (acc ++ ⟨#[109, 97, 114, 107, 32]⟩ ++ m.name ++ ⟨#[32]⟩ ++ numB m.at'.x ++ ⟨#[32]⟩ ++ numB m.at'.y) ++ (numsB (paintsN m.paints) ++ nlB) = acc ++ markT m := by
   have e : (⟨#[109, 97, 114, 107, 32]⟩ : ByteArray) = markW ++ spB := by decide
   rw [e]
   show _ = acc ++ lineB markW m.name (m.at'.x :: m.at'.y :: paintsN m.paints)
   simp only [lineB, headB, numsB, ba_assoc]
   rfl
  generalize (acc ++ ⟨#[109, 97, 114, 107, 32]⟩ ++ m.name ++ ⟨#[32]⟩ ++ numB m.at'.x ++ ⟨#[32]⟩ ++ numB m.at'.y : ByteArray) = s0 at hJ ⊢
  have hpl := (paintE_ok hpt).1
  have hpi := (paintE_ok hpt).2
  have hmn : (markN m).length = 2 + 2 * m.paints.length := by simp [markN, paintsN_len]; omega
  have hms : (markT m).size ≤ 1000 := by
   have h2 := (lineB_size markW m.name (markN m)).1
   have : markW.size = 4 := rfl
   show (lineB markW m.name (markN m)).size ≤ _
   omega
  refine LoopA_i (T := tys) tysOk (by exact drawsB_spec mixed tysOk (by decide +kernel)) m.paints (fun j (s : ByteArray) => ⟨[(1, .ptr 1 0), (3, .d (.str s)), (4, .d (i64 i)), (5, .ptr 5 0), (6, .d (i64 j))], [(1, .box (.dd c.cells)), (5, .box (.dd m.cells))], st⟩) (fun j rr s => s ++ (numsB (paintsN rr) ++ nlB) = acc ++ markT m) s0 (Wk.sub ⟨(by first | rfl | (simp only [List.length_map]; rfl) | simp [PX.get]), (by first | rfl | (simp only [List.length_map]; rfl) | simp [PX.get]), (by first | rfl | (simp only [List.length_map]; rfl) | simp [PX.get]), (by first | rfl | (simp only [List.length_map]; rfl) | simp [PX.get]), (by first | rfl | (simp only [List.length_map]; rfl) | simp [PX.get]), trivial⟩ ⟨(by first | rfl | (simp only [List.length_map]; rfl) | simp [PX.get]), (by first | rfl | (simp only [List.length_map]; rfl) | simp [PX.get]), trivial⟩) hJ ?_ ?_
  ·rintro j p rr s hpj hj hjr hs
   have hss : s.size ≤ 30000 := by
    have h1 := congrArg ByteArray.size hs
    rw [ba_size, ba_size acc] at h1
    omega
   have hp18 := hpi p (List.mem_of_getElem? hpj)
   have sd := numB_size p.day
   have sc := numB_size p.colour
   conv=>whnf
   refine brk_i (fun _ => ?_) (fun h => absurd hj (by simpa using h))
   conv=>whnf
   refine brk_i (fun _ => ?_) (fun h => absurd (of_decide_eq_false h) (by simp only [ba_size, lit_size, List.length_cons, List.length_nil]; omega))
   conv=>whnf
   refine elemK_nat hpj ?_
   conv=>whnf
   refine DrawCall_v (ds := [i64 p.day]) (ch115 _ (by unfold In18; omega)) rfl rfl ?_
   conv=>whnf
   refine brk_i (fun _ => ?_) (fun h => absurd (of_decide_eq_false h) (by simp only [ba_size, lit_size, List.length_cons, List.length_nil]; omega))
   conv=>whnf
   refine brk_i (fun _ => ?_) (fun h => absurd (of_decide_eq_false h) (by simp only [ba_size, lit_size, List.length_cons, List.length_nil]; omega))
   conv=>whnf
   refine elemK_nat hpj ?_
   conv=>whnf
   refine DrawCall_v (ds := [i64 p.colour]) (ch115 _ (by unfold In18; omega)) rfl rfl ?_
   conv=>whnf
   refine brk_i (fun _ => ?_) (fun h => absurd (of_decide_eq_false h) (by simp only [ba_size, lit_size, List.length_cons, List.length_nil]; omega))
   conv=>whnf
   refine arith_in (wrap_i64 (by (try dsimp only); omega)) ?_
   conv=>whnf
   exact ⟨s ++ ⟨#[32]⟩ ++ numB p.day ++ ⟨#[32]⟩ ++ numB p.colour, by rw [← hs]; show _ = s ++ ((spB ++ numB p.day) ++ ((spB ++ numB p.colour) ++ numsB (paintsN rr)) ++ nlB); simp only [ba_assoc]; rfl, (Wk.sub ⟨(by first | rfl | (simp only [List.length_map]; rfl) | simp [PX.get]), (by first | rfl | (simp only [List.length_map]; rfl) | simp [PX.get]), (by first | rfl | (simp only [List.length_map]; rfl) | simp [PX.get]), (by first | rfl | (simp only [List.length_map]; rfl) | simp [PX.get]), (by first | rfl | (simp only [List.length_map]; rfl) | simp [PX.get]), trivial⟩ ⟨(by first | rfl | (simp only [List.length_map]; rfl) | simp [PX.get]), (by first | rfl | (simp only [List.length_map]; rfl) | simp [PX.get]), trivial⟩)⟩
  ·rintro s hs
   have hs : s ++ nlB = acc ++ markT m := by rw [← hs]; show _ = s ++ (ByteArray.empty ++ nlB); simp
   have hss : s.size ≤ 30000 := by
    have h1 := congrArg ByteArray.size hs
    rw [ba_size, ba_size acc] at h1
    omega
   conv=>whnf
   refine brk_i (fun h => absurd h (by simp)) (fun _ => ?_)
   conv=>whnf
   refine brk_i (fun _ => ?_) (fun h => absurd (of_decide_eq_false h) (by simp only [ba_size, lit_size, List.length_cons, List.length_nil]; omega))
   conv=>whnf
   refine arith_in (wrap_i64 (by (try dsimp only); omega)) ?_
   conv=>whnf
   exact ⟨acc ++ markT m, by rw [← hacc, List.map_cons, catB, ba_assoc], Wk.sub ⟨rfl, congrArg (fun z => some (V.d (.str z))) hs, congrArg (fun z => some (V.d (i64 z))) (by omega), trivial⟩ ⟨rfl, trivial⟩⟩
 ·rintro acc0 hacc0
  have hacc0 : acc0 = catB (c.marks.map markT) := by simpa [catB] using hacc0
  conv=>whnf
  refine brk_i (fun h => absurd h (by simp)) (fun _ => ?_)
  conv=>whnf
  refine LoopA_i (T := tys) tysOk (by exact drawsB_spec mixed tysOk (by decide +kernel)) c.sands (fun i (acc : ByteArray) => ⟨[(1, .ptr 1 0), (3, .d (.str acc)), (7, .d (i64 i))], [(1, .box (.dd c.cells))], st⟩) (fun i r acc => acc ++ catB (r.map sandT) = chtT c) acc0 (Wk.sub ⟨(by first | rfl | (simp only [List.length_map]; rfl) | simp [PX.get]), (by first | rfl | (simp only [List.length_map]; rfl) | simp [PX.get]), (by first | rfl | (simp only [List.length_map]; rfl) | simp [PX.get]), trivial⟩ ⟨(by first | rfl | (simp only [List.length_map]; rfl) | simp [PX.get]), trivial⟩) (by rw [hacc0]; rfl) ?_ ?_
  ·rintro i m r acc hmi hi hir hacc
   have hmm := List.mem_of_getElem? hmi
   have hS := hR.sand m hmm
   have hnm := hN.sand m hmm
   have hml := hR.sands
   have hx := hS.x
   have hy := hS.y
   have h1 : In18 m.moves.x.lo := by unfold In18; omega
   have h2 : In18 m.moves.x.hi := by unfold In18; omega
   have h3 : In18 m.moves.y.lo := by unfold In18; omega
   have h4 : In18 m.moves.y.hi := by unfold In18; omega
   have hasz : acc.size ≤ 20000 := by
    have h1 := congrArg ByteArray.size hacc
    rw [ba_size] at h1
    have h2 := chtT_size hR hN
    omega
   have s1 := numB_size m.moves.x.lo
   have s2 := numB_size m.moves.x.hi
   have s3 := numB_size m.moves.y.lo
   have s4 := numB_size m.moves.y.hi
   conv=>whnf
   refine brk_i (fun _ => ?_) (fun h => absurd hi (by simpa using h))
   conv=>whnf
   refine elemK_nat hmi ?_
   conv=>whnf
   refine brk_i (fun _ => ?_) (fun h => absurd (of_decide_eq_false h) (by simp only [ba_size, lit_size, List.length_cons, List.length_nil]; omega))
   conv=>whnf
   refine brk_i (fun _ => ?_) (fun h => absurd (of_decide_eq_false h) (by simp only [ba_size, lit_size, List.length_cons, List.length_nil]; omega))
   conv=>whnf
   refine brk_i (fun _ => ?_) (fun h => absurd (of_decide_eq_false h) (by simp only [ba_size, lit_size, List.length_cons, List.length_nil]; omega))
   conv=>whnf
   refine DrawCall_v (ds := [i64 m.moves.x.lo]) (ch115 _ h1) rfl rfl ?_
   conv=>whnf
   refine brk_i (fun _ => ?_) (fun h => absurd (of_decide_eq_false h) (by simp only [ba_size, lit_size, List.length_cons, List.length_nil]; omega))
   conv=>whnf
   refine brk_i (fun _ => ?_) (fun h => absurd (of_decide_eq_false h) (by simp only [ba_size, lit_size, List.length_cons, List.length_nil]; omega))
   conv=>whnf
   refine DrawCall_v (ds := [i64 m.moves.x.hi]) (ch115 _ h2) rfl rfl ?_
   conv=>whnf
   refine brk_i (fun _ => ?_) (fun h => absurd (of_decide_eq_false h) (by simp only [ba_size, lit_size, List.length_cons, List.length_nil]; omega))
   conv=>whnf
   refine brk_i (fun _ => ?_) (fun h => absurd (of_decide_eq_false h) (by simp only [ba_size, lit_size, List.length_cons, List.length_nil]; omega))
   conv=>whnf
   refine DrawCall_v (ds := [i64 m.moves.y.lo]) (ch115 _ h3) rfl rfl ?_
   conv=>whnf
   refine brk_i (fun _ => ?_) (fun h => absurd (of_decide_eq_false h) (by simp only [ba_size, lit_size, List.length_cons, List.length_nil]; omega))
   conv=>whnf
   refine brk_i (fun _ => ?_) (fun h => absurd (of_decide_eq_false h) (by simp only [ba_size, lit_size, List.length_cons, List.length_nil]; omega))
   conv=>whnf
   refine DrawCall_v (ds := [i64 m.moves.y.hi]) (ch115 _ h4) rfl rfl ?_
   conv=>whnf
   refine brk_i (fun _ => ?_) (fun h => absurd (of_decide_eq_false h) (by simp only [ba_size, lit_size, List.length_cons, List.length_nil]; omega))
   conv=>whnf
   have hJ : (acc ++ ⟨#[115, 97, 110, 100, 32]⟩ ++ m.name ++ ⟨#[32]⟩ ++ numB m.moves.x.lo ++ ⟨#[32]⟩ ++ numB m.moves.x.hi ++ ⟨#[32]⟩ ++ numB m.moves.y.lo ++ ⟨#[32]⟩ ++ numB m.moves.y.hi) ++ (numsB (ptsN m.corners) ++ nlB) = acc ++ sandT m := by
    have e : (⟨#[115, 97, 110, 100, 32]⟩ : ByteArray) = sandW ++ spB := by decide
    rw [e]
    show _ = acc ++ lineB sandW m.name (m.moves.x.lo :: m.moves.x.hi :: m.moves.y.lo :: m.moves.y.hi :: ptsN m.corners)
    simp only [lineB, headB, numsB, ba_assoc]
    rfl
   generalize (acc ++ ⟨#[115, 97, 110, 100, 32]⟩ ++ m.name ++ ⟨#[32]⟩ ++ numB m.moves.x.lo ++ ⟨#[32]⟩ ++ numB m.moves.x.hi ++ ⟨#[32]⟩ ++ numB m.moves.y.lo ++ ⟨#[32]⟩ ++ numB m.moves.y.hi : ByteArray) = s0 at hJ ⊢
   have hpl := hS.len
   have hmn : (sandN m).length = 4 + 2 * m.corners.length := by simp [sandN, ptsN_len]; omega
   have hms : (sandT m).size ≤ 1000 := by
    have h2 := (lineB_size sandW m.name (sandN m)).1
    have : sandW.size = 4 := rfl
    show (lineB sandW m.name (sandN m)).size ≤ _
    omega
   refine LoopA_i (T := tys) tysOk (by exact drawsB_spec mixed tysOk (by decide +kernel)) m.corners (fun j (s : ByteArray) => ⟨[(1, .ptr 1 0), (3, .d (.str s)), (7, .d (i64 i)), (8, .ptr 8 0), (9, .d (i64 j))], [(1, .box (.dd c.cells)), (8, .box (.dd m.cells))], st⟩) (fun j rr s => s ++ (numsB (ptsN rr) ++ nlB) = acc ++ sandT m) s0 (Wk.sub ⟨(by first | rfl | (simp only [List.length_map]; rfl) | simp [PX.get]), (by first | rfl | (simp only [List.length_map]; rfl) | simp [PX.get]), (by first | rfl | (simp only [List.length_map]; rfl) | simp [PX.get]), (by first | rfl | (simp only [List.length_map]; rfl) | simp [PX.get]), (by first | rfl | (simp only [List.length_map]; rfl) | simp [PX.get]), trivial⟩ ⟨(by first | rfl | (simp only [List.length_map]; rfl) | simp [PX.get]), (by first | rfl | (simp only [List.length_map]; rfl) | simp [PX.get]), trivial⟩) hJ ?_ ?_
   ·rintro j p rr s hpj hj hjr hs
    have hss : s.size ≤ 30000 := by
     have h1 := congrArg ByteArray.size hs
     rw [ba_size, ba_size acc] at h1
     omega
    have hpp := hS.pin p (List.mem_of_getElem? hpj)
    have px := hpp.x
    have py := hpp.y
    have sd := numB_size p.x
    have sc := numB_size p.y
    conv=>whnf
    refine brk_i (fun _ => ?_) (fun h => absurd hj (by simpa using h))
    conv=>whnf
    refine brk_i (fun _ => ?_) (fun h => absurd (of_decide_eq_false h) (by simp only [ba_size, lit_size, List.length_cons, List.length_nil]; omega))
    conv=>whnf
    refine elemK_nat hpj ?_
    conv=>whnf
    refine DrawCall_v (ds := [i64 p.x]) (ch115 _ (by unfold In18; omega)) rfl rfl ?_
    conv=>whnf
    refine brk_i (fun _ => ?_) (fun h => absurd (of_decide_eq_false h) (by simp only [ba_size, lit_size, List.length_cons, List.length_nil]; omega))
    conv=>whnf
    refine brk_i (fun _ => ?_) (fun h => absurd (of_decide_eq_false h) (by simp only [ba_size, lit_size, List.length_cons, List.length_nil]; omega))
    conv=>whnf
    refine elemK_nat hpj ?_
    conv=>whnf
    refine DrawCall_v (ds := [i64 p.y]) (ch115 _ (by unfold In18; omega)) rfl rfl ?_
    conv=>whnf
    refine brk_i (fun _ => ?_) (fun h => absurd (of_decide_eq_false h) (by simp only [ba_size, lit_size, List.length_cons, List.length_nil]; omega))
    conv=>whnf
    refine arith_in (wrap_i64 (by (try dsimp only); omega)) ?_
    conv=>whnf
    exact ⟨s ++ ⟨#[32]⟩ ++ numB p.x ++ ⟨#[32]⟩ ++ numB p.y, by rw [← hs]; show _ = s ++ ((spB ++ numB p.x) ++ ((spB ++ numB p.y) ++ numsB (ptsN rr)) ++ nlB); simp only [ba_assoc]; rfl, (Wk.sub ⟨(by first | rfl | (simp only [List.length_map]; rfl) | simp [PX.get]), (by first | rfl | (simp only [List.length_map]; rfl) | simp [PX.get]), (by first | rfl | (simp only [List.length_map]; rfl) | simp [PX.get]), (by first | rfl | (simp only [List.length_map]; rfl) | simp [PX.get]), (by first | rfl | (simp only [List.length_map]; rfl) | simp [PX.get]), trivial⟩ ⟨(by first | rfl | (simp only [List.length_map]; rfl) | simp [PX.get]), (by first | rfl | (simp only [List.length_map]; rfl) | simp [PX.get]), trivial⟩)⟩
   ·rintro s hs
    have hs : s ++ nlB = acc ++ sandT m := by rw [← hs]; show _ = s ++ (ByteArray.empty ++ nlB); simp
    have hss : s.size ≤ 30000 := by
     have h1 := congrArg ByteArray.size hs
     rw [ba_size, ba_size acc] at h1
     omega
    conv=>whnf
    refine brk_i (fun h => absurd h (by simp)) (fun _ => ?_)
    conv=>whnf
    refine brk_i (fun _ => ?_) (fun h => absurd (of_decide_eq_false h) (by simp only [ba_size, lit_size, List.length_cons, List.length_nil]; omega))
    conv=>whnf
    refine arith_in (wrap_i64 (by (try dsimp only); omega)) ?_
    conv=>whnf
    exact ⟨acc ++ sandT m, by rw [← hacc, List.map_cons, catB, ba_assoc], Wk.sub ⟨rfl, congrArg (fun z => some (V.d (.str z))) hs, congrArg (fun z => some (V.d (i64 z))) (by omega), trivial⟩ ⟨rfl, trivial⟩⟩
  ·rintro acc hacc
   have hacc : acc = chtT c := by simpa [catB] using hacc
   subst hacc
   conv=>whnf
   refine brk_i (fun h => absurd h (by simp)) (fun _ => ?_)
   conv=>whnf
   exact RetA_view 0 rfl ⟨⟨rfl, rfl⟩, rfl⟩
end Go.PX
namespace Go.PX
open Go.Proofs
theorem ch37 (c : Cht) : FnV Tryz.prog 37 [c.d] (.tup [.str (writeX c), i64 (checkX c).2.2]) := by
 refine fnV_of mixed tysOk Tryz.func37 rfl (ft := ft37) 1 (by decide +kernel) (by rfl) fun {σ} Y st => ?_
 conv=>whnf
 refine CallA_v (ch21x c) rfl rfl ?_
 conv=>whnf
 by_cases h : (checkX c).2.2 = 0
 ·have hw : writeX c = chtT c := if_pos h
  rw [hw, h]
  conv=>whnf
  refine CallA_v (ds := [c.d]) (ch87 c (checkX_ok h) (checkX_names h).nm) rfl rfl ?_
  conv=>whnf
  exact RetA_view 0 rfl ⟨⟨rfl, rfl⟩, rfl⟩
 ·have hw : writeX c = .empty := if_neg h
  rw [hw]
  refine brk_i (fun _ => ?_) (fun h1 => absurd h1 (by simp [h]))
  conv=>whnf
  exact RetA_view 0 rfl ⟨⟨rfl, rfl⟩, rfl⟩
end Go.PX
namespace Go.PX
open Go.Proofs
theorem rowsR_two {c : Cht} {rows : List ByteArray} {i : Nat} {x : ByteArray} (hx : rows[i]? = some x) (h : i + 1 < rows.length) : rowsR c (rows.drop i) = match rowR c (piecesB 32 x) with
  | some c' => rowsR c' (rows.drop (i + 1))
  | none => none := by
 have h1 : i < rows.length := by omega
 have e1 : rows[i] = x := (List.getElem?_eq_some_iff.1 hx).2
 rw [List.drop_eq_getElem_cons h1, List.drop_eq_getElem_cons h, e1, rowsR]
 cases rowR c (piecesB 32 x) <;> rfl
theorem rowsR_last {c : Cht} {rows : List ByteArray} {i : Nat} (h : rows.length ≤ i + 1) : rowsR c (rows.drop i) = some c := by
 have hl : (rows.drop i).length ≤ 1 := by rw [List.length_drop]; omega
 match h2 : rows.drop i with
 | [] => rfl
 | [a] => rfl
 | a :: b :: r => rw [h2] at hl; simp at hl
theorem rowR_len {c c' : Cht} {w : List ByteArray} (h : rowR c w = some c') : c'.marks.length + c'.sands.length = c.marks.length + c.sands.length + 1 := by
 unfold rowR at h
 split at h
 ·cases h
 split at h
 ·split at h
  ·split at h
   ·cases h; simp; omega
   ·split at h
    ·cases h; simp; omega
    ·cases h
  ·cases h
 ·cases h
theorem pairsR_len : ∀ l : List ByteArray, 2 * (pairsR l).length ≤ l.length
 | [] => by simp [pairsR]
 | [_] => by simp [pairsR]
 | a :: b :: r => by
  have := pairsR_len r
  rw [pairsR]
  simp; omega
set_option maxHeartbeats 8000000 in
theorem ch39 (s : ByteArray) : FnV Tryz.prog 39 [.str s] (.tup [(readR s).1.d, i64 (readR s).2]) := by
 refine fnV_of mixed tysOk Tryz.func39 rfl (ft := ft39) 1 (by decide +kernel) (by rfl) fun {σ} Y st => ?_
 conv=>whnf
 have hdef : readR s = if 4000 < s.size then ((chtO, 3) : Cht × Int) else match rowsR chtO (piecesB 10 s) with
  | some c => if (checkX c).2.2 = 0 ∧ chtT c = s then (c, 0) else (chtO, 6)
  | none => (chtO, 6) := by
  unfold readR
  split
  ·rfl
  ·cases rowsR chtO (piecesB 10 s) <;> rfl
 generalize readR s = res at hdef ⊢
 refine brk_i (fun h0 => ?_) (fun h0 => ?_)
 ·have h0 : 4000 < s.size := by have := of_decide_eq_true h0; omega
  rw [if_pos h0] at hdef
  have hres := hdef
  rw [hres]
  conv=>whnf
  exact RetA_viewR 0 rfl rfl ⟨⟨rfl, rfl⟩, rfl⟩
 have h0 : ¬ 4000 < s.size := by have := of_decide_eq_false h0; omega
 rw [if_neg h0] at hdef
 conv=>whnf
 refine CallA_v (ds := [.str s, .int .u8 10]) (ch92 s 10 (by omega)) rfl rfl ?_
 have hrl := piecesB_len 10 s
 have hrs := piecesB_mem 10 s
 generalize piecesB 10 s = rows at hdef hrl hrs ⊢
 conv=>whnf
 refine LoopA_p (T := tys) tysOk (by exact drawsB_spec mixed tysOk (by decide +kernel)) (fun x : Nat × Cht => ⟨[(0, .d (.str s)), (2, .ptr 2 0), (4, .ptr 4 0), (5, .d (strsD rows)), (6, .d (i64 (x.1 : Nat)))], (2, .box (.dd [.nils, .nils])) :: chtN 4 900001 900002 x.2, st⟩) (fun x => rowsR chtO rows = rowsR x.2 (rows.drop x.1) ∧ x.2.marks.length + x.2.sands.length ≤ x.1 ∧ x.1 ≤ rows.length) (fun x => rows.length - x.1) (0, chtO) ?_ ?_ ?_
 ·refine ((Wk.bornAtD 4 900001 4 [] [.nils] rfl rfl rfl rfl rfl).trans (Wk.bornAt 4 900002 6 [.sl 900001 4 0 0] [] rfl rfl ?_ rfl)).trans ?_
  ·rfl
  ·exact Wk.sub ⟨rfl, rfl, rfl, rfl, rfl, trivial⟩ ⟨rfl, rfl, rfl, rfl, trivial⟩
 ·exact ⟨by simp, by simp [chtO], by simp⟩
 rintro ⟨i, c⟩ ⟨hk, hlen, hil⟩
 simp only at hk hlen hil
 conv=>whnf
 refine arith_in (wrap_i64 (by (try dsimp only); omega)) ?_
 conv=>whnf
 refine brk_i (fun h1 => ?_) (fun h1 => ?_)
 ·have h1 : i + 1 < rows.length := by have := of_decide_eq_true h1; simp at this; omega
  obtain ⟨x, hx⟩ : ∃ x, rows[i]? = some x := ⟨_, List.getElem?_eq_getElem (by omega)⟩
  rw [rowsR_two hx h1] at hk
  have hxs := hrs x (List.mem_of_getElem? hx)
  conv=>whnf
  refine elemK_nat hx ?_
  conv=>whnf
  refine CallA_v (ds := [.str x, .int .u8 32]) (ch92 x 32 (by omega)) rfl rfl ?_
  have hwl := piecesB_len 32 x
  have hrow : rowR c (piecesB 32 x) = rowR c (piecesB 32 x) := rfl
  conv at hrow => rhs; unfold rowR
  have hcl := @rowR_len c
  generalize hRR : rowR c (piecesB 32 x) = RR at hk hrow
  have hcl : ∀ c', RR = some c' → c'.marks.length + c'.sands.length = c.marks.length + c.sands.length + 1 := fun c' h => hcl (hRR.trans h)
  clear hRR
  generalize piecesB 32 x = w at hrow hwl ⊢
  conv=>whnf
  refine brk_i (fun h2 => ?_) (fun h2 => ?_)
  ·have h2 : w.length < 4 := by have := of_decide_eq_true h2; simp at this; omega
   rw [if_pos h2] at hrow
   rw [hrow] at hk
   simp only at hk
   rw [hk] at hdef
   have hres := hdef
   rw [hres]
   conv=>whnf
   exact RetA_viewR 0 rfl rfl ⟨⟨rfl, rfl⟩, rfl⟩
  have h2 : ¬ w.length < 4 := by have := of_decide_eq_false h2; simp at this; omega
  rw [if_neg h2] at hrow
  match w, h2 with
  | [], h => exact absurd (by simp) h
  | [_], h => exact absurd (by simp) h
  | [_, _], h => exact absurd (by simp) h
  | [_, _, _], h => exact absurd (by simp) h
  | kw :: n :: a :: b :: r, _ =>
  have hwl2 : r.length + 4 ≤ x.size + 1 := by simpa using hwl
  have hpr : pairsR (a :: b :: r) = ⟨numR a, numR b⟩ :: pairsR r := rfl
  simp only [hpr] at hrow
  have hprl := pairsR_len r
  generalize pairsR r = l at hpr hrow hprl
  generalize numR a = px at hpr hrow
  generalize numR b = py at hpr hrow
  conv=>whnf
  refine chk_i (by simp; omega) ?_
  conv=>whnf
  refine CallA_v (ds := [strsD (a :: b :: r)]) (ch93 (a :: b :: r) (by simp at hwl ⊢; omega)) (congrArg (fun z => [V.d (D.vs z)]) ((congrArg (List.drop 2) (List.take_length (l := (kw :: n :: a :: b :: r).map fun x => [D.str x]))).trans rfl)) rfl ?_
  rw [hpr]
  conv=>whnf
  refine brk_i (fun h3 => ?_) (fun h3 => ?_)
  ·have h3 : kw = markW := of_decide_eq_true h3
   rw [if_pos h3] at hrow
   have hcl := hcl _ hrow
   rw [hrow] at hk
   simp only at hk
   clear hrow
   subst h3
   conv=>whnf
   refine LoopA_i (T := tys) tysOk (by exact drawsB_spec mixed tysOk (by decide +kernel)) l (fun j (acc : List Paint) => ⟨[(0, .d (.str s)), (2, .ptr 2 0), (4, .ptr 4 0), (5, .d (strsD rows)), (6, .d (i64 (i : Nat))), (8, .d (ptsD (⟨px, py⟩ :: l))), (9, .ptr 9 0), (10, .d (i64 ((j + 1 : Nat) : Int)))], (2, .box (.dd [.nils, .nils])) :: (9, .box (.vv [.d (.str n), .d (i64 px), .d (i64 py), .sl 900003 2 0 acc.length])) :: (900003, .arr 2 (.dd (acc.map Paint.cells))) :: chtN 4 900001 900002 c, st⟩) (fun j q acc => acc.length = j ∧ l.map paintOf = acc ++ q.map paintOf) [] ?_ ?_ ?_ ?_
   ·exact (Wk.bornAtD 9 900003 2 [.str n, i64 px, i64 py] [] rfl rfl rfl rfl rfl).trans (Wk.sub ⟨(by first | rfl | (simp only [List.length_map]; rfl) | simp [PX.get]), (by first | rfl | (simp only [List.length_map]; rfl) | simp [PX.get]), (by first | rfl | (simp only [List.length_map]; rfl) | simp [PX.get]), (by first | rfl | (simp only [List.length_map]; rfl) | simp [PX.get]), (by first | rfl | (simp only [List.length_map]; rfl) | simp [PX.get]), (by first | rfl | (simp only [List.length_map]; rfl) | simp [PX.get]), (by first | rfl | (simp only [List.length_map]; rfl) | simp [PX.get]), (by first | rfl | (simp only [List.length_map]; rfl) | simp [PX.get]), trivial⟩ ⟨(by first | rfl | (simp only [List.length_map]; rfl) | simp [PX.get]), (by first | rfl | (simp only [List.length_map]; rfl) | simp [PX.get]), (by first | rfl | (simp only [List.length_map]; rfl) | simp [PX.get]), (by first | rfl | (simp only [List.length_map]; rfl) | simp [PX.get]), (by first | rfl | (simp only [List.length_map]; rfl) | simp [PX.get]), (by first | rfl | (simp only [List.length_map]; rfl) | simp [PX.get]), trivial⟩)
   ·exact ⟨rfl, by simp⟩
   ·rintro j q r' acc hqj hj hjr ⟨ha1, ha2⟩
    have hq1 : ((⟨px, py⟩ : Pt) :: l)[j + 1]? = some q := by simpa using hqj
    conv=>whnf
    refine brk_i (fun _ => ?_) (fun h => absurd h (by simp; omega))
    conv=>whnf
    refine elemK_nat hq1 ?_
    conv=>whnf
    refine elemK_nat hq1 ?_
    conv=>whnf
    refine ownK_whole rfl ?_
    conv=>whnf
    refine ownK_whole (by simp [Els.len]) ?_
    conv=>whnf
    refine chk_i (decide_eq_true (by show ((acc.map Paint.cells).length + 1) * 16 ≤ _; simp only [List.length_map, List.length_cons] at hwl ⊢; omega)) ?_
    conv=>whnf
    refine arith_in (wrap_i64 (by (try dsimp only); omega)) ?_
    conv=>whnf
    exact ⟨acc ++ [paintOf q], ⟨by simp [ha1], by rw [ha2]; simp⟩, (Wk.move 70 900003 rfl rfl).trans (Wk.sub ⟨rfl, rfl, rfl, rfl, rfl, rfl, rfl, congrArg (fun z => some (V.d (i64 z))) (by omega), trivial⟩ ⟨rfl, congrArg (fun z : Nat => some (Obj.box (.vv [.d (.str n), .d (i64 px), .d (i64 py), .sl 900003 2 0 z]))) (by simp [Els.len]), congrArg (fun z => some (Obj.arr 2 (.dd z))) (by simp [Paint.cells, paintOf]), rfl, rfl, rfl, trivial⟩)⟩
   ·rintro acc ⟨ha1, ha2⟩
    have ha2 : acc = l.map paintOf := by rw [ha2]; simp
    conv=>whnf
    refine brk_i (fun h => absurd h (by simp)) (fun _ => ?_)
    conv=>whnf
    refine ownK_whole rfl ?_
    conv=>whnf
    refine ownK_whole (by simp [Els.len]) ?_
    conv=>whnf
    refine chk_i (by
     show (true && !nameBL 76 ((injL (c.marks.map Mark.cells) ++ [_]).flatten)) = true
     rw [nameBL_injL]; rfl) ?_
    conv=>whnf
    refine chk_i (decide_eq_true (by show ((c.marks.map Mark.cells).length + 1) * 56 ≤ _; simp only [List.length_map]; omega)) ?_
    conv=>whnf
    refine arith_in (wrap_i64 (by (try dsimp only); omega)) ?_
    conv=>whnf
    refine ⟨(i + 1, { c with marks := c.marks ++ [⟨n, ⟨px, py⟩, l.map paintOf⟩] }), by simp only; omega, ⟨hk, by simp only; simp only at hcl; omega, by simp only; omega⟩, (Wk.frzArr 1 [900003] 76 (sz := 4) (vs := injL (c.marks.map Mark.cells) ++ [[.d (.str n), .d (i64 px), .d (i64 py), .sl 900003 2 0 acc.length]]) (ds := c.marks.map Mark.cells ++ [(⟨n, ⟨px, py⟩, l.map paintOf⟩ : Mark).cells]) ?_ (viewLL_app (viewLL_one (viewL_app (a := [.str n, i64 px, i64 py]) (viewL_cons ?_ rfl))) _)).trans ((Wk.move 76 900001 rfl rfl).trans ?_)⟩
    ·rfl
    ·exact viewV_sl' rfl (show _ = (l.map paintOf).map Paint.cells from by rw [ha2]) (by simp [ha1])
    ·exact Wk.sub ⟨rfl, rfl, rfl, rfl, congrArg (fun z => some (V.d (i64 z))) (by omega), trivial⟩ ⟨rfl, congrArg (fun z : Nat => some (Obj.box (.vv [.sl 900001 4 0 z, .sl 900002 6 0 c.sands.length]))) (by simp [Els.len, Els.toV, injL]), congrArg (fun z => some (Obj.arr 4 (.dd z))) (by simp), rfl, trivial⟩
  ·have h3 : kw ≠ markW := fun h => absurd (decide_eq_true (p := kw = markW) h) (by rw [show decide (kw = markW) = false from h3]; simp)
   rw [if_neg h3] at hrow
   conv=>whnf
   refine brk_i (fun h4 => ?_) (fun h4 => ?_)
   ·have h4 : l = [] := by
     have := of_decide_eq_true h4
     simp at this
     exact List.eq_nil_of_length_eq_zero (by omega)
    subst h4
    simp only at hrow
    rw [hrow] at hk
    simp only at hk
    rw [hk] at hdef
    have hres := hdef
    rw [hres]
    conv=>whnf
    exact RetA_viewR 0 rfl rfl ⟨⟨rfl, rfl⟩, rfl⟩
   match l, h4 with
   | [], h => exact absurd h (by simp)
   | q :: l', _ =>
   simp only at hrow
   have hcl := hcl _ hrow
   rw [hrow] at hk
   simp only at hk
   clear hrow
   conv=>whnf
   refine chk_i (by simp; omega) ?_
   conv=>whnf
   refine ownK_whole rfl ?_
   conv=>whnf
   refine ownK_whole (by simp [Els.len]) ?_
   conv=>whnf
   refine chk_i (decide_eq_true (by show ((c.sands.map Sand.cells).length + 1) * 72 ≤ _; simp only [List.length_map]; omega)) ?_
   conv=>whnf
   refine arith_in (wrap_i64 (by (try dsimp only); omega)) ?_
   conv=>whnf
   refine ⟨(i + 1, { c with sands := c.sands ++ [⟨n, l', ⟨⟨px, py⟩, ⟨q.x, q.y⟩⟩⟩] }), by simp only; omega, ⟨hk, by simp only; simp only at hcl; omega, by simp only; omega⟩, (Wk.move 110 900002 rfl rfl).trans (Wk.sub ⟨rfl, rfl, rfl, rfl, congrArg (fun z => some (V.d (i64 z))) (by omega), trivial⟩ ⟨rfl, congrArg (fun z : Nat => some (Obj.box (.vv [.sl 900001 4 0 c.marks.length, .sl 900002 6 0 z]))) (by simp [Els.len]), rfl, congrArg (fun z => some (Obj.arr 6 (.dd z))) ?_, trivial⟩)⟩
   rw [List.map_append]
   refine congrArg (fun z => c.sands.map Sand.cells ++ [[D.str n, D.vs z, i64 px, i64 py, i64 q.x, i64 q.y]]) ?_
   exact (congrArg (List.drop 2) (List.take_length (l := ((⟨px, py⟩ : Pt) :: q :: l').map Pt.cells))).trans rfl
 ·have h1 : rows.length ≤ i + 1 := by have := of_decide_eq_false h1; simp at this; omega
  rw [rowsR_last h1] at hk
  rw [hk] at hdef
  simp only at hdef
  conv=>whnf
  refine CallA_view (ds := [c.d]) (ch21x c) rfl 1 (viewC c rfl rfl) ?_
  conv=>whnf
  refine brk_i (fun h5 => ?_) (fun h5 => ?_)
  ·have h5 : ¬ (checkX c).2.2 = 0 := by simpa using h5
   rw [if_neg (fun h => h5 h.1)] at hdef
   have hres := hdef
   rw [hres]
   conv=>whnf
   exact RetA_viewR 0 rfl rfl ⟨⟨rfl, rfl⟩, rfl⟩
  ·have h5 : (checkX c).2.2 = 0 := by simpa using h5
   have hR := checkX_ok h5
   have hN := checkX_names h5
   conv=>whnf
   refine CallA_view (ds := [c.d]) (ch87 c hR hN.nm) rfl 1 (viewC c rfl rfl) ?_
   conv=>whnf
   refine brk_i (fun h6 => ?_) (fun h6 => ?_)
   ·have h6 : ¬ chtT c = s := by simpa using h6
    rw [if_neg (fun h => h6 h.2)] at hdef
    have hres := hdef
    rw [hres]
    conv=>whnf
    exact RetA_viewR 0 rfl rfl ⟨⟨rfl, rfl⟩, rfl⟩
   ·have h6 : chtT c = s := by simpa using h6
    rw [if_pos ⟨h5, h6⟩] at hdef
    rw [hdef]
    conv=>whnf
    exact RetA_view 1 (viewC2 c rfl rfl) ⟨⟨rfl, rfl⟩, rfl⟩
end Go.PX
namespace Go.PX
open Go.Proofs
theorem ch42 (x y : Int) : FnV Tryz.prog 42 [i64 x, i64 y] (Pt.d ⟨x, y⟩) := by
 refine fnV_of mixed tysOk Tryz.func42 rfl (ft := ft42) 2 (by decide +kernel) (by rfl) fun {σ} Y st => ?_
 conv=>whnf
 exact RetA_view 0 rfl ⟨⟨rfl, rfl⟩, rfl⟩
end Go.PX
namespace Go.PX
open Go.Proofs
deriving instance DecidableEq for Pt
deriving instance DecidableEq for Mark
deriving instance DecidableEq for Sand
deriving instance DecidableEq for Cht
theorem ch94 (a b : List Pt) (ha : a.length < 1000000) : FnV Tryz.prog 94 [ptsD a, ptsD b] (.bool (decide (a = b))) := by
 refine fnV_of mixed tysOk Tryz.func94 rfl (ft := ft94) 2 (by decide +kernel) (by rfl) fun {σ} Y st => ?_
 conv=>whnf
 refine brk_i (fun h0 => ?_) (fun h0 => ?_)
 ·have h0 : a.length ≠ b.length := by
   intro e; simp [e] at h0
  conv=>whnf
  rw [decide_eq_false (by rintro rfl; exact h0 rfl)]
  exact RetA_view 0 rfl ⟨⟨rfl, rfl⟩, rfl⟩
 ·have h0 : a.length = b.length := by
   have := h0
   simp at this; omega
  conv=>whnf
  refine LoopA_p (T := tys) tysOk (by exact drawsB_spec mixed tysOk (by decide +kernel)) (α := Nat) (fun i => ⟨[(0, .d (ptsD a)), (1, .d (ptsD b)), (5, .d (i64 i))], [], st⟩) (fun i => i ≤ a.length ∧ a.take i = b.take i) (fun i => a.length - i) 0
   (Wk.sub ⟨rfl, rfl, rfl, trivial⟩ trivial) (by simp) ?_
  rintro i ⟨hi, he⟩
  conv=>whnf
  refine brk_i (fun hc => ?_) (fun hc => ?_)
  ·have hc : i < a.length := by simpa using hc
   have hc' : i < b.length := by omega
   conv=>whnf
   refine elemK_i a[i].cells (by simp [hc]) ?_
   conv=>whnf
   refine elemK_i b[i].cells (by simp [hc']) ?_
   conv=>whnf
   refine brk_i (fun h1 => ?_) (fun h1 => ?_)
   ·conv=>whnf
    have h1 : a[i] ≠ b[i] := by
     intro e
     rw [e] at h1
     simp at h1
    rw [decide_eq_false (by rintro rfl; exact h1 rfl)]
    exact RetA_view 0 rfl ⟨⟨rfl, rfl⟩, rfl⟩
   ·have h1 : a[i] = b[i] := by
     cases hx : a[i] with
     | mk x y =>
      cases hy : b[i] with
      | mk u v =>
       rw [hx, hy] at h1
       simpa using h1
    refine arith_in (wrap_i64 (by (try dsimp only); omega)) ?_
    conv=>whnf
    exact ⟨i + 1, by omega, ⟨hc, by rw [List.take_succ_eq_append_getElem hc, List.take_succ_eq_append_getElem hc', he, h1]⟩, Wk.sub ⟨rfl, rfl, rfl, trivial⟩ trivial⟩
  ·have hc : ¬ i < a.length := by simpa using hc
   conv=>whnf
   rw [List.take_of_length_le (by omega), List.take_of_length_le (by omega)] at he
   rw [decide_eq_true he]
   exact RetA_view 0 rfl ⟨⟨rfl, rfl⟩, rfl⟩
theorem ch52 (a b c d : Int) : FnV Tryz.prog 52 [i64 a, i64 b, i64 c, i64 d] (Box.d ⟨⟨a, b⟩, ⟨c, d⟩⟩) := by
 refine fnV_of mixed tysOk Tryz.func52 rfl (ft := ft52) 4 (by decide +kernel) (by rfl) fun {σ} Y st => ?_
 conv=>whnf
 exact RetA_view 0 rfl ⟨⟨rfl, rfl⟩, rfl⟩
def exT : ByteArray := ⟨#[109, 97, 114, 107, 32, 99, 104, 117, 114, 99, 104, 32, 51, 48, 48, 48, 32, 52, 48, 48, 48, 32, 48, 32, 49, 32, 53, 48, 32, 50, 10, 109, 97, 114, 107, 32, 109, 105, 108, 108, 32, 45, 50, 48, 48, 48, 32, 48, 32, 49, 48, 32, 51, 32, 57, 48, 32, 48, 10, 115, 97, 110, 100, 32, 107, 110, 111, 108, 108, 32, 48, 32, 49, 48, 32, 45, 53, 32, 53, 32, 49, 48, 48, 32, 48, 32, 50, 48, 48, 32, 48, 32, 50, 48, 48, 32, 49, 48, 48, 32, 49, 48, 48, 32, 49, 48, 48, 10, 115, 97, 110, 100, 32, 115, 112, 105, 116, 32, 48, 32, 48, 32, 48, 32, 48, 32, 45, 51, 48, 48, 32, 45, 51, 48, 48, 32, 45, 49, 48, 48, 32, 45, 52, 48, 48, 32, 45, 50, 48, 48, 32, 45, 50, 48, 48, 10]⟩
def exC : Cht := ⟨[⟨⟨#[99, 104, 117, 114, 99, 104]⟩, ⟨3000, 4000⟩, [⟨0, 1⟩, ⟨50, 2⟩]⟩, ⟨⟨#[109, 105, 108, 108]⟩, ⟨-2000, 0⟩, [⟨10, 3⟩, ⟨90, 0⟩]⟩],
 [⟨⟨#[107, 110, 111, 108, 108]⟩, [⟨100, 0⟩, ⟨200, 0⟩, ⟨200, 100⟩, ⟨100, 100⟩], ⟨⟨0, 10⟩, ⟨-5, 5⟩⟩⟩, ⟨⟨#[115, 112, 105, 116]⟩, [⟨-300, -300⟩, ⟨-100, -400⟩, ⟨-200, -200⟩], ⟨⟨0, 0⟩, ⟨0, 0⟩⟩⟩]⟩
theorem ch69 : FnV Tryz.prog 69 [] (.str exT) := by
 refine fnV_of mixed tysOk Tryz.func69 rfl (ft := ft69) 0 (by decide +kernel) (by rfl) fun {σ} Y st => ?_
 conv=>whnf
 exact RetA_view 0 rfl ⟨⟨rfl, rfl⟩, rfl⟩
theorem ch41 : FnV Tryz.prog 41 [] exC.d := by
 refine fnV_of mixed tysOk Tryz.func41 rfl (ft := ft41) 0 (by decide +kernel) (by rfl) fun {σ} Y st => ?_
 conv=>whnf
 repeat' (first
  | (refine CallA_v (ch42 _ _) rfl rfl ?_; conv=>whnf)
  | (refine CallA_view (ch42 _ _) rfl 1 rfl ?_; conv=>whnf)
  | (refine DrawCall_v (ch42 _ _) rfl rfl ?_; conv=>whnf)
  | (refine DrawCall_view (ch42 _ _) rfl 1 rfl ?_; conv=>whnf)
  | (refine CallA_v (ch52 _ _ _ _) rfl rfl ?_; conv=>whnf)
  | (refine CallA_view (ch52 _ _ _ _) rfl 1 rfl ?_; conv=>whnf)
  | (refine DrawCall_v (ch52 _ _ _ _) rfl rfl ?_; conv=>whnf)
  | (refine DrawCall_view (ch52 _ _ _ _) rfl 1 rfl ?_; conv=>whnf)
  | (refine arith_in (wrap_i64 (by (try dsimp only); omega)) ?_; conv=>whnf)
  | (refine elemK_nat (by assumption) ?_; conv=>whnf)
  | (refine ownK_whole (by first | rfl | assumption | (simp [Els.len]; done) | (simp [Els.len]; omega)) ?_; conv=>whnf)
  | (refine chk_i (by first | (exact decide_eq_true (by (try simp only [List.length_map]); omega)) | (simp [Els.len, Els.cons, V.cells, Els.toV, injL]; done) | (simp [Els.len, Els.cons, V.cells, Els.toV, injL]; omega)) ?_; conv=>whnf)
  | fail)
 exact RetA_view 3 rfl ⟨⟨rfl, rfl⟩, rfl⟩
end Go.PX
namespace Go.PX
open Go.Proofs
structure FewC (c : Cht) : Prop where
 marks : c.marks.length < 1000000
 sands : c.sands.length < 1000000
 paints : ∀ m ∈ c.marks, m.paints.length < 1000000
 corners : ∀ s ∈ c.sands, s.corners.length < 1000000
set_option maxHeartbeats 4000000 in
theorem ch40 (a b : Cht) (ha : FewC a) : FnV Tryz.prog 40 [a.d, b.d] (.bool (decide (a = b))) := by
 refine fnV_of mixed tysOk Tryz.func40 rfl (ft := ft40) 2 (by decide +kernel) (by rfl) fun {σ} Y st => ?_
 conv=>whnf
 have hm1 := ha.marks
 have hs1 := ha.sands
 refine brk_i (fun h0 => ?_) (fun h0 => ?_)
 ·have h0 : a.marks.length ≠ b.marks.length := by
   intro e; simp [e] at h0
  conv=>whnf
  rw [decide_eq_false (by rintro rfl; exact h0 rfl)]
  exact RetA_view 0 rfl ⟨⟨rfl, rfl⟩, rfl⟩
 have hml : a.marks.length = b.marks.length := by
  have := h0
  simp at this; omega
 conv=>whnf
 refine brk_i (fun h0 => ?_) (fun h0 => ?_)
 ·have h0 : a.sands.length ≠ b.sands.length := by
   intro e; simp [e] at h0
  conv=>whnf
  rw [decide_eq_false (by rintro rfl; exact h0 rfl)]
  exact RetA_view 0 rfl ⟨⟨rfl, rfl⟩, rfl⟩
 have hsl : a.sands.length = b.sands.length := by
  have := h0
  simp at this; omega
 conv=>whnf
 refine LoopA_p (T := tys) tysOk (by exact drawsB_spec mixed tysOk (by decide +kernel)) (α := Nat) (fun i => ⟨[(2, .ptr 2 0), (3, .ptr 3 0), (5, .d (i64 i))], [(2, .box (.dd a.cells)), (3, .box (.dd b.cells))], st⟩) (fun i => i ≤ a.marks.length ∧ a.marks.take i = b.marks.take i) (fun i => a.marks.length - i) 0
  (Wk.sub ⟨(by first | rfl | (simp only [List.length_map]; rfl) | simp [PX.get]), (by first | rfl | (simp only [List.length_map]; rfl) | simp [PX.get]), (by first | rfl | (simp only [List.length_map]; rfl) | simp [PX.get]), trivial⟩ ⟨(by first | rfl | (simp only [List.length_map]; rfl) | simp [PX.get]), (by first | rfl | (simp only [List.length_map]; rfl) | simp [PX.get]), trivial⟩) (by simp) ?_
 rintro i ⟨hi, he⟩
 conv=>whnf
 refine brk_i (fun hc => ?_) (fun hc => ?_)
 ·have hc : i < a.marks.length := by simpa using hc
  have hc' : i < b.marks.length := by omega
  have hpl := ha.paints a.marks[i] (List.getElem_mem hc)
  have hne : a.marks[i] ≠ b.marks[i] → a ≠ b := by rintro h rfl; exact h rfl
  have hnx : a.marks[i] = b.marks[i] → a.marks.take (i + 1) = b.marks.take (i + 1) := fun h1 => by rw [List.take_succ_eq_append_getElem hc, List.take_succ_eq_append_getElem hc', he, h1]
  generalize hx : a.marks[i] = x at *
  generalize hy : b.marks[i] = y at *
  conv=>whnf
  refine elemK_i x.cells (by simp [hc, hx]) ?_
  conv=>whnf
  refine elemK_i y.cells (by simp [hc', hy]) ?_
  conv=>whnf
  refine brk_i (fun h1 => ?_) (fun h1 => ?_)
  ·have h1 : x ≠ y := by rintro rfl; simp at h1
   conv=>whnf
   rw [decide_eq_false (hne h1)]
   exact RetA_view 0 rfl ⟨⟨rfl, rfl⟩, rfl⟩
  have n1 : x.name = y.name := by simpa using h1
  conv=>whnf
  refine brk_i (fun h1 => ?_) (fun h1 => ?_)
  ·have h1 : x ≠ y := by rintro rfl; simp at h1
   conv=>whnf
   rw [decide_eq_false (hne h1)]
   exact RetA_view 0 rfl ⟨⟨rfl, rfl⟩, rfl⟩
  have n2 : x.at' = y.at' := by
   cases h4 : x.at' with
   | mk p q =>
    cases h5 : y.at' with
    | mk u v =>
     rw [h4, h5] at h1
     simpa using h1
  conv=>whnf
  refine brk_i (fun h1 => ?_) (fun h1 => ?_)
  ·have h1 : x ≠ y := by rintro rfl; simp at h1
   conv=>whnf
   rw [decide_eq_false (hne h1)]
   exact RetA_view 0 rfl ⟨⟨rfl, rfl⟩, rfl⟩
  have hxy : x.paints.length = y.paints.length := by
   have := h1
   simp at this; omega
  conv=>whnf
  refine LoopA_p (T := tys) tysOk (by exact drawsB_spec mixed tysOk (by decide +kernel)) (α := Nat) (fun k => ⟨[(2, .ptr 2 0), (3, .ptr 3 0), (5, .d (i64 i)), (6, .ptr 6 0), (7, .ptr 7 0), (8, .d (i64 k))], [(2, .box (.dd a.cells)), (3, .box (.dd b.cells)), (6, .box (.dd x.cells)), (7, .box (.dd y.cells))], st⟩) (fun k => k ≤ x.paints.length ∧ x.paints.take k = y.paints.take k) (fun k => x.paints.length - k) 0
   (Wk.sub ⟨(by first | rfl | (simp only [List.length_map]; rfl) | simp [PX.get]), (by first | rfl | (simp only [List.length_map]; rfl) | simp [PX.get]), (by first | rfl | (simp only [List.length_map]; rfl) | simp [PX.get]), (by first | rfl | (simp only [List.length_map]; rfl) | simp [PX.get]), (by first | rfl | (simp only [List.length_map]; rfl) | simp [PX.get]), (by first | rfl | (simp only [List.length_map]; rfl) | simp [PX.get]), trivial⟩ ⟨(by first | rfl | (simp only [List.length_map]; rfl) | simp [PX.get]), (by first | rfl | (simp only [List.length_map]; rfl) | simp [PX.get]), (by first | rfl | (simp only [List.length_map]; rfl) | simp [PX.get]), (by first | rfl | (simp only [List.length_map]; rfl) | simp [PX.get]), trivial⟩) (by simp) ?_
  rintro k ⟨hk, hke⟩
  conv=>whnf
  refine brk_i (fun hc2 => ?_) (fun hc2 => ?_)
  ·have hc2 : k < x.paints.length := by simpa using hc2
   have hc3 : k < y.paints.length := by omega
   conv=>whnf
   refine elemK_i x.paints[k].cells (by simp [hc2]) ?_
   conv=>whnf
   refine elemK_i y.paints[k].cells (by simp [hc3]) ?_
   conv=>whnf
   refine brk_i (fun h1 => ?_) (fun h1 => ?_)
   ·conv=>whnf
    have h1 : x.paints[k] ≠ y.paints[k] := by
     intro e
     rw [e] at h1
     simp at h1
    rw [decide_eq_false (hne (by rintro rfl; exact h1 rfl))]
    exact RetA_view 0 rfl ⟨⟨rfl, rfl⟩, rfl⟩
   ·have h1 : x.paints[k] = y.paints[k] := by
     cases hx : x.paints[k] with
     | mk p q =>
      cases hy : y.paints[k] with
      | mk u v =>
       rw [hx, hy] at h1
       simpa using h1
    refine arith_in (wrap_i64 (by (try dsimp only); omega)) ?_
    conv=>whnf
    exact ⟨k + 1, by omega, ⟨hc2, by rw [List.take_succ_eq_append_getElem hc2, List.take_succ_eq_append_getElem hc3, hke, h1]⟩, (Wk.sub ⟨(by first | rfl | (simp only [List.length_map]; rfl) | simp [PX.get]), (by first | rfl | (simp only [List.length_map]; rfl) | simp [PX.get]), (by first | rfl | (simp only [List.length_map]; rfl) | simp [PX.get]), (by first | rfl | (simp only [List.length_map]; rfl) | simp [PX.get]), (by first | rfl | (simp only [List.length_map]; rfl) | simp [PX.get]), (by first | rfl | (simp only [List.length_map]; rfl) | simp [PX.get]), trivial⟩ ⟨(by first | rfl | (simp only [List.length_map]; rfl) | simp [PX.get]), (by first | rfl | (simp only [List.length_map]; rfl) | simp [PX.get]), (by first | rfl | (simp only [List.length_map]; rfl) | simp [PX.get]), (by first | rfl | (simp only [List.length_map]; rfl) | simp [PX.get]), trivial⟩)⟩
  ·have hc2 : ¬ k < x.paints.length := by simpa using hc2
   rw [List.take_of_length_le (by omega), List.take_of_length_le (by omega)] at hke
   have hxe : x = y := by
    cases x; cases y
    simp only at n1 n2 hke
    rw [n1, n2, hke]
   conv=>whnf
   refine arith_in (wrap_i64 (by (try dsimp only); omega)) ?_
   conv=>whnf
   exact ⟨i + 1, by omega, ⟨hc, hnx hxe⟩, (Wk.sub ⟨(by first | rfl | (simp only [List.length_map]; rfl) | simp [PX.get]), (by first | rfl | (simp only [List.length_map]; rfl) | simp [PX.get]), (by first | rfl | (simp only [List.length_map]; rfl) | simp [PX.get]), trivial⟩ ⟨(by first | rfl | (simp only [List.length_map]; rfl) | simp [PX.get]), (by first | rfl | (simp only [List.length_map]; rfl) | simp [PX.get]), trivial⟩)⟩
 ·have hc : ¬ i < a.marks.length := by simpa using hc
  rw [List.take_of_length_le (by omega), List.take_of_length_le (by omega)] at he
  conv=>whnf
  refine LoopA_p (T := tys) tysOk (by exact drawsB_spec mixed tysOk (by decide +kernel)) (α := Nat) (fun i => ⟨[(2, .ptr 2 0), (3, .ptr 3 0), (9, .d (i64 i))], [(2, .box (.dd a.cells)), (3, .box (.dd b.cells))], st⟩) (fun i => i ≤ a.sands.length ∧ a.sands.take i = b.sands.take i) (fun i => a.sands.length - i) 0
   (Wk.sub ⟨(by first | rfl | (simp only [List.length_map]; rfl) | simp [PX.get]), (by first | rfl | (simp only [List.length_map]; rfl) | simp [PX.get]), (by first | rfl | (simp only [List.length_map]; rfl) | simp [PX.get]), trivial⟩ ⟨(by first | rfl | (simp only [List.length_map]; rfl) | simp [PX.get]), (by first | rfl | (simp only [List.length_map]; rfl) | simp [PX.get]), trivial⟩) (by simp) ?_
  rintro i ⟨hi, hes⟩
  conv=>whnf
  refine brk_i (fun hc => ?_) (fun hc => ?_)
  ·have hc : i < a.sands.length := by simpa using hc
   have hc' : i < b.sands.length := by omega
   have hpl := ha.corners a.sands[i] (List.getElem_mem hc)
   have hne : a.sands[i] ≠ b.sands[i] → a ≠ b := by rintro h rfl; exact h rfl
   have hnx : a.sands[i] = b.sands[i] → a.sands.take (i + 1) = b.sands.take (i + 1) := fun h1 => by rw [List.take_succ_eq_append_getElem hc, List.take_succ_eq_append_getElem hc', hes, h1]
   generalize hx : a.sands[i] = x at *
   generalize hy : b.sands[i] = y at *
   conv=>whnf
   refine elemK_i x.cells (by simp [hc, hx]) ?_
   conv=>whnf
   refine elemK_i y.cells (by simp [hc', hy]) ?_
   conv=>whnf
   refine brk_i (fun h1 => ?_) (fun h1 => ?_)
   ·have h1 : x ≠ y := by rintro rfl; simp at h1
    conv=>whnf
    rw [decide_eq_false (hne h1)]
    exact RetA_view 0 rfl ⟨⟨rfl, rfl⟩, rfl⟩
   have n1 : x.name = y.name := by simpa using h1
   conv=>whnf
   refine brk_i (fun h1 => ?_) (fun h1 => ?_)
   ·have h1 : x ≠ y := by rintro rfl; simp at h1
    conv=>whnf
    rw [decide_eq_false (hne h1)]
    exact RetA_view 0 rfl ⟨⟨rfl, rfl⟩, rfl⟩
   have n2 : x.moves = y.moves := by
    cases h4 : x.moves with
    | mk p q =>
     cases h5 : y.moves with
     | mk u v =>
      rw [h4, h5] at h1
      cases p; cases q; cases u; cases v
      simp at h1 ⊢
      exact h1
   conv=>whnf
   refine CallA_view (ch94 x.corners y.corners hpl) rfl 1 rfl ?_
   conv=>whnf
   refine brk_i (fun h1 => ?_) (fun h1 => ?_)
   ·have h1 : x ≠ y := by rintro rfl; simp at h1
    conv=>whnf
    rw [decide_eq_false (hne h1)]
    exact RetA_view 0 rfl ⟨⟨rfl, rfl⟩, rfl⟩
   have n3 : x.corners = y.corners := by simpa using h1
   have hxe : x = y := by
    cases x; cases y
    simp only at n1 n2 n3
    rw [n1, n2, n3]
   conv=>whnf
   refine arith_in (wrap_i64 (by (try dsimp only); omega)) ?_
   conv=>whnf
   exact ⟨i + 1, by omega, ⟨hc, hnx hxe⟩, (Wk.sub ⟨(by first | rfl | (simp only [List.length_map]; rfl) | simp [PX.get]), (by first | rfl | (simp only [List.length_map]; rfl) | simp [PX.get]), (by first | rfl | (simp only [List.length_map]; rfl) | simp [PX.get]), trivial⟩ ⟨(by first | rfl | (simp only [List.length_map]; rfl) | simp [PX.get]), (by first | rfl | (simp only [List.length_map]; rfl) | simp [PX.get]), trivial⟩)⟩
  ·have hc : ¬ i < a.sands.length := by simpa using hc
   rw [List.take_of_length_le (by omega), List.take_of_length_le (by omega)] at hes
   have hab : a = b := by
    cases a; cases b
    simp only at he hes
    rw [he, hes]
   conv=>whnf
   rw [decide_eq_true hab]
   exact RetA_view 0 rfl ⟨⟨rfl, rfl⟩, rfl⟩
end Go.PX
namespace Go.PX
open Go.Proofs
theorem e1 : vecV 31 = ⟨-195, 981⟩ ∧ vecE 31 = 0 := by decide +kernel
theorem e2 : onA exC ⟨150, 50⟩ = [0] ∧ onB exC ⟨150, 50⟩ = [0] ∧ openX exC ⟨150, 50⟩ = 0 := by decide +kernel
theorem e3 : onA exC ⟨205, 50⟩ = [] ∧ onB exC ⟨205, 50⟩ = [0] ∧ openX exC ⟨205, 50⟩ = 0 := by decide +kernel
theorem e4 : clearV exC ⟨0, 0⟩ 101 = (0, ⟨0, -5⟩) ∧ clearE exC ⟨0, 0⟩ 101 = 0 := by decide +kernel
theorem e5 : clearE exC ⟨0, 0⟩ 100 = 4 := by decide +kernel
theorem e6 : radV exC ⟨0, 0⟩ = 100 ∧ openX exC ⟨0, 0⟩ = 0 := by decide +kernel
theorem e7 : marC exC 50 0 = 2 ∧ marE exC 50 0 = 0 := by decide +kernel
theorem e8 : seenV exC 20 0 ⟨0, 0⟩ = 3 ∧ seenE exC 20 0 ⟨0, 0⟩ = 0 := by decide +kernel
theorem e9 : ptsL exC 20 1 ⟨⟨-2010, -1990⟩, ⟨0, 0⟩⟩ = [8, 24] ∧ ptsE exC 20 1 ⟨⟨-2010, -1990⟩, ⟨0, 0⟩⟩ = 0 := by decide +kernel
theorem e10 : writeX exC = exT ∧ (checkX exC).2.2 = 0 := by decide +kernel
theorem e11 : readX exT = (exC, 0) := by decide +kernel
theorem e12 : seenE exC 90 1 ⟨0, 0⟩ = 9 := by decide +kernel
theorem e19 : marC exC 9 1 = 0 ∧ marE exC 9 1 = 0 := by decide +kernel
end Go.PX
namespace Go.PX
open Go.Proofs
theorem a1 : FnV Tryz.prog 16 [i64 31] (.tup [Pt.d ⟨-195, 981⟩, i64 0]) := FnV.cast (ch16 31) (by rw [e1.1, e1.2])
theorem a2 : FnV Tryz.prog 23 [exC.d, Pt.d ⟨150, 50⟩] (.tup [intsD [0], intsD [0], i64 0]) := FnV.cast (ch23 exC ⟨150, 50⟩) (by rw [e2.1, e2.2.1, e2.2.2])
theorem a3 : FnV Tryz.prog 23 [exC.d, Pt.d ⟨205, 50⟩] (.tup [intsD [], intsD [0], i64 0]) := FnV.cast (ch23 exC ⟨205, 50⟩) (by rw [e3.1, e3.2.1, e3.2.2])
theorem a4 : FnV Tryz.prog 26 [exC.d, Pt.d ⟨0, 0⟩, i64 101] (.tup [i64 0, Pt.d ⟨0, -5⟩, i64 0]) := FnV.cast (ch26 exC ⟨0, 0⟩ 101) (by rw [e4.1, e4.2])
theorem a5 : FnV Tryz.prog 26 [exC.d, Pt.d ⟨0, 0⟩, i64 100] (.tup [i64 (clearV exC ⟨0, 0⟩ 100).1, (clearV exC ⟨0, 0⟩ 100).2.d, i64 4]) := FnV.cast (ch26 exC ⟨0, 0⟩ 100) (by rw [e5])
theorem a6 : FnV Tryz.prog 28 [exC.d, Pt.d ⟨0, 0⟩] (.tup [i64 100, i64 0]) := FnV.cast (ch28 exC ⟨0, 0⟩) (by rw [e6.1, e6.2])
theorem a7 : FnV Tryz.prog 30 [exC.d, i64 50, i64 0] (.tup [i64 2, i64 0]) := FnV.cast (ch30 exC 50 0) (by rw [e7.1, e7.2])
theorem a8 : FnV Tryz.prog 32 [exC.d, i64 20, i64 0, Pt.d ⟨0, 0⟩] (.tup [i64 3, i64 0]) := FnV.cast (ch32 exC 20 0 ⟨0, 0⟩) (by rw [e8.1, e8.2])
theorem a9 : FnV Tryz.prog 34 [exC.d, i64 20, i64 1, Box.d ⟨⟨-2010, -1990⟩, ⟨0, 0⟩⟩] (.tup [intsD [8, 24], i64 0]) := FnV.cast (ch34 exC 20 1 ⟨⟨-2010, -1990⟩, ⟨0, 0⟩⟩) (by rw [e9.1, e9.2])
theorem a10 : FnV Tryz.prog 36 [exC.d] (.tup [.str exT, i64 0]) := FnV.cast (ch36 exC) (by rw [e10.1, e10.2])
theorem a11 : FnV Tryz.prog 38 [.str exT] (.tup [exC.d, i64 0]) := FnV.cast (ch38 exT) (by rw [e11])
theorem a12 : FnV Tryz.prog 32 [exC.d, i64 90, i64 1, Pt.d ⟨0, 0⟩] (.tup [i64 (seenV exC 90 1 ⟨0, 0⟩), i64 9]) := FnV.cast (ch32 exC 90 1 ⟨0, 0⟩) (by rw [e12])
theorem few_ex : FewC exC := ⟨by decide, by decide, by decide, by decide⟩
theorem a13 : FnV Tryz.prog 40 [exC.d, exC.d] (.bool true) := FnV.cast (ch40 exC exC few_ex) (by simp)
theorem a14 : FnV Tryz.prog 18 [.str ⟨#[97, 45, 98]⟩] (.bool true) := FnV.cast (fn47 ⟨#[97, 45, 98]⟩) (congrArg D.bool (by decide +kernel))
theorem a15 : FnV Tryz.prog 18 [.str ⟨#[97, 45, 45, 98]⟩] (.bool false) := FnV.cast (fn47 ⟨#[97, 45, 45, 98]⟩) (congrArg D.bool (by decide +kernel))
theorem a16 (l : List Int) (hl : l.length < 1000000) : FnV Tryz.prog 25 [intsD l, intsD l] (.bool true) := FnV.cast (fn19 l l hl) (by simp)
set_option maxHeartbeats 8000000 in
theorem ch22 : FnV Tryz.prog 22 [] (.bool true) := by
 refine fnV_of mixed tysOk Tryz.func22 rfl (ft := ft22) 0 (by decide +kernel) (by rfl) fun {σ} Y st => ?_
 conv=>whnf
 repeat' (first
  | (refine CallA_v (a1) rfl rfl ?_; conv=>whnf)
  | (refine CallA_view (a1) rfl 1 rfl ?_; conv=>whnf)
  | (refine DrawCall_v (a1) rfl rfl ?_; conv=>whnf)
  | (refine DrawCall_view (a1) rfl 1 rfl ?_; conv=>whnf)
  | (refine CallA_v (ch41) rfl rfl ?_; conv=>whnf)
  | (refine CallA_view (ch41) rfl 1 rfl ?_; conv=>whnf)
  | (refine DrawCall_v (ch41) rfl rfl ?_; conv=>whnf)
  | (refine DrawCall_view (ch41) rfl 1 rfl ?_; conv=>whnf)
  | (refine CallA_v (ch42 _ _) rfl rfl ?_; conv=>whnf)
  | (refine CallA_view (ch42 _ _) rfl 1 rfl ?_; conv=>whnf)
  | (refine DrawCall_v (ch42 _ _) rfl rfl ?_; conv=>whnf)
  | (refine DrawCall_view (ch42 _ _) rfl 1 rfl ?_; conv=>whnf)
  | (refine CallA_v (ch52 _ _ _ _) rfl rfl ?_; conv=>whnf)
  | (refine CallA_view (ch52 _ _ _ _) rfl 1 rfl ?_; conv=>whnf)
  | (refine DrawCall_v (ch52 _ _ _ _) rfl rfl ?_; conv=>whnf)
  | (refine DrawCall_view (ch52 _ _ _ _) rfl 1 rfl ?_; conv=>whnf)
  | (refine CallA_v (a2) rfl rfl ?_; conv=>whnf)
  | (refine CallA_view (a2) rfl 1 rfl ?_; conv=>whnf)
  | (refine DrawCall_v (a2) rfl rfl ?_; conv=>whnf)
  | (refine DrawCall_view (a2) rfl 1 rfl ?_; conv=>whnf)
  | (refine CallA_v (a3) rfl rfl ?_; conv=>whnf)
  | (refine CallA_view (a3) rfl 1 rfl ?_; conv=>whnf)
  | (refine DrawCall_v (a3) rfl rfl ?_; conv=>whnf)
  | (refine DrawCall_view (a3) rfl 1 rfl ?_; conv=>whnf)
  | (refine CallA_v (a4) rfl rfl ?_; conv=>whnf)
  | (refine CallA_view (a4) rfl 1 rfl ?_; conv=>whnf)
  | (refine DrawCall_v (a4) rfl rfl ?_; conv=>whnf)
  | (refine DrawCall_view (a4) rfl 1 rfl ?_; conv=>whnf)
  | (refine CallA_v (a5) rfl rfl ?_; conv=>whnf)
  | (refine CallA_view (a5) rfl 1 rfl ?_; conv=>whnf)
  | (refine DrawCall_v (a5) rfl rfl ?_; conv=>whnf)
  | (refine DrawCall_view (a5) rfl 1 rfl ?_; conv=>whnf)
  | (refine CallA_v (a6) rfl rfl ?_; conv=>whnf)
  | (refine CallA_view (a6) rfl 1 rfl ?_; conv=>whnf)
  | (refine DrawCall_v (a6) rfl rfl ?_; conv=>whnf)
  | (refine DrawCall_view (a6) rfl 1 rfl ?_; conv=>whnf)
  | (refine CallA_v (a7) rfl rfl ?_; conv=>whnf)
  | (refine CallA_view (a7) rfl 1 rfl ?_; conv=>whnf)
  | (refine DrawCall_v (a7) rfl rfl ?_; conv=>whnf)
  | (refine DrawCall_view (a7) rfl 1 rfl ?_; conv=>whnf)
  | (refine CallA_v (a8) rfl rfl ?_; conv=>whnf)
  | (refine CallA_view (a8) rfl 1 rfl ?_; conv=>whnf)
  | (refine DrawCall_v (a8) rfl rfl ?_; conv=>whnf)
  | (refine DrawCall_view (a8) rfl 1 rfl ?_; conv=>whnf)
  | (refine CallA_v (a9) rfl rfl ?_; conv=>whnf)
  | (refine CallA_view (a9) rfl 1 rfl ?_; conv=>whnf)
  | (refine DrawCall_v (a9) rfl rfl ?_; conv=>whnf)
  | (refine DrawCall_view (a9) rfl 1 rfl ?_; conv=>whnf)
  | (refine CallA_v (a10) rfl rfl ?_; conv=>whnf)
  | (refine CallA_view (a10) rfl 1 rfl ?_; conv=>whnf)
  | (refine DrawCall_v (a10) rfl rfl ?_; conv=>whnf)
  | (refine DrawCall_view (a10) rfl 1 rfl ?_; conv=>whnf)
  | (refine CallA_v (ch69) rfl rfl ?_; conv=>whnf)
  | (refine CallA_view (ch69) rfl 1 rfl ?_; conv=>whnf)
  | (refine DrawCall_v (ch69) rfl rfl ?_; conv=>whnf)
  | (refine DrawCall_view (ch69) rfl 1 rfl ?_; conv=>whnf)
  | (refine CallA_v (a11) rfl rfl ?_; conv=>whnf)
  | (refine CallA_view (a11) rfl 1 rfl ?_; conv=>whnf)
  | (refine DrawCall_v (a11) rfl rfl ?_; conv=>whnf)
  | (refine DrawCall_view (a11) rfl 1 rfl ?_; conv=>whnf)
  | (refine CallA_v (a12) rfl rfl ?_; conv=>whnf)
  | (refine CallA_view (a12) rfl 1 rfl ?_; conv=>whnf)
  | (refine DrawCall_v (a12) rfl rfl ?_; conv=>whnf)
  | (refine DrawCall_view (a12) rfl 1 rfl ?_; conv=>whnf)
  | (refine CallA_v (a14) rfl rfl ?_; conv=>whnf)
  | (refine CallA_view (a14) rfl 1 rfl ?_; conv=>whnf)
  | (refine DrawCall_v (a14) rfl rfl ?_; conv=>whnf)
  | (refine DrawCall_view (a14) rfl 1 rfl ?_; conv=>whnf)
  | (refine CallA_v (a15) rfl rfl ?_; conv=>whnf)
  | (refine CallA_view (a15) rfl 1 rfl ?_; conv=>whnf)
  | (refine DrawCall_v (a15) rfl rfl ?_; conv=>whnf)
  | (refine DrawCall_view (a15) rfl 1 rfl ?_; conv=>whnf)
  | (refine CallA_v (a16 [0] (by decide)) rfl rfl ?_; conv=>whnf)
  | (refine CallA_view (a16 [0] (by decide)) rfl 1 rfl ?_; conv=>whnf)
  | (refine DrawCall_v (a16 [0] (by decide)) rfl rfl ?_; conv=>whnf)
  | (refine DrawCall_view (a16 [0] (by decide)) rfl 1 rfl ?_; conv=>whnf)
  | (refine CallA_v (a16 [8, 24] (by decide)) rfl rfl ?_; conv=>whnf)
  | (refine CallA_view (a16 [8, 24] (by decide)) rfl 1 rfl ?_; conv=>whnf)
  | (refine DrawCall_v (a16 [8, 24] (by decide)) rfl rfl ?_; conv=>whnf)
  | (refine DrawCall_view (a16 [8, 24] (by decide)) rfl 1 rfl ?_; conv=>whnf)
  | (refine CallA_v (a13) rfl rfl ?_; conv=>whnf)
  | (refine CallA_view (a13) rfl 1 rfl ?_; conv=>whnf)
  | (refine DrawCall_v (a13) rfl rfl ?_; conv=>whnf)
  | (refine DrawCall_view (a13) rfl 1 rfl ?_; conv=>whnf)
  | (refine arith_in (wrap_i64 (by (try dsimp only); omega)) ?_; conv=>whnf)
  | (refine elemK_nat (by assumption) ?_; conv=>whnf)
  | (refine ownK_whole (by first | rfl | assumption | (simp [Els.len]; done) | (simp [Els.len]; omega)) ?_; conv=>whnf)
  | (refine chk_i (by first | (exact decide_eq_true (by (try simp only [List.length_map]); omega)) | (simp [Els.len, Els.cons, V.cells, Els.toV, injL]; done) | (simp [Els.len, Els.cons, V.cells, Els.toV, injL]; omega)) ?_; conv=>whnf)
  | fail)
 exact RetA_view 0 rfl ⟨⟨rfl, rfl⟩, rfl⟩
end Go.PX
namespace Go.PX
open Go.Proofs
theorem few_ok {c : Cht} (h : (checkX c).2.2 = 0) : FewC c := by
 have hR := checkX_ok h
 have h1 := hR.marks
 have h2 := hR.sands
 exact ⟨by omega, by omega, fun m hm => by have := (paintE_ok (hR.mark m hm).2).1; omega, fun s hs => by have := (hR.sand s hs).len; omega⟩
theorem same_self {c : Cht} (h : FewC c) : FnV Tryz.prog 40 [c.d, c.d] (.bool true) := FnV.cast (ch40 c c h) (by simp)
end Go.PX
namespace Go.PX
open Go.Proofs
end Go.PX
namespace Go.PX
open Go.Proofs
theorem readX_few (s : ByteArray) : FewC (readX s).1 := by
 by_cases h : (readX s).2 = 0
 ·exact few_ok (readX_good h).1
 ·rw [readX_bad h]
  exact ⟨by simp [chtO], by simp [chtO], by simp [chtO], by simp [chtO]⟩
theorem ch39x (s : ByteArray) : FnV Tryz.prog 39 [.str s] (.tup [(readX s).1.d, i64 (readX s).2]) := FnV.cast (ch39 s) (by rw [read_eq])
set_option maxHeartbeats 4000000 in
theorem ch6 (c : Cht) (s : ByteArray) : FnV Tryz.prog 6 [c.d, .str s] (.bool true) := by
 refine fnV_of mixed tysOk Tryz.func6 rfl (ft := ft6) 2 (by decide +kernel) (by rfl) fun {σ} Y st => ?_
 conv=>whnf
 repeat' (first
  | (refine CallA_v (ch36 c) rfl rfl ?_; conv=>whnf)
  | (refine CallA_view (ch36 c) rfl 1 rfl ?_; conv=>whnf)
  | (refine DrawCall_v (ch36 c) rfl rfl ?_; conv=>whnf)
  | (refine DrawCall_view (ch36 c) rfl 1 rfl ?_; conv=>whnf)
  | (refine CallA_v (ch37 c) rfl rfl ?_; conv=>whnf)
  | (refine CallA_view (ch37 c) rfl 1 rfl ?_; conv=>whnf)
  | (refine DrawCall_v (ch37 c) rfl rfl ?_; conv=>whnf)
  | (refine DrawCall_view (ch37 c) rfl 1 rfl ?_; conv=>whnf)
  | (refine arith_in (wrap_i64 (by (try dsimp only); omega)) ?_; conv=>whnf)
  | (refine elemK_nat (by assumption) ?_; conv=>whnf)
  | (refine ownK_whole (by first | rfl | assumption | (simp [Els.len]; done) | (simp [Els.len]; omega)) ?_; conv=>whnf)
  | (refine chk_i (by first | (exact decide_eq_true (by (try simp only [List.length_map]); omega)) | (simp [Els.len, Els.cons, V.cells, Els.toV, injL]; done) | (simp [Els.len, Els.cons, V.cells, Els.toV, injL]; omega)) ?_; conv=>whnf)
  | fail)
 repeat' (refine brk_i (fun h => absurd h (by simp)) (fun _ => ?_); conv=>whnf)
 repeat' (first
  | (refine CallA_v (ch38 s) rfl rfl ?_; conv=>whnf)
  | (refine CallA_view (ch38 s) rfl 1 rfl ?_; conv=>whnf)
  | (refine DrawCall_v (ch38 s) rfl rfl ?_; conv=>whnf)
  | (refine DrawCall_view (ch38 s) rfl 1 rfl ?_; conv=>whnf)
  | (refine CallA_v (ch39x s) rfl rfl ?_; conv=>whnf)
  | (refine CallA_view (ch39x s) rfl 1 rfl ?_; conv=>whnf)
  | (refine DrawCall_v (ch39x s) rfl rfl ?_; conv=>whnf)
  | (refine DrawCall_view (ch39x s) rfl 1 rfl ?_; conv=>whnf)
  | (refine CallA_v (same_self (readX_few s)) rfl rfl ?_; conv=>whnf)
  | (refine CallA_view (same_self (readX_few s)) rfl 1 rfl ?_; conv=>whnf)
  | (refine DrawCall_v (same_self (readX_few s)) rfl rfl ?_; conv=>whnf)
  | (refine DrawCall_view (same_self (readX_few s)) rfl 1 rfl ?_; conv=>whnf)
  | (refine arith_in (wrap_i64 (by (try dsimp only); omega)) ?_; conv=>whnf)
  | (refine elemK_nat (by assumption) ?_; conv=>whnf)
  | (refine ownK_whole (by first | rfl | assumption | (simp [Els.len]; done) | (simp [Els.len]; omega)) ?_; conv=>whnf)
  | (refine chk_i (by first | (exact decide_eq_true (by (try simp only [List.length_map]); omega)) | (simp [Els.len, Els.cons, V.cells, Els.toV, injL]; done) | (simp [Els.len, Els.cons, V.cells, Els.toV, injL]; omega)) ?_; conv=>whnf)
  | fail)
 repeat' (refine brk_i (fun _ => ?_) (fun h => absurd h (by simp)); conv=>whnf)
 repeat' (first
  | (refine CallA_v (ch22) rfl rfl ?_; conv=>whnf)
  | (refine CallA_view (ch22) rfl 1 rfl ?_; conv=>whnf)
  | (refine DrawCall_v (ch22) rfl rfl ?_; conv=>whnf)
  | (refine DrawCall_view (ch22) rfl 1 rfl ?_; conv=>whnf)
  | (refine arith_in (wrap_i64 (by (try dsimp only); omega)) ?_; conv=>whnf)
  | (refine elemK_nat (by assumption) ?_; conv=>whnf)
  | (refine ownK_whole (by first | rfl | assumption | (simp [Els.len]; done) | (simp [Els.len]; omega)) ?_; conv=>whnf)
  | (refine chk_i (by first | (exact decide_eq_true (by (try simp only [List.length_map]); omega)) | (simp [Els.len, Els.cons, V.cells, Els.toV, injL]; done) | (simp [Els.len, Els.cons, V.cells, Els.toV, injL]; omega)) ?_; conv=>whnf)
  | fail)
 exact RetA_view 1 rfl ⟨⟨rfl, rfl⟩, rfl⟩
end Go.PX
