import Derived.Test.YtboaolnlajoanaaGreatDoorPxK
import Derived.Test.YtboaolnlajoanaaGreatDoorPxJ
import Derived.Test.YtboaolnlajoanaaGreatDoorPxI
set_option linter.all false
set_option maxRecDepth 10000
namespace Go.PX
open Go.Proofs
def spB : ByteArray := ⟨#[32]⟩
def nlB : ByteArray := ⟨#[10]⟩
def numsB : List Int → ByteArray
 | [] => .empty
 | n :: r => (spB ++ numB n) ++ numsB r
def headB (w n : ByteArray) : ByteArray := (w ++ spB) ++ n
def lineB (w n : ByteArray) (l : List Int) : ByteArray := headB w n ++ numsB l ++ nlB
theorem ba_assoc (a b c : ByteArray) : a ++ b ++ c = a ++ (b ++ c) := by simp [ByteArray.append_assoc]
theorem ba_size (a b : ByteArray) : (a ++ b).size = a.size + b.size := by simp
theorem ba_nil (a : ByteArray) : a ++ ByteArray.empty = a := by simp
theorem numsB_size : ∀ (l : List Int), (numsB l).size ≤ 21 * l.length
 | [] => Nat.zero_le _
 | n :: r => by
  have h1 := numsB_size r
  have h2 := numB_size n
  have h3 : spB.size = 1 := rfl
  rw [numsB, ba_size, ba_size, List.length_cons]
  omega
def In18 (n : Int) : Prop := -1000000000000000000 ≤ n ∧ n ≤ 1000000000000000000
theorem ch110 (b w n : ByteArray) (l : List Int) (h0 : 0 < b.size) (h18 : ∀ n ∈ l, In18 n) (hll : l.length ≤ 1000000) (hm : b.size + (lineB w n l).size ≤ 140737488355328) :
  FnU Tryz.prog 110 [.d (.str w), .d (.str n), .d (intsD l), .ptr 1000000 0] (bldU 1000000 1000001 b) fun v h' => v = .d (.tup []) ∧ h' = bldU 1000000 2000000 (b ++ lineB w n l) := by
 intro σ Y st
 refine fnC_of mixed tysOk Tryz.func110 rfl (ft := ft110) (args := [.d (.str w), .d (.str n), .d (intsD l), .ptr 1000000 0]) (show fnB ft110 Tryz.f110 4 = true from by decide +kernel) ?_
 have hw : (lineB w n l).size = w.size + 1 + n.size + (numsB l).size + 1 := by simp only [lineB, headB, ba_size]; rfl
 conv=>whnf
 refine chk_i (decide_eq_true (by show w.size + 1 ≤ _; omega)) ?_
 conv=>whnf
 refine chk_i (decide_eq_true (by rw [ba_size]; show w.size + 1 + n.size ≤ _; omega)) ?_
 conv=>whnf
 refine CallA_fn (ch111 b (headB w n) h0 (by simp only [headB, ba_size]; show b.size + (w.size + 1 + n.size) ≤ _; omega)) [1000000, 1000001] rfl ⟨_, _, rfl, rfl, _, _, rfl, rfl, rfl⟩ rfl ?_
 conv=>whnf
 have hh : (headB w n).size = w.size + 1 + n.size := by simp only [headB, ba_size]; rfl
 obtain ⟨tot, htot⟩ : ∃ tot, tot = b ++ headB w n ++ numsB l := ⟨_, rfl⟩
 have hts : tot.size + 1 ≤ 140737488355328 := by rw [htot]; simp only [ba_size, hh]; omega
 refine LoopA_i (T := tys) tysOk (by exact drawsB_spec mixed tysOk (by decide +kernel)) l (fun i (acc : ByteArray) => ⟨[(3, .ptr 1000000 0), (14, .d (intsD l)), (15, .d (i64 l.length)), (16, .d (i64 i))], bldU 1000000 900000 acc, st⟩) (fun i r acc => 0 < acc.size ∧ acc ++ numsB r = tot) (b ++ headB w n) ?wk ⟨by simp only [ba_size, hh]; omega, htot.symm⟩ ?round ?fin
 case wk => exact (Wk.move 100832 900000 rfl rfl).trans (Wk.sub ⟨rfl, rfl, congrArg (fun z : Nat => some (V.d (i64 z))) (by simp), rfl, trivial⟩ ⟨rfl, rfl, trivial⟩)
 ·rintro i x r acc hx hi hir ⟨ha, hacc⟩
  have hsz : acc.size + (1 + (numB x).size) + (numsB r).size = tot.size := by
   rw [← hacc, numsB]; simp only [ba_size]; show _ = acc.size + (1 + _ + _); omega
  conv=>whnf
  refine brk_i (fun _ => ?_) (fun h1 => absurd h1 (by simp; omega))
  conv=>whnf
  refine elemK_nat hx ?_
  conv=>whnf
  refine CallA_v (ch112 x (h18 x (List.mem_of_getElem? hx))) rfl rfl ?_
  conv=>whnf
  refine chk_i (decide_eq_true (by show 1 + _ ≤ _; omega)) ?_
  conv=>whnf
  refine CallA_fn (ch111 acc (spB ++ numB x) ha (by rw [ba_size]; show acc.size + (1 + _) ≤ _; omega)) [1000000, 900000] rfl ⟨_, _, rfl, rfl, _, _, rfl, rfl, rfl⟩ rfl ?_
  conv=>whnf
  refine arith_in (wrap_i64 (by (try dsimp only); omega)) ?_
  conv=>whnf
  exact ⟨acc ++ (spB ++ numB x), ⟨by rw [ba_size]; omega, by rw [← hacc, numsB, ba_assoc]⟩, (Wk.move 101472 900000 rfl rfl).trans (Wk.sub ⟨rfl, rfl, rfl, rfl, trivial⟩ ⟨rfl, rfl, trivial⟩)⟩
 ·rintro acc ⟨ha, hacc⟩
  rw [numsB, ba_nil] at hacc
  subst hacc
  conv=>whnf
  refine brk_i (fun h1 => absurd h1 (by simp)) (fun _ => ?_)
  conv=>whnf
  refine CallA_fn (ch113 acc ha hts) [1000000, 900000] rfl ⟨_, _, rfl, rfl, _, _, rfl, rfl, rfl⟩ rfl ?_
  conv=>whnf
  have he : b ++ lineB w n l = acc ++ nlB := by rw [htot]; simp only [lineB, ba_assoc]
  rw [he]
  exact RetA_hand [101600] [] (bldU 1000000 2000000 (acc ++ nlB)) rfl ⟨rfl, rfl, trivial⟩ rfl ⟨⟨rfl, rfl⟩, rfl⟩
theorem ch110_new (w n : ByteArray) (l : List Int) (h18 : ∀ n ∈ l, In18 n) (hll : l.length ≤ 1000000) (hm : (lineB w n l).size ≤ 140737488355328) :
  FnU Tryz.prog 110 [.d (.str w), .d (.str n), .d (intsD l), .ptr 1000000 0] (bldN 1000000) fun v h' => v = .d (.tup []) ∧ h' = bldU 1000000 2000000 (lineB w n l) := by
 intro σ Y st
 refine fnC_of mixed tysOk Tryz.func110 rfl (ft := ft110) (args := [.d (.str w), .d (.str n), .d (intsD l), .ptr 1000000 0]) (show fnB ft110 Tryz.f110 4 = true from by decide +kernel) ?_
 have hw : (lineB w n l).size = w.size + 1 + n.size + (numsB l).size + 1 := by simp only [lineB, headB, ba_size]; rfl
 conv=>whnf
 refine chk_i (decide_eq_true (by show w.size + 1 ≤ _; omega)) ?_
 conv=>whnf
 refine chk_i (decide_eq_true (by rw [ba_size]; show w.size + 1 + n.size ≤ _; omega)) ?_
 conv=>whnf
 refine CallA_fn (ch111_new (headB w n) (by simp only [headB, ba_size]; show 0 < w.size + 1 + n.size; omega) (by simp only [headB, ba_size]; show (w.size + 1 + n.size) ≤ _; omega)) [1000000] rfl ⟨_, _, rfl, rfl, rfl⟩ rfl ?_
 conv=>whnf
 have hh : (headB w n).size = w.size + 1 + n.size := by simp only [headB, ba_size]; rfl
 obtain ⟨tot, htot⟩ : ∃ tot, tot = headB w n ++ numsB l := ⟨_, rfl⟩
 have hts : tot.size + 1 ≤ 140737488355328 := by rw [htot]; simp only [ba_size, hh]; omega
 refine LoopA_i (T := tys) tysOk (by exact drawsB_spec mixed tysOk (by decide +kernel)) l (fun i (acc : ByteArray) => ⟨[(3, .ptr 1000000 0), (14, .d (intsD l)), (15, .d (i64 l.length)), (16, .d (i64 i))], bldU 1000000 900000 acc, st⟩) (fun i r acc => 0 < acc.size ∧ acc ++ numsB r = tot) (headB w n) ?wk ⟨by simp only [ba_size, hh]; omega, htot.symm⟩ ?round ?fin
 case wk => exact (Wk.move 100832 900000 rfl rfl).trans (Wk.sub ⟨rfl, rfl, congrArg (fun z : Nat => some (V.d (i64 z))) (by simp), rfl, trivial⟩ ⟨rfl, rfl, trivial⟩)
 ·rintro i x r acc hx hi hir ⟨ha, hacc⟩
  have hsz : acc.size + (1 + (numB x).size) + (numsB r).size = tot.size := by
   rw [← hacc, numsB]; simp only [ba_size]; show _ = acc.size + (1 + _ + _); omega
  conv=>whnf
  refine brk_i (fun _ => ?_) (fun h1 => absurd h1 (by simp; omega))
  conv=>whnf
  refine elemK_nat hx ?_
  conv=>whnf
  refine CallA_v (ch112 x (h18 x (List.mem_of_getElem? hx))) rfl rfl ?_
  conv=>whnf
  refine chk_i (decide_eq_true (by show 1 + _ ≤ _; omega)) ?_
  conv=>whnf
  refine CallA_fn (ch111 acc (spB ++ numB x) ha (by rw [ba_size]; show acc.size + (1 + _) ≤ _; omega)) [1000000, 900000] rfl ⟨_, _, rfl, rfl, _, _, rfl, rfl, rfl⟩ rfl ?_
  conv=>whnf
  refine arith_in (wrap_i64 (by (try dsimp only); omega)) ?_
  conv=>whnf
  exact ⟨acc ++ (spB ++ numB x), ⟨by rw [ba_size]; omega, by rw [← hacc, numsB, ba_assoc]⟩, (Wk.move 101472 900000 rfl rfl).trans (Wk.sub ⟨rfl, rfl, rfl, rfl, trivial⟩ ⟨rfl, rfl, trivial⟩)⟩
 ·rintro acc ⟨ha, hacc⟩
  rw [numsB, ba_nil] at hacc
  subst hacc
  conv=>whnf
  refine brk_i (fun h1 => absurd h1 (by simp)) (fun _ => ?_)
  conv=>whnf
  refine CallA_fn (ch113 acc ha hts) [1000000, 900000] rfl ⟨_, _, rfl, rfl, _, _, rfl, rfl, rfl⟩ rfl ?_
  conv=>whnf
  have he : lineB w n l = acc ++ nlB := by rw [htot]; simp only [lineB, ba_assoc]
  rw [he]
  exact RetA_hand [101600] [] (bldU 1000000 2000000 (acc ++ nlB)) rfl ⟨rfl, rfl, trivial⟩ rfl ⟨⟨rfl, rfl⟩, rfl⟩
end Go.PX
namespace Go.PX
open Go.Proofs
def sideD (x : Pt × Pt) : D := .agg (x.1.cells ++ x.2.cells)
def sideV (x : Pt × Pt) : List V × Heap := ([.d (sideD x)], [])
def sidesL : Pt → List Pt → List (Pt × Pt)
 | _, [] => []
 | a, p :: r => (a, p.sub a) :: sidesL p r
def lastP (l : List Pt) : Pt := (l[l.length - 1]?).getD ⟨0, 0⟩
def sidesF (s : Sand) : List (Pt × Pt) := sidesL (lastP s.corners) s.corners
theorem ch103 (s : Sand) : FnV Tryz.prog 103 [s.d] (.clo 124 [.ref s.cells]) := by
 refine fnV_of mixed tysOk Tryz.func103 rfl (ft := ft103) 1 (by decide +kernel) (by rfl) fun {σ} Y st => ?_
 conv=>whnf
 exact RetA_view 1 rfl ⟨⟨rfl, rfl⟩, rfl⟩
def ft124b : FT := ⟨ft124.ks, cut ft124.tb 4⟩
def rt124 : RT := match get ft124.tb 4 with
 | some r => r
 | none => ⟨[], []⟩
theorem yields124 (s : Sand) (hl : 0 < s.corners.length) (hlm : s.corners.length < 1000000) (hp : ∀ p ∈ s.corners, Pin 1000000000000 p) : Yields Tryz.prog 124 [.ref s.cells] ((sidesF s).map sideV) := by
 intro γ Y g0 Q hit
 refine fnC_of mixed tysOk Tryz.func124 rfl (ft := ft124b) (args := [.yld, .d (.ref s.cells)]) (show fnB ft124b Tryz.f124 2 = true from by decide +kernel) ?_
 replace hit := hit.np
 generalize Y.np = Y at hit ⊢
 obtain ⟨q, hq⟩ : ∃ q, s.corners[s.corners.length - 1]? = some q := ⟨s.corners[s.corners.length - 1]'(by omega), by simp⟩
 conv=>whnf
 refine arith_to ((s.corners.length - 1 : Nat) : Int) (by simp; omega) (wrap_i64 (by omega)) ?_
 conv=>whnf
 refine elemK_nat hq ?_
 conv=>whnf
 have hsf : sidesF s = sidesL q s.corners := by unfold sidesF lastP; rw [hq]; rfl
 rw [hsf] at hit
 have hq1 : Pin 1000000000000 q := hp q (List.mem_of_getElem? hq)
 refine LoopA_p (T := tys) tysOk (by exact drawsB_spec mixed tysOk (by decide +kernel)) (α := Nat × Pt × γ)
  (fun x => ⟨[(0, .yld), (3, .ptr 3 0), (18, .d (ptsD s.corners)), (19, .d (i64 s.corners.length)), (20, .d (i64 x.1))], [(3, .box (.dd x.2.1.cells))], x.2.2⟩)
  (fun x => x.1 ≤ s.corners.length ∧ Pin 1000000000000 x.2.1 ∧ iterate Y ((sidesL x.2.1 (s.corners.drop x.1)).map sideV) x.2.2 Q) (fun x => s.corners.length - x.1) (0, q, g0) ?wk ⟨Nat.zero_le _, hq1, by simpa using hit⟩ ?_
 case wk => exact (Wk.sub ⟨(by first | rfl | (simp only [List.length_map]; rfl) | simp [PX.get]), (by first | rfl | (simp only [List.length_map]; rfl) | simp [PX.get]), (by first | rfl | (simp only [List.length_map]; rfl) | simp [PX.get]), (by first | rfl | (simp only [List.length_map]; rfl) | simp [PX.get]), (by first | rfl | (simp only [List.length_map]; rfl) | simp [PX.get]), trivial⟩ ⟨(by first | rfl | (simp only [List.length_map]; rfl) | simp [PX.get]), trivial⟩)
 clear hit g0
 rintro ⟨i, a, g0⟩ ⟨hi, ha, hit⟩
 simp only at hi ha hit
 conv=>whnf
 refine brk_i (fun h1 => ?_) (fun h1 => ?_)
 ·have h1 : i < s.corners.length := by have := of_decide_eq_true h1; simp at this; omega
  obtain ⟨p, hpi⟩ : ∃ p, s.corners[i]? = some p := ⟨s.corners[i], by simp⟩
  have hpp : Pin 1000000000000 p := hp p (List.mem_of_getElem? hpi)
  have hdr : s.corners.drop i = p :: s.corners.drop (i + 1) := by
   rw [List.drop_eq_getElem_cons h1]
   rw [List.getElem?_eq_getElem h1] at hpi
   rw [Option.some.inj hpi]
  rw [hdr, sidesL, List.map_cons] at hit
  conv=>whnf
  refine elemK_nat hpi ?_
  conv=>whnf
  refine RegionA_seq mixed tysOk rt124 6 (by decide +kernel) (by decide +kernel) ?_
  conv=>whnf
  refine DrawCall_view (ds := [a.d, p.d]) (ch81 a p ha hpp) rfl 1 rfl ?_
  conv=>whnf
  refine YldA_v (ds := [sideD (a, p.sub a)]) hit rfl rfl (fun s' hit' => ?_) (fun s' hq' => ?_)
  ·conv=>whnf
   refine arith_in (wrap_i64 (by (try dsimp only); omega)) ?_
   conv=>whnf
   exact ⟨(i + 1, p, s'), by simp only; omega, ⟨by simp only; omega, hpp, hit'⟩, (Wk.sub ⟨(by first | rfl | (simp only [List.length_map]; rfl) | simp [PX.get]), (by first | rfl | (simp only [List.length_map]; rfl) | simp [PX.get]), (by first | rfl | (simp only [List.length_map]; rfl) | simp [PX.get]), (by first | rfl | (simp only [List.length_map]; rfl) | simp [PX.get]), (by first | rfl | (simp only [List.length_map]; rfl) | simp [PX.get]), trivial⟩ ⟨(by first | rfl | (simp only [List.length_map]; rfl) | simp [PX.get]), trivial⟩)⟩
  ·conv=>whnf
   exact RetA_view 0 rfl ⟨rfl, hq'⟩
 ·have h1 : ¬ i < s.corners.length := by have := of_decide_eq_false h1; simp at this; omega
  rw [List.drop_of_length_le (by omega)] at hit
  conv=>whnf
  exact RetA_view 0 rfl ⟨rfl, hit⟩
end Go.PX
namespace Go.PX
open Go.Proofs
def rightL (x : Pt × Pt) : List Pt → Int → Int
 | [], n => n
 | p :: r, n => rightL x r (if leftF x.2 (p.sub x.1) ≤ 0 then n + 1 else n)
def sideOk (s : Sand) (x : Pt × Pt) : Bool := decide (rightL x s.corners 0 = 2) && !(decide (x.2.x = 0) && decide (x.2.y = 0))
def sandE (s : Sand) : Int :=
 if inB s.corners.length 3 8 then (if (s.corners.any fun p => !withinB 10000 p) then 7 else if boxE 500 s.moves = 0 then (if (sidesF s).all (sideOk s) then 0 else 9) else boxE 500 s.moves) else 3
theorem mem_sidesL {m : Int} : ∀ {l : List Pt} {a : Pt}, Pin m a → (∀ p ∈ l, Pin m p) → ∀ x ∈ sidesL a l, Pin m x.1 ∧ Pin (m + m) x.2
 | [], _, _, _, x, hx => by cases hx
 | p :: r, a, ha, hl, x, hx => by
  rw [sidesL] at hx
  have hp := hl p (by simp)
  rcases List.mem_cons.1 hx with rfl | hx
  ·exact ⟨ha, hp.sub ha⟩
  ·exact mem_sidesL hp (fun q hq => hl q (by simp [hq])) x hx
theorem pin_last {m : Int} {l : List Pt} (h0 : 0 < l.length) (hl : ∀ p ∈ l, Pin m p) : Pin m (lastP l) := by
 unfold lastP
 have h1 : l.length - 1 < l.length := by omega
 rw [List.getElem?_eq_getElem h1]
 exact hl _ (List.getElem_mem h1)
theorem mem_sidesF {m : Int} {s : Sand} (h0 : 0 < s.corners.length) (hl : ∀ p ∈ s.corners, Pin m p) : ∀ x ∈ sidesF s, Pin m x.1 ∧ Pin (m + m) x.2 := mem_sidesL (pin_last h0 hl) hl
set_option maxHeartbeats 1000000 in
theorem ch65 (s : Sand) : FnV Tryz.prog 65 [.agg s.cells] (i64 (sandE s)) := by
 refine fnV_of mixed tysOk Tryz.func65 rfl (ft := ft65) 1 (by decide +kernel) (by rfl) fun {σ} Y st => ?_
 conv=>whnf
 refine CallA_view (fn51_1 3 8 s.corners.length) rfl 1 (by simp; rfl) ?_
 cases h1 : inB (s.corners.length : Int) 3 8 with
 | false =>
  have he : sandE s = 3 := by unfold sandE; rw [h1]; rfl
  rw [he]
  conv=>whnf
  exact RetA_view 0 rfl ⟨⟨rfl, rfl⟩, rfl⟩
 | true =>
  have h1b := h1
  rw [inB_iff] at h1
  conv=>whnf
  refine CallA_v (ch63 10000 s.corners (by omega) (by omega)) rfl rfl ?_
  conv=>whnf
  cases h2 : s.corners.any fun p => !withinB 10000 p with
  | true =>
   have he : sandE s = 7 := by unfold sandE; rw [h1b, h2]; rfl
   rw [he]
   conv=>whnf
   exact RetA_view 0 rfl ⟨⟨rfl, rfl⟩, rfl⟩
  | false =>
   have hp : ∀ p ∈ s.corners, Pin 10000 p := by
    intro p hp
    have := List.any_eq_false.1 h2 p hp
    exact within_iff.1 (by simpa using this)
   conv=>whnf
   refine CallA_v (ch85 s.moves 500 (by omega)) rfl rfl ?_
   conv=>whnf
   refine brk_i (fun h3 => ?_) (fun h3 => ?_)
   ·have h3 : ¬ boxE 500 s.moves = 0 := by simpa using h3
    have he : sandE s = boxE 500 s.moves := by unfold sandE; rw [h1b, h2, if_pos rfl, if_neg (by simp), if_neg h3]
    rw [he]
    conv=>whnf
    exact RetA_view 0 rfl ⟨⟨rfl, rfl⟩, rfl⟩
   ·have h3 : boxE 500 s.moves = 0 := by simpa using h3
    have he : sandE s = if (sidesF s).all (sideOk s) then 0 else 9 := by unfold sandE; rw [h1b, h2, if_pos rfl, if_neg (by simp), if_pos h3]
    rw [he]
    conv=>whnf
    refine CallA_v (ch103 s) rfl rfl ?_
    conv=>whnf
    refine RangeA_list tysOk (by exact drawsB_spec mixed tysOk (by decide +kernel)) (by exact drawsB_spec mixed tysOk (by decide +kernel)) rfl 1500000 1600000 [1, 2, 13] (yields124 s (by omega) (by omega) (fun p h => (hp p h).mono (by omega)))
     (fun (_ : Unit) => ([(1500000, .box (.dd s.cells)), (1500001, .box (.dd [i64 0])), (1500002, .arr 1 (.dd [[i64 (s.corners.map Pt.cells).length]]))], st))
     (fun rest _ => (sidesF s).all (sideOk s) = rest.all (sideOk s) ∧ ∀ x ∈ rest, Pin 10000 x.1 ∧ Pin 20000 x.2) () rfl rfl rfl ⟨rfl, mem_sidesF (by omega) hp⟩ ?_ ?_
    ·rintro ⟨a, b⟩ rest _ ⟨hk, hl⟩ Q hQ1 hQ2
     refine ⟨⟨rfl, rfl⟩, ?_⟩
     obtain ⟨ha, hb⟩ := hl (a, b) (by simp)
     simp only at ha hb
     rw [List.all_cons] at hk
     conv=>whnf
     refine LoopA_i (T := tys) tysOk (by exact drawsB_spec mixed tysOk (by decide +kernel)) s.corners (fun i (n : Int) => ⟨[(1, .ptr 1500000 0), (2, .ptr 1500001 0), (4, .ptr 4 0), (5, .d (i64 n)), (32, .d (ptsD s.corners)), (33, .d (i64 (s.corners.map Pt.cells).length)), (34, .d (i64 i))], [(1500000, .box (.dd s.cells)), (1500001, .box (.dd [i64 0])), (1500002, .arr 1 (.dd [[i64 (s.corners.map Pt.cells).length]])), (4, .box (.dd (a.cells ++ b.cells)))], st⟩) (fun i r n => 0 ≤ n ∧ n ≤ i ∧ rightL (a, b) s.corners 0 = rightL (a, b) r n) 0 (Wk.sub ⟨(by first | rfl | (simp only [List.length_map]; rfl) | simp [PX.get]), (by first | rfl | (simp only [List.length_map]; rfl) | simp [PX.get]), (by first | rfl | (simp only [List.length_map]; rfl) | simp [PX.get]), (by first | rfl | (simp only [List.length_map]; rfl) | simp [PX.get]), (by first | rfl | (simp only [List.length_map]; rfl) | simp [PX.get]), (by first | rfl | (simp only [List.length_map]; rfl) | simp [PX.get]), (by first | rfl | (simp only [List.length_map]; rfl) | simp [PX.get]), trivial⟩ ⟨(by first | rfl | (simp only [List.length_map]; rfl) | simp [PX.get]), (by first | rfl | (simp only [List.length_map]; rfl) | simp [PX.get]), (by first | rfl | (simp only [List.length_map]; rfl) | simp [PX.get]), (by first | rfl | (simp only [List.length_map]; rfl) | simp [PX.get]), trivial⟩) ⟨Int.le_refl _, by simp, rfl⟩ ?_ ?_
     ·rintro i p r n hpi hi hr ⟨hn1, hn2, hn3⟩
      rw [rightL] at hn3
      have hpp := hp p (List.mem_of_getElem? hpi)
      conv=>whnf
      refine brk_i (fun _ => ?_) (fun h => absurd hi (by simpa using h))
      conv=>whnf
      refine elemK_nat hpi ?_
      conv=>whnf
      refine DrawCall_view (ds := [a.d, p.d]) (ch81 a p (ha.mono (by omega)) (hpp.mono (by omega))) rfl 1 rfl ?_
      conv=>whnf
      refine DrawCall_view (ds := [b.d, (p.sub a).d]) (ch104 b (p.sub a) (hb.mono (by omega)) ((hpp.sub ha).mono (by omega))) rfl 1 rfl ?_
      conv=>whnf
      refine brk_i (fun h4 => ?_) (fun h4 => ?_)
      ·rw [if_pos (of_decide_eq_true h4)] at hn3
       conv=>whnf
       refine arith_in (wrap_i64 (by (try dsimp only); omega)) ?_
       conv=>whnf
       conv=>whnf
       refine arith_in (wrap_i64 (by (try dsimp only); omega)) ?_
       conv=>whnf
       exact ⟨n + 1, ⟨by omega, by omega, hn3⟩, (Wk.sub ⟨(by first | rfl | (simp only [List.length_map]; rfl) | simp [PX.get]), (by first | rfl | (simp only [List.length_map]; rfl) | simp [PX.get]), (by first | rfl | (simp only [List.length_map]; rfl) | simp [PX.get]), (by first | rfl | (simp only [List.length_map]; rfl) | simp [PX.get]), (by first | rfl | (simp only [List.length_map]; rfl) | simp [PX.get]), (by first | rfl | (simp only [List.length_map]; rfl) | simp [PX.get]), (by first | rfl | (simp only [List.length_map]; rfl) | simp [PX.get]), trivial⟩ ⟨(by first | rfl | (simp only [List.length_map]; rfl) | simp [PX.get]), (by first | rfl | (simp only [List.length_map]; rfl) | simp [PX.get]), (by first | rfl | (simp only [List.length_map]; rfl) | simp [PX.get]), (by first | rfl | (simp only [List.length_map]; rfl) | simp [PX.get]), trivial⟩)⟩
      ·rw [if_neg (of_decide_eq_false h4)] at hn3
       conv=>whnf
       refine arith_in (wrap_i64 (by (try dsimp only); omega)) ?_
       conv=>whnf
       exact ⟨n, ⟨by omega, by omega, hn3⟩, (Wk.sub ⟨(by first | rfl | (simp only [List.length_map]; rfl) | simp [PX.get]), (by first | rfl | (simp only [List.length_map]; rfl) | simp [PX.get]), (by first | rfl | (simp only [List.length_map]; rfl) | simp [PX.get]), (by first | rfl | (simp only [List.length_map]; rfl) | simp [PX.get]), (by first | rfl | (simp only [List.length_map]; rfl) | simp [PX.get]), (by first | rfl | (simp only [List.length_map]; rfl) | simp [PX.get]), (by first | rfl | (simp only [List.length_map]; rfl) | simp [PX.get]), trivial⟩ ⟨(by first | rfl | (simp only [List.length_map]; rfl) | simp [PX.get]), (by first | rfl | (simp only [List.length_map]; rfl) | simp [PX.get]), (by first | rfl | (simp only [List.length_map]; rfl) | simp [PX.get]), (by first | rfl | (simp only [List.length_map]; rfl) | simp [PX.get]), trivial⟩)⟩
     ·rintro n ⟨hn1, hn2, hn3⟩
      conv=>whnf
      refine brk_i (fun h => absurd h (by simp)) (fun _ => ?_)
      conv=>whnf
      have hbad : sideOk s (a, b) = false → (sidesF s).all (sideOk s) = false := fun h => by rw [hk, h, Bool.false_and]
      have hso : sideOk s (a, b) = (decide (n = 2) && !(decide (b.x = 0) && decide (b.y = 0))) := by
       unfold sideOk
       rw [hn3, rightL]
      cases h5 : decide (n = 2) with
      | false =>
       have h6 := hbad (by rw [hso, h5]; rfl)
       conv=>whnf
       refine ⟨[(1500000, .box (.dd s.cells)), (1500001, .box (.dd [i64 9])), (1500002, .arr 1 (.dd [[i64 (s.corners.map Pt.cells).length]]))], st, (Wk.sub trivial ⟨(by first | rfl | (simp only [List.length_map]; rfl) | simp [PX.get]), (by first | rfl | (simp only [List.length_map]; rfl) | simp [PX.get]), (by first | rfl | (simp only [List.length_map]; rfl) | simp [PX.get]), trivial⟩), rfl, hQ2 _ _ _ ?_⟩
       conv=>whnf
       rw [h6]
       exact RetA_view 0 rfl ⟨⟨rfl, rfl⟩, rfl⟩
      | true =>
       conv=>whnf
       refine brk_i (fun h6 => ?_) (fun h6 => ?_)
       ·have h6 := hbad (by rw [hso, h5]; rw [Bool.and_true] at h6; rw [h6]; rfl)
        conv=>whnf
        refine ⟨[(1500000, .box (.dd s.cells)), (1500001, .box (.dd [i64 9])), (1500002, .arr 1 (.dd [[i64 (s.corners.map Pt.cells).length]]))], st, (Wk.sub trivial ⟨(by first | rfl | (simp only [List.length_map]; rfl) | simp [PX.get]), (by first | rfl | (simp only [List.length_map]; rfl) | simp [PX.get]), (by first | rfl | (simp only [List.length_map]; rfl) | simp [PX.get]), trivial⟩), rfl, hQ2 _ _ _ ?_⟩
        conv=>whnf
        rw [h6]
        exact RetA_view 0 rfl ⟨⟨rfl, rfl⟩, rfl⟩
       ·conv=>whnf
        refine ⟨(), (Wk.sub trivial ⟨(by first | rfl | (simp only [List.length_map]; rfl) | simp [PX.get]), (by first | rfl | (simp only [List.length_map]; rfl) | simp [PX.get]), (by first | rfl | (simp only [List.length_map]; rfl) | simp [PX.get]), trivial⟩), rfl, hQ1 _ ⟨?_, fun x hx => hl x (by simp [hx])⟩⟩
        rw [hk, hso, h5]; rw [Bool.and_true] at h6; rw [h6]; rfl
    ·rintro _ ⟨hk, _⟩
     rw [hk]
     conv=>whnf
     exact RetA_view 0 rfl ⟨⟨rfl, rfl⟩, rfl⟩
end Go.PX
namespace Go.PX
open Go.Proofs
abbrev Nms := List (ByteArray × Int)
def incS (m : Nms) (n : ByteArray) : Nms := putM m n ((getM m n).getD 0 + 1)
def freshE (m : Nms) (n : ByteArray) : Int := if nameF n then (if (getM m n).getD 0 + 1 > 1 then 5 else 0) else 6
def nmsH (m : Nms) : Heap := [(1000000, .box (.vv [.mp 1000001])), (1000001, .map (kvG D.str m))]
theorem same_str (a b : ByteArray) : sameD (.str a) (.str b) = some (decide (a = b)) := rfl
theorem find_inc (m : Nms) (n : ByteArray) : ∃ i, findD (.str n) (kvG D.str (incS m n)) 0 = some (some (i, i64 ((getM m n).getD 0 + 1))) := by
 obtain ⟨i, _, h1, _⟩ := findG_some (kd := D.str) same_str (t := n) (v := (getM m n).getD 0 + 1) (m := incS m n) (by unfold incS; rw [getM_put, if_pos rfl]) 0
 exact ⟨0 + i, h1⟩
theorem ch62 (m : Nms) (n : ByteArray) (hb : ∀ v, getM m n = some v → 0 ≤ v ∧ v < 1000000) : FnU Tryz.prog 62 [.d (.str n), .ptr 1000000 0] (nmsH m) fun v h' => v = .d (i64 (freshE m n)) ∧ h' = nmsH (incS m n) := by
 intro σ Y s
 refine fnC_of mixed tysOk Tryz.func62 rfl (ft := ft62) (args := [.d (.str n), .ptr 1000000 0]) (show fnB ft62 Tryz.f62 2 = true from by decide +kernel) ?_
 conv=>whnf
 cases hg : getM m n with
 | none =>
  have g1 := findG_none (kd := D.str) same_str hg 0
  refine findK.mk _ g1 ?_
  conv=>whnf
  refine arith_in (wrap_i64 (by (try dsimp only); omega)) ?_
  conv=>whnf
  refine findK.mk _ g1 ?_
  conv=>whnf
  have hm2 : kvG D.str m ++ [(D.str n, i64 (0 + 1))] = kvG D.str (incS m n) := (by rw [show i64 (0 + 1) = D.int .i64 1 from rfl, putG_none (kd := D.str) 1 hg, incS, hg]; rfl)
  obtain ⟨j, hj⟩ := find_inc m n
  refine CallA_v (fn47 n) rfl rfl ?_
  conv=>whnf
  cases hn : nameF n with
  | false =>
   have he : freshE m n = 6 := by unfold freshE; rw [hn]; rfl
   rw [he]
   conv=>whnf
   refine RetA_hand [] [.d (i64 6)] (nmsH (incS m n)) rfl ⟨rfl, congrArg (fun z => some (Obj.map z)) hm2, trivial⟩ rfl ⟨⟨rfl, rfl⟩, rfl⟩
  | true =>
   conv=>whnf
   refine findK.mk _ (show findD (.str n) (kvG D.str m ++ [(D.str n, i64 (0 + 1))]) 0 = some (some (j, i64 ((getM m n).getD 0 + 1))) from hm2 ▸ hj) ?_
   conv=>whnf
   refine brk_i (fun h1 => ?_) (fun h1 => ?_)
   ·have he : freshE m n = 5 := by unfold freshE; rw [hn, if_pos rfl, if_pos (of_decide_eq_true h1)]
    rw [he]
    conv=>whnf
    refine RetA_hand [] [.d (i64 5)] (nmsH (incS m n)) rfl ⟨rfl, congrArg (fun z => some (Obj.map z)) hm2, trivial⟩ rfl ⟨⟨rfl, rfl⟩, rfl⟩
   ·have he : freshE m n = 0 := by unfold freshE; rw [hn, if_pos rfl, if_neg (of_decide_eq_false h1)]
    rw [he]
    conv=>whnf
    refine RetA_hand [] [.d (i64 0)] (nmsH (incS m n)) rfl ⟨rfl, congrArg (fun z => some (Obj.map z)) hm2, trivial⟩ rfl ⟨⟨rfl, rfl⟩, rfl⟩
 | some v =>
  obtain ⟨i, _, g1, g3, _⟩ := findG_some (kd := D.str) same_str hg 0
  have := hb v hg
  refine findK.mk _ g1 ?_
  conv=>whnf
  refine arith_in (wrap_i64 (by (try dsimp only); omega)) ?_
  conv=>whnf
  refine findK.mk _ g1 ?_
  conv=>whnf
  have hm2 : (kvG D.str m).set (0 + i) (D.str n, i64 (v + 1)) = kvG D.str (incS m n) := (by rw [Nat.zero_add]; exact (g3 (v + 1)).trans (by rw [incS, hg]; rfl))
  obtain ⟨j, hj⟩ := find_inc m n
  refine CallA_v (fn47 n) rfl rfl ?_
  conv=>whnf
  cases hn : nameF n with
  | false =>
   have he : freshE m n = 6 := by unfold freshE; rw [hn]; rfl
   rw [he]
   conv=>whnf
   refine RetA_hand [] [.d (i64 6)] (nmsH (incS m n)) rfl ⟨rfl, congrArg (fun z => some (Obj.map z)) hm2, trivial⟩ rfl ⟨⟨rfl, rfl⟩, rfl⟩
  | true =>
   conv=>whnf
   refine findK.mk _ (show findD (.str n) ((kvG D.str m).set (0 + i) (D.str n, i64 (v + 1))) 0 = some (some (j, i64 ((getM m n).getD 0 + 1))) from hm2 ▸ hj) ?_
   conv=>whnf
   refine brk_i (fun h1 => ?_) (fun h1 => ?_)
   ·have he : freshE m n = 5 := by unfold freshE; rw [hn, if_pos rfl, if_pos (of_decide_eq_true h1)]
    rw [he]
    conv=>whnf
    refine RetA_hand [] [.d (i64 5)] (nmsH (incS m n)) rfl ⟨rfl, congrArg (fun z => some (Obj.map z)) hm2, trivial⟩ rfl ⟨⟨rfl, rfl⟩, rfl⟩
   ·have he : freshE m n = 0 := by unfold freshE; rw [hn, if_pos rfl, if_neg (of_decide_eq_false h1)]
    rw [he]
    conv=>whnf
    refine RetA_hand [] [.d (i64 0)] (nmsH (incS m n)) rfl ⟨rfl, congrArg (fun z => some (Obj.map z)) hm2, trivial⟩ rfl ⟨⟨rfl, rfl⟩, rfl⟩
def farM (m : Mark) : Bool := !withinB 30000 m.at'
def markE (ns : Nms) (m : Mark) : Int :=
 if freshE ns m.name = 0 then (if farM m then 7 else paintE m.paints) else freshE ns m.name
def marksL : Nms → Int → List Mark → (Int × Int) ⊕ Nms
 | ns, _, [] => .inr ns
 | ns, i, m :: r => if markE ns m = 0 then marksL (incS ns m.name) (i + 1) r else .inl (i, markE ns m)
def sandE' (ns : Nms) (s : Sand) : Int := if freshE ns s.name = 0 then sandE s else freshE ns s.name
def sandsL : Nms → Int → List Sand → Int × Int × Int
 | _, _, [] => (0, 0, 0)
 | ns, i, s :: r => if sandE' ns s = 0 then sandsL (incS ns s.name) (i + 1) r else (2, i, sandE' ns s)
def checkX (c : Cht) : Int × Int × Int :=
 if c.marks.length > 8 then (1, 0, 3) else match marksL [] 0 c.marks with
 | .inl (i, e) => (1, i, e)
 | .inr ns => if c.sands.length > 4 then (2, 0, 3) else sandsL ns 0 c.sands
def NmsOk (ns : Nms) (k : Nat) : Prop := ∀ n v, getM ns n = some v → 0 ≤ v ∧ v ≤ k
theorem NmsOk.inc {ns : Nms} {k : Nat} (h : NmsOk ns k) (n : ByteArray) : NmsOk (incS ns n) (k + 1) := by
 intro u v hv
 unfold incS at hv
 rw [getM_put] at hv
 split at hv
 ·cases hv
  cases hg : getM ns n with
  | none => simp only [Option.getD_none]; omega
  | some w => have := h n w hg; simp only [Option.getD_some]; omega
 ·have := h u v hv; omega
set_option maxHeartbeats 4000000 in
theorem ch20 (c : Cht) : FnV Tryz.prog 20 [c.d] (.tup [i64 (checkX c).1, i64 (checkX c).2.1, i64 (checkX c).2.2]) := by
 refine fnV_of mixed tysOk Tryz.func20 rfl (ft := ft20) 1 (by decide +kernel) (by rfl) fun {σ} Y st => ?_
 conv=>whnf
 refine brk_i (fun h0 => ?_) (fun h0 => ?_)
 ·have h0 : c.marks.length > 8 := by have := of_decide_eq_true h0; simp at this; omega
  have he : checkX c = (1, 0, 3) := by unfold checkX; rw [if_pos h0]
  rw [he]
  conv=>whnf
  exact RetA_view 0 rfl ⟨⟨rfl, rfl⟩, rfl⟩
 have h0 : ¬ c.marks.length > 8 := by have := of_decide_eq_false h0; simp at this; omega
 have he : checkX c = match marksL [] 0 c.marks with
  | .inl (i, e) => (1, i, e)
  | .inr ns => if c.sands.length > 4 then (2, 0, 3) else sandsL ns 0 c.sands := by unfold checkX; rw [if_neg h0]
 conv=>whnf
 refine LoopA_i (T := tys) tysOk (by exact drawsB_spec mixed tysOk (by decide +kernel)) c.marks (fun i (ns : Nms) => ⟨[(1, .ptr 1 0), (6, .clo 62 [.ptr 5 0]), (18, .d (marksD c.marks)), (19, .d (i64 (c.marks.map Mark.cells).length)), (20, .d (i64 i))], [(1, .box (.dd c.cells)), (5, .box (.vv [.mp 11])), (11, .map (kvG D.str ns))], st⟩) (fun i r ns => NmsOk ns i ∧ marksL [] 0 c.marks = marksL ns i r) [] (Wk.sub ⟨(by first | rfl | (simp only [List.length_map]; rfl) | simp [PX.get]), (by first | rfl | (simp only [List.length_map]; rfl) | simp [PX.get]), (by first | rfl | (simp only [List.length_map]; rfl) | simp [PX.get]), (by first | rfl | (simp only [List.length_map]; rfl) | simp [PX.get]), (by first | rfl | (simp only [List.length_map]; rfl) | simp [PX.get]), trivial⟩ ⟨(by first | rfl | (simp only [List.length_map]; rfl) | simp [PX.get]), (by first | rfl | (simp only [List.length_map]; rfl) | simp [PX.get]), (by first | rfl | (simp only [List.length_map]; rfl) | simp [PX.get]), trivial⟩) ⟨fun n v h => by simp [getM] at h, rfl⟩ ?_ ?_
 ·rintro i m r ns hmi hi hr ⟨hns, hk⟩
  rw [marksL] at hk
  conv=>whnf
  refine brk_i (fun _ => ?_) (fun h => absurd hi (by simpa using h))
  conv=>whnf
  refine elemK_nat hmi ?_
  conv=>whnf
  refine CallA_fn (ch62 ns m.name (fun v hv => by have := hns _ v hv; omega)) [5, 11] rfl ⟨_, _, rfl, rfl, _, _, rfl, rfl, rfl⟩ rfl ?_
  conv=>whnf
  by_cases hf : freshE ns m.name = 0
  case neg =>
   have hm : markE ns m = freshE ns m.name := by unfold markE; rw [if_neg hf]
   rw [hm, if_neg hf] at hk
   have he2 : checkX c = (1, (i : Int), freshE ns m.name) := by rw [he, hk]
   rw [he2, decide_eq_false hf]
   conv=>whnf
   refine brk_i (fun h => absurd h (by simp [hf])) (fun _ => ?_)
   conv=>whnf
   refine brk_i (fun _ => ?_) (fun h => absurd h (by simp [hf]))
   conv=>whnf
   exact RetA_view 0 rfl ⟨⟨rfl, rfl⟩, rfl⟩
  rw [decide_eq_true hf]
  conv=>whnf
  refine CallA_view (ds := [i64 30000, ptsD [m.at']]) (ch63 30000 [m.at'] (by omega) (by simp)) rfl 1 rfl ?_
  have hfar : ([m.at'].any fun p => !withinB 30000 p) = farM m := by simp [farM]
  rw [hfar]
  cases hfm : farM m with
  | true =>
   have hm : markE ns m = 7 := by unfold markE; rw [if_pos hf, hfm]; rfl
   rw [hm, if_neg (by simp)] at hk
   have he2 : checkX c = (1, (i : Int), 7) := by rw [he, hk]
   rw [he2]
   conv=>whnf
   exact RetA_view 0 rfl ⟨⟨rfl, rfl⟩, rfl⟩
  | false =>
   have hm : markE ns m = paintE m.paints := by unfold markE; rw [if_pos hf, hfm]; rfl
   rw [hm] at hk
   conv=>whnf
   refine brk_i (fun _ => ?_) (fun h => absurd h (by simp [hf]))
   conv=>whnf
   refine CallA_v (ch64 m.paints) rfl rfl ?_
   conv=>whnf
   refine brk_i (fun hp => ?_) (fun hp => ?_)
   ·have hp : ¬ paintE m.paints = 0 := by simpa using hp
    rw [if_neg hp] at hk
    have he2 : checkX c = (1, (i : Int), paintE m.paints) := by rw [he, hk]
    rw [he2]
    conv=>whnf
    exact RetA_view 0 rfl ⟨⟨rfl, rfl⟩, rfl⟩
   ·have hp : paintE m.paints = 0 := by simpa using hp
    rw [if_pos hp] at hk
    conv=>whnf
    refine arith_in (wrap_i64 (by (try dsimp only); omega)) ?_
    conv=>whnf
    exact ⟨incS ns m.name, ⟨hns.inc _, hk⟩, (Wk.sub ⟨(by first | rfl | (simp only [List.length_map]; rfl) | simp [PX.get]), (by first | rfl | (simp only [List.length_map]; rfl) | simp [PX.get]), (by first | rfl | (simp only [List.length_map]; rfl) | simp [PX.get]), (by first | rfl | (simp only [List.length_map]; rfl) | simp [PX.get]), (by first | rfl | (simp only [List.length_map]; rfl) | simp [PX.get]), trivial⟩ ⟨(by first | rfl | (simp only [List.length_map]; rfl) | simp [PX.get]), (by first | rfl | (simp only [List.length_map]; rfl) | simp [PX.get]), (by first | rfl | (simp only [List.length_map]; rfl) | simp [PX.get]), trivial⟩)⟩
 ·rintro ns ⟨hns, hk⟩
  have he2 : checkX c = if c.sands.length > 4 then (2, 0, 3) else sandsL ns 0 c.sands := by rw [he, hk, marksL]
  conv=>whnf
  refine brk_i (fun h => absurd h (by simp)) (fun _ => ?_)
  conv=>whnf
  refine brk_i (fun h1 => ?_) (fun h1 => ?_)
  ·have h1 : c.sands.length > 4 := by have := of_decide_eq_true h1; simp at this; omega
   rw [if_pos h1] at he2
   rw [he2]
   conv=>whnf
   exact RetA_view 0 rfl ⟨⟨rfl, rfl⟩, rfl⟩
  have h1 : ¬ c.sands.length > 4 := by have := of_decide_eq_false h1; simp at this; omega
  rw [if_neg h1] at he2
  conv=>whnf
  refine LoopA_i (T := tys) tysOk (by exact drawsB_spec mixed tysOk (by decide +kernel)) c.sands (fun i (ns : Nms) => ⟨[(1, .ptr 1 0), (6, .clo 62 [.ptr 5 0]), (52, .d (sandsD c.sands)), (53, .d (i64 (c.sands.map Sand.cells).length)), (54, .d (i64 i))], [(1, .box (.dd c.cells)), (5, .box (.vv [.mp 11])), (11, .map (kvG D.str ns))], st⟩) (fun i r ns => NmsOk ns (8 + i) ∧ checkX c = sandsL ns i r) ns (Wk.sub ⟨(by first | rfl | (simp only [List.length_map]; rfl) | simp [PX.get]), (by first | rfl | (simp only [List.length_map]; rfl) | simp [PX.get]), (by first | rfl | (simp only [List.length_map]; rfl) | simp [PX.get]), (by first | rfl | (simp only [List.length_map]; rfl) | simp [PX.get]), (by first | rfl | (simp only [List.length_map]; rfl) | simp [PX.get]), trivial⟩ ⟨(by first | rfl | (simp only [List.length_map]; rfl) | simp [PX.get]), (by first | rfl | (simp only [List.length_map]; rfl) | simp [PX.get]), (by first | rfl | (simp only [List.length_map]; rfl) | simp [PX.get]), trivial⟩) ⟨fun n v h => by have := hns n v h; omega, he2⟩ ?_ ?_
  ·rintro i m r ns hmi hi hr ⟨hns, hk⟩
   rw [sandsL] at hk
   conv=>whnf
   refine brk_i (fun _ => ?_) (fun h => absurd hi (by simpa using h))
   conv=>whnf
   refine elemK_nat hmi ?_
   conv=>whnf
   refine CallA_fn (ch62 ns m.name (fun v hv => by have := hns _ v hv; omega)) [5, 11] rfl ⟨_, _, rfl, rfl, _, _, rfl, rfl, rfl⟩ rfl ?_
   conv=>whnf
   by_cases hf : freshE ns m.name = 0
   case neg =>
    have hm : sandE' ns m = freshE ns m.name := by unfold sandE'; rw [if_neg hf]
    rw [hm, if_neg hf] at hk
    rw [hk, decide_eq_false hf]
    conv=>whnf
    refine brk_i (fun _ => ?_) (fun h => absurd h (by simp [hf]))
    conv=>whnf
    exact RetA_view 0 rfl ⟨⟨rfl, rfl⟩, rfl⟩
   have hm : sandE' ns m = sandE m := by unfold sandE'; rw [if_pos hf]
   rw [hm] at hk
   rw [decide_eq_true hf]
   conv=>whnf
   refine CallA_v (ch65 m) rfl rfl ?_
   conv=>whnf
   refine brk_i (fun hp => ?_) (fun hp => ?_)
   ·have hp : ¬ sandE m = 0 := by simpa using hp
    rw [if_neg hp] at hk
    rw [hk]
    conv=>whnf
    exact RetA_view 0 rfl ⟨⟨rfl, rfl⟩, rfl⟩
   ·have hp : sandE m = 0 := by simpa using hp
    rw [if_pos hp] at hk
    conv=>whnf
    refine arith_in (wrap_i64 (by (try dsimp only); omega)) ?_
    conv=>whnf
    exact ⟨incS ns m.name, ⟨hns.inc _, hk⟩, (Wk.sub ⟨(by first | rfl | (simp only [List.length_map]; rfl) | simp [PX.get]), (by first | rfl | (simp only [List.length_map]; rfl) | simp [PX.get]), (by first | rfl | (simp only [List.length_map]; rfl) | simp [PX.get]), (by first | rfl | (simp only [List.length_map]; rfl) | simp [PX.get]), (by first | rfl | (simp only [List.length_map]; rfl) | simp [PX.get]), trivial⟩ ⟨(by first | rfl | (simp only [List.length_map]; rfl) | simp [PX.get]), (by first | rfl | (simp only [List.length_map]; rfl) | simp [PX.get]), (by first | rfl | (simp only [List.length_map]; rfl) | simp [PX.get]), trivial⟩)⟩
  ·rintro ns ⟨hns, hk⟩
   rw [sandsL] at hk
   rw [hk]
   conv=>whnf
   refine brk_i (fun h => absurd h (by simp)) (fun _ => ?_)
   conv=>whnf
   exact RetA_view 0 rfl ⟨⟨rfl, rfl⟩, rfl⟩
end Go.PX
namespace Go.PX
open Go.Proofs
def openX (c : Cht) (p : Pt) : Int := if (checkX c).2.2 = 0 then (if withinB 10000 p then 0 else 7) else (checkX c).2.2
theorem ch70 (c : Cht) (p : Pt) : FnV Tryz.prog 70 [c.d, p.d] (i64 (openX c p)) := by
 refine fnV_of mixed tysOk Tryz.func70 rfl (ft := ft70) 2 (by decide +kernel) (by rfl) fun {σ} Y st => ?_
 conv=>whnf
 refine CallA_v (ch20 c) rfl rfl ?_
 conv=>whnf
 by_cases h0 : (checkX c).2.2 = 0
 case neg =>
  have he : openX c p = (checkX c).2.2 := by unfold openX; rw [if_neg h0]
  rw [he, decide_eq_false h0]
  conv=>whnf
  exact RetA_view 0 rfl ⟨⟨rfl, rfl⟩, rfl⟩
 have he : openX c p = if withinB 10000 p then 0 else 7 := by unfold openX; rw [if_pos h0]
 rw [he, decide_eq_true h0]
 conv=>whnf
 refine CallA_view (ds := [i64 10000, ptsD [p]]) (ch63 10000 [p] (by omega) (by simp)) rfl 1 rfl ?_
 have hfar : ([p].any fun p => !withinB 10000 p) = !withinB 10000 p := by simp
 rw [hfar]
 cases withinB 10000 p with
 | true =>
  conv=>whnf
  rw [h0]
  exact RetA_view 0 rfl ⟨⟨rfl, rfl⟩, rfl⟩
 | false =>
  conv=>whnf
  exact RetA_view 0 rfl ⟨⟨rfl, rfl⟩, rfl⟩
theorem floor_eq {n b : Int} (hb : 0 < b) : (if n.tmod b < 0 then n.tdiv b - 1 else n.tdiv b) = n / b := by
 rcases Int.lt_or_le n 0 with hn | hn
 ·have h1 := Int.mul_tdiv_add_tmod n b
  have h2 : -b < n.tmod b := by
   have := Int.tmod_lt_of_pos (-n) hb
   rw [Int.neg_tmod] at this; omega
  have h3 : n.tmod b ≤ 0 := by
   have := Int.tmod_nonneg b (show (0 : Int) ≤ -n by omega)
   rw [Int.neg_tmod] at this; omega
  split
  ·rename_i h4
   refine Int.le_antisymm ?_ ?_
   ·rw [Int.le_ediv_iff_mul_le hb, Int.sub_mul, Int.mul_comm]; omega
   ·have : n / b < n.tdiv b := by
     rw [Int.ediv_lt_iff_lt_mul hb, Int.mul_comm]; omega
    omega
  ·rename_i h4
   have h5 : n.tmod b = 0 := by omega
   refine Int.le_antisymm ?_ ?_
   ·rw [Int.le_ediv_iff_mul_le hb, Int.mul_comm]; omega
   ·have : n / b < n.tdiv b + 1 := by
     rw [Int.ediv_lt_iff_lt_mul hb, Int.add_mul, Int.mul_comm]; omega
    omega
 ·rw [Int.tdiv_eq_ediv_of_nonneg hn, Int.tmod_eq_emod_of_nonneg hn, if_neg (by have := Int.emod_nonneg n (show b ≠ 0 by omega); omega)]
theorem ch125 (n b : Int) (hb : 0 < b) (hn : -4000000000000000000 ≤ n ∧ n ≤ 4000000000000000000) : FnV Tryz.prog 125 [i64 n, i64 b] (i64 (n / b)) := by
 refine fnV_of mixed tysOk Tryz.func125 rfl (ft := ft125) 2 (by decide +kernel) (by rfl) fun {σ} Y st => ?_
 conv=>whnf
 have hq := floor_eq (n := n) hb
 have hq1 : -4000000000000000000 ≤ n / b := by
  rw [Int.le_ediv_iff_mul_le hb]
  have : -4000000000000000000 * b ≤ -4000000000000000000 * 1 := by omega
  omega
 have hq2 : n / b ≤ 4000000000000000000 := by
  have : n / b < 4000000000000000001 := by
   rw [Int.ediv_lt_iff_lt_mul hb]; omega
  omega
 refine chk_i (by simp; omega) ?_
 by_cases h1 : n.tmod b < 0
 ·rw [if_pos h1] at hq
  refine arith_to (n.tdiv b) rfl (wrap_i64 (by omega)) ?_
  conv=>whnf
  refine chk_i (by simp; omega) ?_
  conv=>whnf
  refine brk_i (fun _ => ?_) (fun h => absurd h (by simp [h1]))
  conv=>whnf
  refine arith_in (wrap_i64 (by (try dsimp only); omega)) ?_
  conv=>whnf
  conv=>whnf
  rw [hq]
  exact RetA_view 0 rfl ⟨⟨rfl, rfl⟩, rfl⟩
 ·rw [if_neg h1] at hq
  refine arith_to (n.tdiv b) rfl (wrap_i64 (by omega)) ?_
  conv=>whnf
  refine chk_i (by simp; omega) ?_
  conv=>whnf
  refine brk_i (fun h => absurd h (by simp [h1])) (fun _ => ?_)
  conv=>whnf
  rw [hq]
  exact RetA_view 0 rfl ⟨⟨rfl, rfl⟩, rfl⟩
def cutF (l : Span) (f n : Int) : Span :=
 if 0 < f then ⟨max l.lo (-((-n) / f)), l.hi⟩ else if f < 0 then ⟨l.lo, min l.hi ((-n) / (-f))⟩ else if 0 < n then ⟨l.lo, l.lo - 1⟩ else l
theorem ch107 (l : Span) (f n : Int) (hl : -4000000000000000000 ≤ l.lo ∧ l.lo ≤ 4000000000000000000) (hf : -1000000 ≤ f ∧ f ≤ 1000000) (hn : -4000000000000000000 ≤ n ∧ n ≤ 4000000000000000000) : FnV Tryz.prog 107 [.agg (Span.cells l), i64 f, i64 n] (.agg (Span.cells (cutF l f n))) := by
 refine fnV_of mixed tysOk Tryz.func107 rfl (ft := ft107) 3 (by decide +kernel) (by rfl) fun {σ} Y st => ?_
 conv=>whnf
 unfold cutF
 refine brk_i (fun h1 => ?_) (fun h1 => ?_)
 ·have h1 : 0 < f := of_decide_eq_true h1
  rw [if_pos h1]
  have hq1 : -4000000000000000000 ≤ (-n) / f := by
   rw [Int.le_ediv_iff_mul_le h1]; omega
  have hq2 : (-n) / f ≤ 4000000000000000000 := by
   have : (-n) / f < 4000000000000000001 := by
    rw [Int.ediv_lt_iff_lt_mul h1]; omega
   omega
  conv=>whnf
  refine arith_to ((-n)) (by (try dsimp only); omega) (wrap_i64 (by (try dsimp only); omega)) ?_
  conv=>whnf
  refine DrawCall_view (ds := [i64 (-n), i64 f]) (ch125 (-n) f h1 (by omega)) rfl 1 rfl ?_
  conv=>whnf
  refine arith_to ((-((-n) / f))) (by (try dsimp only); omega) (wrap_i64 (by (try dsimp only); omega)) ?_
  conv=>whnf
  exact RetA_view 0 rfl ⟨⟨rfl, rfl⟩, rfl⟩
 ·have h1 : ¬ 0 < f := of_decide_eq_false h1
  rw [if_neg h1]
  conv=>whnf
  refine brk_i (fun h2 => ?_) (fun h2 => ?_)
  ·have h2 : f < 0 := of_decide_eq_true h2
   have h3 : 0 < -f := by omega
   rw [if_pos h2]
   have hq1 : -4000000000000000000 ≤ (-n) / (-f) := by
    rw [Int.le_ediv_iff_mul_le h3]; omega
   have hq2 : (-n) / (-f) ≤ 4000000000000000000 := by
    have : (-n) / (-f) < 4000000000000000001 := by
     rw [Int.ediv_lt_iff_lt_mul h3]; omega
    omega
   conv=>whnf
   refine arith_to ((-n)) (by (try dsimp only); omega) (wrap_i64 (by (try dsimp only); omega)) ?_
   conv=>whnf
   refine arith_to ((-f)) (by (try dsimp only); omega) (wrap_i64 (by (try dsimp only); omega)) ?_
   conv=>whnf
   refine DrawCall_view (ds := [i64 (-n), i64 (-f)]) (ch125 (-n) (-f) h3 (by omega)) rfl 1 rfl ?_
   conv=>whnf
   exact RetA_view 0 rfl ⟨⟨rfl, rfl⟩, rfl⟩
  ·rw [if_neg (of_decide_eq_false h2)]
   conv=>whnf
   refine brk_i (fun h2 => ?_) (fun h2 => ?_)
   ·rw [if_pos (of_decide_eq_true h2)]
    conv=>whnf
    refine arith_in (wrap_i64 (by (try dsimp only); omega)) ?_
    conv=>whnf
    conv=>whnf
    exact RetA_view 0 rfl ⟨⟨rfl, rfl⟩, rfl⟩
   ·rw [if_neg (of_decide_eq_false h2)]
    conv=>whnf
    exact RetA_view 0 rfl ⟨⟨rfl, rfl⟩, rfl⟩
theorem cutF_bd {l : Span} {f n : Int} (hl : -4000000000000000000 ≤ l.lo ∧ l.lo ≤ 4000000000000000000) (hn : -4000000000000000000 ≤ n ∧ n ≤ 4000000000000000000) : -4000000000000000000 ≤ (cutF l f n).lo ∧ (cutF l f n).lo ≤ 4000000000000000000 := by
 unfold cutF
 split
 ·rename_i h1
  have hq1 : -4000000000000000000 ≤ (-n) / f := by
   rw [Int.le_ediv_iff_mul_le h1]; omega
  have hq2 : (-n) / f ≤ 4000000000000000000 := by
   have : (-n) / f < 4000000000000000001 := by
    rw [Int.ediv_lt_iff_lt_mul h1]; omega
   omega
  simp only
  omega
 ·split
  ·exact hl
  ·split
   ·exact hl
   ·exact hl
structure SandR (s : Sand) : Prop where
 len : 3 ≤ s.corners.length ∧ s.corners.length ≤ 8
 pin : ∀ p ∈ s.corners, Pin 10000 p
 x : -500 ≤ s.moves.x.lo ∧ s.moves.x.lo ≤ s.moves.x.hi ∧ s.moves.x.hi ≤ 500 ∧ s.moves.x.hi - s.moves.x.lo ≤ 40
 y : -500 ≤ s.moves.y.lo ∧ s.moves.y.lo ≤ s.moves.y.hi ∧ s.moves.y.hi ≤ 500 ∧ s.moves.y.hi - s.moves.y.lo ≤ 40
 sides : ∀ x ∈ sidesF s, sideOk s x = true
theorem sandE_ok {s : Sand} (h : sandE s = 0) : SandR s := by
 unfold sandE at h
 split at h
 case isFalse => cases h
 rename_i h1
 split at h
 ·cases h
 rename_i h2
 split at h
 case isFalse => rename_i h3; exact absurd h h3
 rename_i h3
 split at h
 case isFalse => cases h
 rename_i h4
 rw [inB_iff] at h1
 unfold boxE at h3
 split at h3
 case isFalse => cases h3
 rename_i h5
 split at h3
 case isFalse => cases h3
 rename_i h6
 simp only [Bool.and_eq_true, inB_iff] at h5 h6
 refine ⟨by omega, fun p hp => ?_, by omega, by omega, fun x hx => List.all_eq_true.1 h4 x hx⟩
 have := List.any_eq_false.1 (by simpa using h2 : (s.corners.any fun p => !withinB 10000 p) = false) p hp
 exact within_iff.1 (by simpa using this)
def rowStep (x : Int) (p : Pt) (l : Span) (z : Pt × Pt) : Span := cutF l (-z.2.x) (z.2.y * ((p.x - z.1.x) - x) - z.2.x * (p.y - z.1.y))
def rowsX (s : Sand) (x : Int) (p : Pt) : Span := (sidesF s).foldl (rowStep x p) s.moves.y
set_option maxHeartbeats 1000000 in
theorem ch71 (s : Sand) (hR : SandR s) (x : Int) (hx : -500 ≤ x ∧ x ≤ 500) (p : Pt) (hp : Pin 10000 p) : FnV Tryz.prog 71 [.agg s.cells, i64 x, p.d] (.agg (rowsX s x p).cells) := by
 refine fnV_of mixed tysOk Tryz.func71 rfl (ft := ft71) 3 (by decide +kernel) (by rfl) fun {σ} Y st => ?_
 conv=>whnf
 have hlen := hR.len
 refine CallA_v (ch103 s) rfl rfl ?_
 conv=>whnf
 refine RangeA_list tysOk (by exact drawsB_spec mixed tysOk (by decide +kernel)) (by exact drawsB_spec mixed tysOk (by decide +kernel)) rfl 1500000 1600000 [3, 4, 5, 6, 7] (yields124 s (by omega) (by omega) (fun p h => (hR.pin p h).mono (by omega)))
  (fun (l : Span) => ([(1500000, .box (.dd s.cells)), (1500001, .box (.dd [i64 x])), (1500002, .box (.dd p.cells)), (1500003, .box (.dd [i64 0, i64 0])), (1500004, .box (.dd l.cells))], st))
  (fun rest l => rowsX s x p = rest.foldl (rowStep x p) l ∧ (∀ x ∈ rest, Pin 10000 x.1 ∧ Pin 20000 x.2) ∧ -4000000000000000000 ≤ l.lo ∧ l.lo ≤ 4000000000000000000) s.moves.y rfl rfl rfl ⟨rfl, mem_sidesF (by omega) hR.pin, by have := hR.y; omega⟩ ?_ ?_
 ·rintro ⟨a, b⟩ rest l ⟨hk, hl, hlo⟩ Q hQ1 -
  refine ⟨⟨rfl, rfl⟩, ?_⟩
  obtain ⟨ha, hb⟩ := hl (a, b) (by simp)
  simp only at ha hb
  rw [List.foldl_cons] at hk
  have hto := hp.sub ha
  conv=>whnf
  refine CallA_view (ds := [a.d, p.d]) (ch81 a p (ha.mono (by omega)) (hp.mono (by omega))) rfl 1 rfl ?_
  have ht1 := hto.x
  have ht2 := hto.y
  have hb1 := hb.x
  have hb2 := hb.y
  have hm1 := mul_big (a := b.y) (b := (p.sub a).x - x) (by omega) (by omega)
  have hm2 := mul_big (a := b.x) (b := (p.sub a).y) (by omega) (by omega)
  conv=>whnf
  refine arith_to ((-b.x)) (by (try dsimp only); omega) (wrap_i64 (by (try dsimp only); omega)) ?_
  conv=>whnf
  refine arith_in (wrap_i64 (by (try dsimp only); omega)) ?_
  conv=>whnf
  refine arith_in (wrap_i64 (by (try dsimp only); omega)) ?_
  conv=>whnf
  refine arith_in (wrap_i64 (by (try dsimp only); omega)) ?_
  conv=>whnf
  refine arith_in (wrap_i64 (by (try dsimp only); omega)) ?_
  conv=>whnf
  refine CallA_view (ds := [.agg l.cells, i64 (-b.x), i64 (b.y * ((p.sub a).x - x) - b.x * (p.sub a).y)]) (ch107 l (-b.x) (b.y * ((p.sub a).x - x) - b.x * (p.sub a).y) hlo (by omega) (by omega)) rfl 1 rfl ?_
  conv=>whnf
  exact ⟨rowStep x p l (a, b), (Wk.sub trivial ⟨(by first | rfl | (simp only [List.length_map]; rfl) | simp [PX.get]), (by first | rfl | (simp only [List.length_map]; rfl) | simp [PX.get]), (by first | rfl | (simp only [List.length_map]; rfl) | simp [PX.get]), (by first | rfl | (simp only [List.length_map]; rfl) | simp [PX.get]), (by first | rfl | (simp only [List.length_map]; rfl) | simp [PX.get]), trivial⟩), rfl, hQ1 _ ⟨hk, fun x hx => hl x (by simp [hx]), cutF_bd hlo (by show -4000000000000000000 ≤ b.y * ((p.sub a).x - x) - b.x * (p.sub a).y ∧ b.y * ((p.sub a).x - x) - b.x * (p.sub a).y ≤ 4000000000000000000; omega)⟩⟩
 ·rintro l ⟨hk, _⟩
  rw [List.foldl_nil] at hk
  rw [hk]
  conv=>whnf
  exact RetA_view 0 rfl ⟨⟨rfl, rfl⟩, rfl⟩
end Go.PX
namespace Go.PX
open Go.Proofs
theorem RetA_viewR {σ : Type} {l : List V} {h : Heap} {s : σ} {Q : V → Heap → σ → Prop} (n : Nat) {ds : List D} (hv : viewL (objD h n) l = some ds) {d : D} (hd : relax (packD ds) = d) (hq : Q (.d d) [] s) : RetA l h s Q := by
 subst hd
 refine ⟨fun cx L F vals w hh hr => ?_⟩
 have tr := frzAll_tr hh
 exact ⟨_, [], L, frzAll L F h w, hq, frzAll_ok hh, RepD.relax _ _ (packD_t (viewL_t tr (objD_t hh n) l vals ds hv hr)), tr, fun _ _ => ⟨rfl, rfl⟩⟩
def upX : Nat → Int → List Int
 | 0, _ => []
 | k + 1, v => v :: upX k (v + 1)
theorem upX_len : ∀ (k : Nat) (v : Int), (upX k v).length = k
 | 0, _ => rfl
 | k + 1, v => by rw [upX, List.length_cons, upX_len]
theorem upX_get : ∀ {k : Nat} {v : Int} {i : Nat} {x : Int}, (upX k v)[i]? = some x → x = v + i ∧ i < k
 | 0, _, _, _, h => by simp [upX] at h
 | k + 1, v, 0, x, h => by simp [upX] at h; omega
 | k + 1, v, i + 1, x, h => by
  rw [upX, List.getElem?_cons_succ] at h
  have := upX_get h
  omega
theorem sandsL_ok : ∀ {l : List Sand} {ns : Nms} {i : Int}, (sandsL ns i l).2.2 = 0 → ∀ s ∈ l, sandE s = 0
 | [], _, _, _, s, hs => by cases hs
 | a :: r, ns, i, h, s, hs => by
  rw [sandsL] at h
  split at h
  ·rename_i h1
   rcases List.mem_cons.1 hs with rfl | hs
   ·unfold sandE' at h1
    split at h1
    ·exact h1
    ·rename_i h2; exact absurd h1 h2
   ·exact sandsL_ok h s hs
  ·rename_i h1; exact absurd h h1
theorem marksL_bad : ∀ {l : List Mark} {ns : Nms} {i j e : Int}, marksL ns i l = .inl (j, e) → e ≠ 0
 | [], _, _, _, _, h => by cases h
 | m :: r, ns, i, j, e, h => by
  rw [marksL] at h
  split at h
  ·exact marksL_bad h
  ·rename_i h1; cases h; exact h1
theorem marksL_ok : ∀ {l : List Mark} {ns ns' : Nms} {i : Int}, marksL ns i l = .inr ns' → ∀ m ∈ l, Pin 30000 m.at' ∧ paintE m.paints = 0
 | [], _, _, _, _, m, hm => by cases hm
 | a :: r, ns, ns', i, h, m, hm => by
  rw [marksL] at h
  split at h
  ·rename_i h1
   rcases List.mem_cons.1 hm with rfl | hm
   ·unfold markE at h1
    split at h1
    ·split at h1
     ·cases h1
     ·rename_i h2
      unfold farM at h2
      exact ⟨within_iff.1 (by simpa using h2), h1⟩
    ·rename_i h2; exact absurd h1 h2
   ·exact marksL_ok h m hm
  ·cases h
structure ChtR (c : Cht) : Prop where
 marks : c.marks.length ≤ 8
 sands : c.sands.length ≤ 4
 mark : ∀ m ∈ c.marks, Pin 30000 m.at' ∧ paintE m.paints = 0
 sand : ∀ s ∈ c.sands, SandR s
theorem checkX_ok {c : Cht} (h : (checkX c).2.2 = 0) : ChtR c := by
 unfold checkX at h
 split at h
 ·cases h
 rename_i h1
 split at h
 ·rename_i i e he
  exact absurd h (marksL_bad he)
 ·rename_i ns hns
  split at h
  ·cases h
  rename_i h2
  exact ⟨by omega, by omega, marksL_ok hns, fun s hs => sandE_ok (sandsL_ok h s hs)⟩
theorem span_dec (a b : Span) : decide (a = b) = (decide (a.lo = b.lo) && (decide (a.hi = b.hi) && true)) := by
 cases a; cases b
 simp only [Span.mk.injEq, Bool.and_true, Bool.decide_and]
def xsX (s : Sand) : List Int := upX (s.moves.x.hi - s.moves.x.lo + 1).toNat s.moves.x.lo
def allRow (s : Sand) (p : Pt) : Bool := (xsX s).all fun x => decide (rowsX s x p = s.moves.y)
def anyRow (s : Sand) (p : Pt) : Bool := (xsX s).any fun x => decide ((rowsX s x p).lo ≤ (rowsX s x p).hi)
def sureF (p : Pt) : Int → List Sand → List Int
 | _, [] => []
 | i, s :: r => if allRow s p then i :: sureF p (i + 1) r else sureF p (i + 1) r
def someF (p : Pt) : Int → List Sand → List Int
 | _, [] => []
 | i, s :: r => if anyRow s p then i :: someF p (i + 1) r else someF p (i + 1) r
def onA (c : Cht) (p : Pt) : List Int := if openX c p = 0 then sureF p 0 c.sands else []
def onB (c : Cht) (p : Pt) : List Int := if openX c p = 0 then someF p 0 c.sands else []
theorem openX_ok {c : Cht} {p : Pt} (h : openX c p = 0) : ChtR c ∧ Pin 10000 p := by
 unfold openX at h
 split at h
 ·rename_i h1
  split at h
  ·rename_i h2; exact ⟨checkX_ok h1, within_iff.1 h2⟩
  ·cases h
 ·rename_i h1; exact absurd h h1
set_option maxHeartbeats 4000000 in
theorem ch23 (c : Cht) (p : Pt) : FnV Tryz.prog 23 [c.d, p.d] (.tup [intsD (onA c p), intsD (onB c p), i64 (openX c p)]) := by
 refine fnV_of mixed tysOk Tryz.func23 rfl (ft := ft23) 2 (by decide +kernel) (by rfl) fun {σ} Y st => ?_
 conv=>whnf
 refine CallA_v (ch70 c p) rfl rfl ?_
 conv=>whnf
 by_cases h0 : openX c p = 0
 case neg =>
  have ha : onA c p = [] := by unfold onA; rw [if_neg h0]
  have hb : onB c p = [] := by unfold onB; rw [if_neg h0]
  rw [ha, hb]
  refine brk_i (fun _ => ?_) (fun h1 => absurd h1 (by simp [h0]))
  conv=>whnf
  exact RetA_viewR 0 rfl rfl ⟨⟨rfl, rfl⟩, rfl⟩
 obtain ⟨hR, hp⟩ := openX_ok h0
 have hsl := hR.sands
 have ha : onA c p = sureF p 0 c.sands := by unfold onA; rw [if_pos h0]
 have hb : onB c p = someF p 0 c.sands := by unfold onB; rw [if_pos h0]
 rw [ha, hb]
 refine brk_i (fun h1 => absurd h1 (by simp [h0])) (fun _ => ?_)
 conv=>whnf
 refine LoopA_i (T := tys) tysOk (by exact drawsB_spec mixed tysOk (by decide +kernel)) c.sands (fun i (g : List Int × List Int) => ⟨[(2, .ptr 2 0), (3, .ptr 3 0), (4, .sl 84 1 0 g.1.length), (5, .sl 89 1 0 g.2.length), (21, .d (sandsD c.sands)), (22, .d (i64 (c.sands.map Sand.cells).length)), (23, .d (i64 i))], [(2, .box (.dd c.cells)), (3, .box (.dd p.cells)), (84, .arr 1 (.dd (g.1.map fun n => [i64 n]))), (89, .arr 1 (.dd (g.2.map fun n => [i64 n])))], st⟩)
  (fun i r g => sureF p 0 c.sands = g.1 ++ sureF p i r ∧ someF p 0 c.sands = g.2 ++ someF p i r ∧ g.1.length ≤ i ∧ g.2.length ≤ i) ([], []) ((Wk.born 4 84 1 rfl rfl rfl).trans ((Wk.born 5 89 1 rfl rfl rfl).trans (Wk.sub ⟨(by first | rfl | (simp only [List.length_map]; rfl) | simp [PX.get]), (by first | rfl | (simp only [List.length_map]; rfl) | simp [PX.get]), (by first | rfl | (simp only [List.length_map]; rfl) | simp [PX.get]), (by first | rfl | (simp only [List.length_map]; rfl) | simp [PX.get]), (by first | rfl | (simp only [List.length_map]; rfl) | simp [PX.get]), (by first | rfl | (simp only [List.length_map]; rfl) | simp [PX.get]), (by first | rfl | (simp only [List.length_map]; rfl) | simp [PX.get]), trivial⟩ ⟨(by first | rfl | (simp only [List.length_map]; rfl) | simp [PX.get]), (by first | rfl | (simp only [List.length_map]; rfl) | simp [PX.get]), (by first | rfl | (simp only [List.length_map]; rfl) | simp [PX.get]), (by first | rfl | (simp only [List.length_map]; rfl) | simp [PX.get]), trivial⟩))) ⟨rfl, rfl, by simp, by simp⟩ ?_ ?_
 ·rintro i s r ⟨A, B⟩ hsi hi hr ⟨hA, hB, hlA, hlB⟩
  simp only at hA hB hlA hlB
  rw [sureF] at hA
  rw [someF] at hB
  have hS := hR.sand s (List.mem_of_getElem? hsi)
  have hx := hS.x
  have hy := hS.y
  conv=>whnf
  refine brk_i (fun _ => ?_) (fun h => absurd hi (by simpa using h))
  conv=>whnf
  refine elemK_nat hsi ?_
  conv=>whnf
  refine arith_in (wrap_i64 (by (try dsimp only); omega)) ?_
  conv=>whnf
  refine arith_in (wrap_i64 (by (try dsimp only); omega)) ?_
  conv=>whnf
  have hlen : (xsX s).length = (s.moves.x.hi - s.moves.x.lo + 1).toNat := upX_len _ _
  refine LoopA_i (T := tys) tysOk (by exact drawsB_spec mixed tysOk (by decide +kernel)) (xsX s) (fun j (g : Bool × Bool) => ⟨[(2, .ptr 2 0), (3, .ptr 3 0), (4, .sl 84 1 0 A.length), (5, .sl 89 1 0 B.length), (21, .d (sandsD c.sands)), (22, .d (i64 (c.sands.map Sand.cells).length)), (23, .d (i64 i)), (7, .d (i64 i)), (9, .ptr 9 0), (10, .d (.bool g.1)), (11, .d (.bool g.2)), (41, .d (i64 (s.moves.x.hi - s.moves.x.lo + 1))), (42, .d (i64 j))], [(2, .box (.dd c.cells)), (3, .box (.dd p.cells)), (84, .arr 1 (.dd (A.map fun n => [i64 n]))), (89, .arr 1 (.dd (B.map fun n => [i64 n]))), (9, .box (.dd s.cells))], st⟩)
   (fun j rest g => allRow s p = (g.1 && rest.all fun x => decide (rowsX s x p = s.moves.y)) ∧ anyRow s p = (g.2 || rest.any fun x => decide ((rowsX s x p).lo ≤ (rowsX s x p).hi))) (true, false) (Wk.sub ⟨(by first | rfl | (simp only [List.length_map]; rfl) | simp [PX.get]), (by first | rfl | (simp only [List.length_map]; rfl) | simp [PX.get]), (by first | rfl | (simp only [List.length_map]; rfl) | simp [PX.get]), (by first | rfl | (simp only [List.length_map]; rfl) | simp [PX.get]), (by first | rfl | (simp only [List.length_map]; rfl) | simp [PX.get]), (by first | rfl | (simp only [List.length_map]; rfl) | simp [PX.get]), (by first | rfl | (simp only [List.length_map]; rfl) | simp [PX.get]), (by first | rfl | (simp only [List.length_map]; rfl) | simp [PX.get]), (by first | rfl | (simp only [List.length_map]; rfl) | simp [PX.get]), (by first | rfl | (simp only [List.length_map]; rfl) | simp [PX.get]), (by first | rfl | (simp only [List.length_map]; rfl) | simp [PX.get]), (by first | rfl | (simp only [List.length_map]; rfl) | simp [PX.get]), (by first | rfl | (simp only [List.length_map]; rfl) | simp [PX.get]), trivial⟩ ⟨(by first | rfl | (simp only [List.length_map]; rfl) | simp [PX.get]), (by first | rfl | (simp only [List.length_map]; rfl) | simp [PX.get]), (by first | rfl | (simp only [List.length_map]; rfl) | simp [PX.get]), (by first | rfl | (simp only [List.length_map]; rfl) | simp [PX.get]), (by first | rfl | (simp only [List.length_map]; rfl) | simp [PX.get]), trivial⟩) ⟨rfl, rfl⟩ ?_ ?_
  ·rintro j x rest ⟨ga, gb⟩ hxj hj hrj ⟨ka, kb⟩
   simp only at ka kb
   rw [List.all_cons] at ka
   rw [List.any_cons] at kb
   obtain ⟨hx1, hx2⟩ := upX_get hxj
   conv=>whnf
   refine brk_i (fun _ => ?_) (fun h => absurd h (by simp; omega))
   conv=>whnf
   refine arith_to (x) (by (try dsimp only); omega) (wrap_i64 (by (try dsimp only); omega)) ?_
   conv=>whnf
   refine CallA_view (ds := [.agg s.cells, i64 x, p.d]) (ch71 s hS x (by omega) p hp) rfl 1 rfl ?_
   conv=>whnf
   rw [span_dec] at ka
   cases gb with
   | true =>
    rw [Bool.true_or] at kb
    conv=>whnf
    cases ga with
    | true =>
     rw [Bool.true_and] at ka
     conv=>whnf
     refine arith_in (wrap_i64 (by (try dsimp only); omega)) ?_
     conv=>whnf
     exact ⟨(decide ((rowsX s x p).lo = s.moves.y.lo) && (decide ((rowsX s x p).hi = s.moves.y.hi) && true), true), ⟨ka, kb⟩, (Wk.sub ⟨(by first | rfl | (simp only [List.length_map]; rfl) | simp [PX.get]), (by first | rfl | (simp only [List.length_map]; rfl) | simp [PX.get]), (by first | rfl | (simp only [List.length_map]; rfl) | simp [PX.get]), (by first | rfl | (simp only [List.length_map]; rfl) | simp [PX.get]), (by first | rfl | (simp only [List.length_map]; rfl) | simp [PX.get]), (by first | rfl | (simp only [List.length_map]; rfl) | simp [PX.get]), (by first | rfl | (simp only [List.length_map]; rfl) | simp [PX.get]), (by first | rfl | (simp only [List.length_map]; rfl) | simp [PX.get]), (by first | rfl | (simp only [List.length_map]; rfl) | simp [PX.get]), (by first | rfl | (simp only [List.length_map]; rfl) | simp [PX.get]), (by first | rfl | (simp only [List.length_map]; rfl) | simp [PX.get]), (by first | rfl | (simp only [List.length_map]; rfl) | simp [PX.get]), (by first | rfl | (simp only [List.length_map]; rfl) | simp [PX.get]), trivial⟩ ⟨(by first | rfl | (simp only [List.length_map]; rfl) | simp [PX.get]), (by first | rfl | (simp only [List.length_map]; rfl) | simp [PX.get]), (by first | rfl | (simp only [List.length_map]; rfl) | simp [PX.get]), (by first | rfl | (simp only [List.length_map]; rfl) | simp [PX.get]), (by first | rfl | (simp only [List.length_map]; rfl) | simp [PX.get]), trivial⟩)⟩
    | false =>
     rw [Bool.false_and] at ka
     conv=>whnf
     refine arith_in (wrap_i64 (by (try dsimp only); omega)) ?_
     conv=>whnf
     exact ⟨(false, true), ⟨ka, kb⟩, (Wk.sub ⟨(by first | rfl | (simp only [List.length_map]; rfl) | simp [PX.get]), (by first | rfl | (simp only [List.length_map]; rfl) | simp [PX.get]), (by first | rfl | (simp only [List.length_map]; rfl) | simp [PX.get]), (by first | rfl | (simp only [List.length_map]; rfl) | simp [PX.get]), (by first | rfl | (simp only [List.length_map]; rfl) | simp [PX.get]), (by first | rfl | (simp only [List.length_map]; rfl) | simp [PX.get]), (by first | rfl | (simp only [List.length_map]; rfl) | simp [PX.get]), (by first | rfl | (simp only [List.length_map]; rfl) | simp [PX.get]), (by first | rfl | (simp only [List.length_map]; rfl) | simp [PX.get]), (by first | rfl | (simp only [List.length_map]; rfl) | simp [PX.get]), (by first | rfl | (simp only [List.length_map]; rfl) | simp [PX.get]), (by first | rfl | (simp only [List.length_map]; rfl) | simp [PX.get]), (by first | rfl | (simp only [List.length_map]; rfl) | simp [PX.get]), trivial⟩ ⟨(by first | rfl | (simp only [List.length_map]; rfl) | simp [PX.get]), (by first | rfl | (simp only [List.length_map]; rfl) | simp [PX.get]), (by first | rfl | (simp only [List.length_map]; rfl) | simp [PX.get]), (by first | rfl | (simp only [List.length_map]; rfl) | simp [PX.get]), (by first | rfl | (simp only [List.length_map]; rfl) | simp [PX.get]), trivial⟩)⟩
   | false =>
    rw [Bool.false_or] at kb
    conv=>whnf
    cases ga with
    | true =>
     rw [Bool.true_and] at ka
     conv=>whnf
     refine arith_in (wrap_i64 (by (try dsimp only); omega)) ?_
     conv=>whnf
     exact ⟨(decide ((rowsX s x p).lo = s.moves.y.lo) && (decide ((rowsX s x p).hi = s.moves.y.hi) && true), decide ((rowsX s x p).lo ≤ (rowsX s x p).hi)), ⟨ka, kb⟩, (Wk.sub ⟨(by first | rfl | (simp only [List.length_map]; rfl) | simp [PX.get]), (by first | rfl | (simp only [List.length_map]; rfl) | simp [PX.get]), (by first | rfl | (simp only [List.length_map]; rfl) | simp [PX.get]), (by first | rfl | (simp only [List.length_map]; rfl) | simp [PX.get]), (by first | rfl | (simp only [List.length_map]; rfl) | simp [PX.get]), (by first | rfl | (simp only [List.length_map]; rfl) | simp [PX.get]), (by first | rfl | (simp only [List.length_map]; rfl) | simp [PX.get]), (by first | rfl | (simp only [List.length_map]; rfl) | simp [PX.get]), (by first | rfl | (simp only [List.length_map]; rfl) | simp [PX.get]), (by first | rfl | (simp only [List.length_map]; rfl) | simp [PX.get]), (by first | rfl | (simp only [List.length_map]; rfl) | simp [PX.get]), (by first | rfl | (simp only [List.length_map]; rfl) | simp [PX.get]), (by first | rfl | (simp only [List.length_map]; rfl) | simp [PX.get]), trivial⟩ ⟨(by first | rfl | (simp only [List.length_map]; rfl) | simp [PX.get]), (by first | rfl | (simp only [List.length_map]; rfl) | simp [PX.get]), (by first | rfl | (simp only [List.length_map]; rfl) | simp [PX.get]), (by first | rfl | (simp only [List.length_map]; rfl) | simp [PX.get]), (by first | rfl | (simp only [List.length_map]; rfl) | simp [PX.get]), trivial⟩)⟩
    | false =>
     rw [Bool.false_and] at ka
     conv=>whnf
     refine arith_in (wrap_i64 (by (try dsimp only); omega)) ?_
     conv=>whnf
     exact ⟨(false, decide ((rowsX s x p).lo ≤ (rowsX s x p).hi)), ⟨ka, kb⟩, (Wk.sub ⟨(by first | rfl | (simp only [List.length_map]; rfl) | simp [PX.get]), (by first | rfl | (simp only [List.length_map]; rfl) | simp [PX.get]), (by first | rfl | (simp only [List.length_map]; rfl) | simp [PX.get]), (by first | rfl | (simp only [List.length_map]; rfl) | simp [PX.get]), (by first | rfl | (simp only [List.length_map]; rfl) | simp [PX.get]), (by first | rfl | (simp only [List.length_map]; rfl) | simp [PX.get]), (by first | rfl | (simp only [List.length_map]; rfl) | simp [PX.get]), (by first | rfl | (simp only [List.length_map]; rfl) | simp [PX.get]), (by first | rfl | (simp only [List.length_map]; rfl) | simp [PX.get]), (by first | rfl | (simp only [List.length_map]; rfl) | simp [PX.get]), (by first | rfl | (simp only [List.length_map]; rfl) | simp [PX.get]), (by first | rfl | (simp only [List.length_map]; rfl) | simp [PX.get]), (by first | rfl | (simp only [List.length_map]; rfl) | simp [PX.get]), trivial⟩ ⟨(by first | rfl | (simp only [List.length_map]; rfl) | simp [PX.get]), (by first | rfl | (simp only [List.length_map]; rfl) | simp [PX.get]), (by first | rfl | (simp only [List.length_map]; rfl) | simp [PX.get]), (by first | rfl | (simp only [List.length_map]; rfl) | simp [PX.get]), (by first | rfl | (simp only [List.length_map]; rfl) | simp [PX.get]), trivial⟩)⟩
  ·rintro ⟨ga, gb⟩ ⟨ka, kb⟩
   simp only at ka kb
   rw [List.all_nil, Bool.and_true] at ka
   rw [List.any_nil, Bool.or_false] at kb
   rw [ka] at hA
   rw [kb] at hB
   conv=>whnf
   refine brk_i (fun h => absurd h (by simp; omega)) (fun _ => ?_)
   conv=>whnf
   cases ga with
   | true =>
    rw [if_pos rfl] at hA
    conv=>whnf
    refine ownK_whole rfl ?_
    conv=>whnf
    refine ownK_whole (by simp [Els.len]) ?_
    conv=>whnf
    refine chk_i (decide_eq_true (by
     show ((A.map fun n => [i64 n]).length + 1) * 8 ≤ 140737488355328
     rw [List.length_map]; omega)) ?_
    conv=>whnf
    cases gb with
    | true =>
     rw [if_pos rfl] at hB
     conv=>whnf
     refine ownK_whole rfl ?_
     conv=>whnf
     refine ownK_whole (by simp [Els.len]) ?_
     conv=>whnf
     refine chk_i (decide_eq_true (by
      show ((B.map fun n => [i64 n]).length + 1) * 8 ≤ 140737488355328
      rw [List.length_map]; omega)) ?_
     conv=>whnf
     refine arith_in (wrap_i64 (by (try dsimp only); omega)) ?_
     conv=>whnf
     exact ⟨(A ++ [(i : Int)], B ++ [(i : Int)]), ⟨by rw [hA]; simp, by rw [hB]; simp, by simp <;> omega, by simp <;> omega⟩, Wk.sub ⟨(by first | rfl | simp [PX.get, Els.len]), (by first | rfl | simp [PX.get, Els.len]), (by first | rfl | simp [PX.get, Els.len]), (by first | rfl | simp [PX.get, Els.len]), (by first | rfl | simp [PX.get, Els.len]), (by first | rfl | simp [PX.get, Els.len]), (by first | rfl | simp [PX.get, Els.len]), trivial⟩ ⟨(by first | rfl | simp [PX.get, Els.len]), (by first | rfl | simp [PX.get, Els.len]), (by first | rfl | simp [PX.get, Els.len]), (by first | rfl | simp [PX.get, Els.len]), trivial⟩⟩
    | false =>
     rw [if_neg (by simp)] at hB
     conv=>whnf
     refine arith_in (wrap_i64 (by (try dsimp only); omega)) ?_
     conv=>whnf
     exact ⟨(A ++ [(i : Int)], B), ⟨by rw [hA]; simp, hB, by simp <;> omega, by simp <;> omega⟩, Wk.sub ⟨(by first | rfl | simp [PX.get, Els.len]), (by first | rfl | simp [PX.get, Els.len]), (by first | rfl | simp [PX.get, Els.len]), (by first | rfl | simp [PX.get, Els.len]), (by first | rfl | simp [PX.get, Els.len]), (by first | rfl | simp [PX.get, Els.len]), (by first | rfl | simp [PX.get, Els.len]), trivial⟩ ⟨(by first | rfl | simp [PX.get, Els.len]), (by first | rfl | simp [PX.get, Els.len]), (by first | rfl | simp [PX.get, Els.len]), (by first | rfl | simp [PX.get, Els.len]), trivial⟩⟩
   | false =>
    rw [if_neg (by simp)] at hA
    conv=>whnf
    cases gb with
    | true =>
     rw [if_pos rfl] at hB
     conv=>whnf
     refine ownK_whole rfl ?_
     conv=>whnf
     refine ownK_whole (by simp [Els.len]) ?_
     conv=>whnf
     refine chk_i (decide_eq_true (by
      show ((B.map fun n => [i64 n]).length + 1) * 8 ≤ 140737488355328
      rw [List.length_map]; omega)) ?_
     conv=>whnf
     refine arith_in (wrap_i64 (by (try dsimp only); omega)) ?_
     conv=>whnf
     exact ⟨(A, B ++ [(i : Int)]), ⟨hA, by rw [hB]; simp, by simp <;> omega, by simp <;> omega⟩, Wk.sub ⟨(by first | rfl | simp [PX.get, Els.len]), (by first | rfl | simp [PX.get, Els.len]), (by first | rfl | simp [PX.get, Els.len]), (by first | rfl | simp [PX.get, Els.len]), (by first | rfl | simp [PX.get, Els.len]), (by first | rfl | simp [PX.get, Els.len]), (by first | rfl | simp [PX.get, Els.len]), trivial⟩ ⟨(by first | rfl | simp [PX.get, Els.len]), (by first | rfl | simp [PX.get, Els.len]), (by first | rfl | simp [PX.get, Els.len]), (by first | rfl | simp [PX.get, Els.len]), trivial⟩⟩
    | false =>
     rw [if_neg (by simp)] at hB
     conv=>whnf
     refine arith_in (wrap_i64 (by (try dsimp only); omega)) ?_
     conv=>whnf
     exact ⟨(A, B), ⟨hA, hB, by simp <;> omega, by simp <;> omega⟩, Wk.sub ⟨(by first | rfl | simp [PX.get, Els.len]), (by first | rfl | simp [PX.get, Els.len]), (by first | rfl | simp [PX.get, Els.len]), (by first | rfl | simp [PX.get, Els.len]), (by first | rfl | simp [PX.get, Els.len]), (by first | rfl | simp [PX.get, Els.len]), (by first | rfl | simp [PX.get, Els.len]), trivial⟩ ⟨(by first | rfl | simp [PX.get, Els.len]), (by first | rfl | simp [PX.get, Els.len]), (by first | rfl | simp [PX.get, Els.len]), (by first | rfl | simp [PX.get, Els.len]), trivial⟩⟩
 ·rintro ⟨A, B⟩ ⟨hA, hB, hlA, hlB⟩
  simp only at hA hB hlA hlB
  rw [sureF, List.append_nil] at hA
  rw [someF, List.append_nil] at hB
  rw [hA, hB]
  conv=>whnf
  refine brk_i (fun h => absurd h (by simp)) (fun _ => ?_)
  conv=>whnf
  rw [h0]
  exact RetA_view 2 (ds := [intsD A, intsD B, i64 0]) (viewL_cons (viewV_sl rfl (by simp)) (viewL_cons (viewV_sl rfl (by simp)) rfl)) ⟨⟨rfl, rfl⟩, rfl⟩
end Go.PX
namespace Go.PX
open Go.Proofs
theorem mul_b {a b : Int} (A B : Int) (ha : -A ≤ a ∧ a ≤ A) (hb : -B ≤ b ∧ b ≤ B) : -(A * B) ≤ a * b ∧ a * b ≤ A * B := by
 have h1 : 0 ≤ (A - a) * (B + b) := Int.mul_nonneg (by omega) (by omega)
 have h2 : 0 ≤ (A + a) * (B - b) := Int.mul_nonneg (by omega) (by omega)
 have h3 : 0 ≤ (A - a) * (B - b) := Int.mul_nonneg (by omega) (by omega)
 have h4 : 0 ≤ (A + a) * (B + b) := Int.mul_nonneg (by omega) (by omega)
 constructor
 ·grind
 ·grind
theorem leftF_bd {A B : Int} {a b : Pt} (ha : Pin A a) (hb : Pin B b) : -(2 * (A * B)) ≤ leftF a b ∧ leftF a b ≤ 2 * (A * B) := by
 have h1 := mul_b A B ha.x hb.y
 have h2 := mul_b A B ha.y hb.x
 unfold leftF
 omega
theorem dotF_bd {A B : Int} {a b : Pt} (ha : Pin A a) (hb : Pin B b) : -(2 * (A * B)) ≤ dotF a b ∧ dotF a b ≤ 2 * (A * B) := by
 have h1 := mul_b A B ha.x hb.x
 have h2 := mul_b A B ha.y hb.y
 unfold dotF
 omega
def distF (b to : Pt) : Int × Int :=
 if dotF b to < 0 then (dotF to to, 1) else if dotF b b < dotF b to then (dotF (to.sub b) (to.sub b), 1) else (leftF b to * leftF b to, dotF b b)
def nearS (p : Pt) (r : Int) (z : Pt × Pt) : Bool := decide ((distF z.2 (p.sub z.1)).1 < r * r * (distF z.2 (p.sub z.1)).2)
def nearL (p : Pt) (r : Int) : Bool → List (Pt × Pt) → Bool
 | on, [] => on
 | on, z :: rest => if 0 ≤ leftF z.2 (p.sub z.1) then nearL p r on rest else if nearS p r z then true else nearL p r false rest
def nearX (s : Sand) (p : Pt) (r : Int) : Bool := nearL p r true (sidesF s)
set_option maxHeartbeats 4000000 in
theorem ch108 (s : Sand) (hR : SandR s) (p : Pt) (hp : Pin 10500 p) (r : Int) (hr : 0 ≤ r ∧ r ≤ 5001) : FnV Tryz.prog 108 [.agg s.cells, p.d, i64 r] (.bool (nearX s p r)) := by
 refine fnV_of mixed tysOk Tryz.func108 rfl (ft := ft108) 3 (by decide +kernel) (by rfl) fun {σ} Y st => ?_
 conv=>whnf
 have hlen := hR.len
 refine CallA_v (ch103 s) rfl rfl ?_
 conv=>whnf
 refine RangeA_list tysOk (by exact drawsB_spec mixed tysOk (by decide +kernel)) (by exact drawsB_spec mixed tysOk (by decide +kernel)) rfl 1500000 1600000 [3, 4, 5, 6, 7] (yields124 s (by omega) (by omega) (fun p h => (hR.pin p h).mono (by omega)))
  (fun (on : Bool) => ([(1500000, .box (.dd s.cells)), (1500001, .box (.dd p.cells)), (1500002, .box (.dd [i64 r])), (1500003, .box (.dd [.bool false])), (1500004, .box (.dd [.bool on]))], st))
  (fun rest on => nearX s p r = nearL p r on rest ∧ ∀ x ∈ rest, Pin 10000 x.1 ∧ Pin 20000 x.2) true rfl rfl rfl ⟨rfl, mem_sidesF (by omega) hR.pin⟩ ?_ ?_
 ·rintro ⟨a, b⟩ rest on ⟨hk, hl⟩ Q hQ1 hQ2
  refine ⟨⟨rfl, rfl⟩, ?_⟩
  obtain ⟨ha, hb⟩ := hl (a, b) (by simp)
  have hl : ∀ x ∈ rest, Pin 10000 x.1 ∧ Pin 20000 x.2 := fun x hx => hl x (by simp [hx])
  simp only at ha hb
  rw [nearL] at hk
  have hto : Pin 20500 (p.sub a) := hp.sub ha
  have hen : Pin 40500 ((p.sub a).sub b) := hto.sub hb
  have b1 := leftF_bd hb hto
  have b2 := dotF_bd hb hb
  have b3 := dotF_bd hb hto
  have b4 := dotF_bd hto hto
  have b5 := dotF_bd hen hen
  have b6 := mul_b (a := r) (b := r) 5001 5001 (by omega) (by omega)
  have b7 := mul_b (a := leftF b (p.sub a)) (b := leftF b (p.sub a)) 820000000 820000000 (by omega) (by omega)
  have b8 := mul_b (a := r * r) (b := dotF b b) 25010001 800000000 (by omega) (by omega)
  conv=>whnf
  refine CallA_view (ds := [a.d, p.d]) (ch81 a p (ha.mono (by omega)) (hp.mono (by omega))) rfl 1 rfl ?_
  conv=>whnf
  refine CallA_view (ds := [b.d, (p.sub a).d]) (ch104 b (p.sub a) (hb.mono (by omega)) (hto.mono (by omega))) rfl 1 rfl ?_
  conv=>whnf
  refine brk_i (fun h1 => ?_) (fun h1 => ?_)
  ·rw [if_pos (of_decide_eq_true h1)] at hk
   conv=>whnf
   exact ⟨on, (Wk.sub trivial ⟨(by first | rfl | (simp only [List.length_map]; rfl) | simp [PX.get]), (by first | rfl | (simp only [List.length_map]; rfl) | simp [PX.get]), (by first | rfl | (simp only [List.length_map]; rfl) | simp [PX.get]), (by first | rfl | (simp only [List.length_map]; rfl) | simp [PX.get]), (by first | rfl | (simp only [List.length_map]; rfl) | simp [PX.get]), trivial⟩), rfl, hQ1 _ ⟨hk, hl⟩⟩
  ·rw [if_neg (of_decide_eq_false h1)] at hk
   conv=>whnf
   refine DrawCall_view (ds := [b.d, b.d]) (ch126 b b (hb.mono (by omega)) (hb.mono (by omega))) rfl 1 rfl ?_
   conv=>whnf
   refine DrawCall_view (ds := [b.d, (p.sub a).d]) (ch126 b (p.sub a) (hb.mono (by omega)) (hto.mono (by omega))) rfl 1 rfl ?_
   conv=>whnf
   refine brk_i (fun h2 => ?_) (fun h2 => ?_)
   ·have h2 : dotF b (p.sub a) < 0 := of_decide_eq_true h2
    have hns : nearS p r (a, b) = decide (dotF (p.sub a) (p.sub a) < r * r * 1) := by unfold nearS distF; rw [if_pos h2]
    rw [hns] at hk
    conv=>whnf
    refine CallA_view (ds := [(p.sub a).d, (p.sub a).d]) (ch126 (p.sub a) (p.sub a) (hto.mono (by omega)) (hto.mono (by omega))) rfl 1 rfl ?_
    conv=>whnf
    refine arith_in (wrap_i64 (by (try dsimp only); omega)) ?_
    conv=>whnf
    refine arith_in (wrap_i64 (by (try dsimp only); omega)) ?_
    conv=>whnf
    refine brk_i (fun h4 => ?_) (fun h4 => ?_)
    ·rw [if_pos h4] at hk
     conv=>whnf
     refine ⟨[(1500000, .box (.dd s.cells)), (1500001, .box (.dd p.cells)), (1500002, .box (.dd [i64 r])), (1500003, .box (.dd [.bool true])), (1500004, .box (.dd [.bool false]))], st, (Wk.sub trivial ⟨(by first | rfl | (simp only [List.length_map]; rfl) | simp [PX.get]), (by first | rfl | (simp only [List.length_map]; rfl) | simp [PX.get]), (by first | rfl | (simp only [List.length_map]; rfl) | simp [PX.get]), (by first | rfl | (simp only [List.length_map]; rfl) | simp [PX.get]), (by first | rfl | (simp only [List.length_map]; rfl) | simp [PX.get]), trivial⟩), rfl, hQ2 _ _ _ ?_⟩
     conv=>whnf
     rw [hk]
     exact RetA_view 0 rfl ⟨⟨rfl, rfl⟩, rfl⟩
    ·rw [if_neg (by rw [h4]; exact Bool.false_ne_true)] at hk
     conv=>whnf
     exact ⟨false, (Wk.sub trivial ⟨(by first | rfl | (simp only [List.length_map]; rfl) | simp [PX.get]), (by first | rfl | (simp only [List.length_map]; rfl) | simp [PX.get]), (by first | rfl | (simp only [List.length_map]; rfl) | simp [PX.get]), (by first | rfl | (simp only [List.length_map]; rfl) | simp [PX.get]), (by first | rfl | (simp only [List.length_map]; rfl) | simp [PX.get]), trivial⟩), rfl, hQ1 _ ⟨hk, hl⟩⟩
   ·have h2 : ¬ dotF b (p.sub a) < 0 := of_decide_eq_false h2
    conv=>whnf
    refine brk_i (fun h3 => ?_) (fun h3 => ?_)
    ·have h3 : dotF b b < dotF b (p.sub a) := of_decide_eq_true h3
     have hns : nearS p r (a, b) = decide (dotF ((p.sub a).sub b) ((p.sub a).sub b) < r * r * 1) := by unfold nearS distF; rw [if_neg h2, if_pos h3]
     rw [hns] at hk
     conv=>whnf
     refine CallA_view (ds := [b.d, (p.sub a).d]) (ch81 b (p.sub a) (hb.mono (by omega)) (hto.mono (by omega))) rfl 1 rfl ?_
     conv=>whnf
     refine CallA_view (ds := [((p.sub a).sub b).d, ((p.sub a).sub b).d]) (ch126 ((p.sub a).sub b) ((p.sub a).sub b) (hen.mono (by omega)) (hen.mono (by omega))) rfl 1 rfl ?_
     conv=>whnf
     refine arith_in (wrap_i64 (by (try dsimp only); omega)) ?_
     conv=>whnf
     refine arith_in (wrap_i64 (by (try dsimp only); omega)) ?_
     conv=>whnf
     refine brk_i (fun h4 => ?_) (fun h4 => ?_)
     ·rw [if_pos h4] at hk
      conv=>whnf
      refine ⟨[(1500000, .box (.dd s.cells)), (1500001, .box (.dd p.cells)), (1500002, .box (.dd [i64 r])), (1500003, .box (.dd [.bool true])), (1500004, .box (.dd [.bool false]))], st, (Wk.sub trivial ⟨(by first | rfl | (simp only [List.length_map]; rfl) | simp [PX.get]), (by first | rfl | (simp only [List.length_map]; rfl) | simp [PX.get]), (by first | rfl | (simp only [List.length_map]; rfl) | simp [PX.get]), (by first | rfl | (simp only [List.length_map]; rfl) | simp [PX.get]), (by first | rfl | (simp only [List.length_map]; rfl) | simp [PX.get]), trivial⟩), rfl, hQ2 _ _ _ ?_⟩
      conv=>whnf
      rw [hk]
      exact RetA_view 0 rfl ⟨⟨rfl, rfl⟩, rfl⟩
     ·rw [if_neg (by rw [h4]; exact Bool.false_ne_true)] at hk
      conv=>whnf
      exact ⟨false, (Wk.sub trivial ⟨(by first | rfl | (simp only [List.length_map]; rfl) | simp [PX.get]), (by first | rfl | (simp only [List.length_map]; rfl) | simp [PX.get]), (by first | rfl | (simp only [List.length_map]; rfl) | simp [PX.get]), (by first | rfl | (simp only [List.length_map]; rfl) | simp [PX.get]), (by first | rfl | (simp only [List.length_map]; rfl) | simp [PX.get]), trivial⟩), rfl, hQ1 _ ⟨hk, hl⟩⟩
    ·have h3 : ¬ dotF b b < dotF b (p.sub a) := of_decide_eq_false h3
     have hns : nearS p r (a, b) = decide (leftF b (p.sub a) * leftF b (p.sub a) < r * r * dotF b b) := by unfold nearS distF; rw [if_neg h2, if_neg h3]
     rw [hns] at hk
     conv=>whnf
     refine arith_in (wrap_i64 (by (try dsimp only); omega)) ?_
     conv=>whnf
     refine arith_in (wrap_i64 (by (try dsimp only); omega)) ?_
     conv=>whnf
     refine arith_in (wrap_i64 (by (try dsimp only); omega)) ?_
     conv=>whnf
     refine brk_i (fun h4 => ?_) (fun h4 => ?_)
     ·rw [if_pos h4] at hk
      conv=>whnf
      refine ⟨[(1500000, .box (.dd s.cells)), (1500001, .box (.dd p.cells)), (1500002, .box (.dd [i64 r])), (1500003, .box (.dd [.bool true])), (1500004, .box (.dd [.bool false]))], st, (Wk.sub trivial ⟨(by first | rfl | (simp only [List.length_map]; rfl) | simp [PX.get]), (by first | rfl | (simp only [List.length_map]; rfl) | simp [PX.get]), (by first | rfl | (simp only [List.length_map]; rfl) | simp [PX.get]), (by first | rfl | (simp only [List.length_map]; rfl) | simp [PX.get]), (by first | rfl | (simp only [List.length_map]; rfl) | simp [PX.get]), trivial⟩), rfl, hQ2 _ _ _ ?_⟩
      conv=>whnf
      rw [hk]
      exact RetA_view 0 rfl ⟨⟨rfl, rfl⟩, rfl⟩
     ·rw [if_neg (by rw [h4]; exact Bool.false_ne_true)] at hk
      conv=>whnf
      exact ⟨false, (Wk.sub trivial ⟨(by first | rfl | (simp only [List.length_map]; rfl) | simp [PX.get]), (by first | rfl | (simp only [List.length_map]; rfl) | simp [PX.get]), (by first | rfl | (simp only [List.length_map]; rfl) | simp [PX.get]), (by first | rfl | (simp only [List.length_map]; rfl) | simp [PX.get]), (by first | rfl | (simp only [List.length_map]; rfl) | simp [PX.get]), trivial⟩), rfl, hQ1 _ ⟨hk, hl⟩⟩
 ·rintro on ⟨hk, _⟩
  rw [nearL] at hk
  rw [hk]
  conv=>whnf
  exact RetA_view 0 rfl ⟨⟨rfl, rfl⟩, rfl⟩
end Go.PX
namespace Go.PX
open Go.Proofs
def ysX (s : Sand) : List Int := upX (s.moves.y.hi - s.moves.y.lo + 1).toNat s.moves.y.lo
def inCol (s : Sand) (p : Pt) (r : Int) (x : Int) : List Int → Option Pt
 | [] => none
 | y :: l => if nearX s (p.sub ⟨x, y⟩) r then some ⟨x, y⟩ else inCol s p r x l
def inCols (s : Sand) (p : Pt) (r : Int) : List Int → Option Pt
 | [] => none
 | x :: l => match inCol s p r x (ysX s) with
  | some m => some m
  | none => inCols s p r l
def insL (p : Pt) (r : Int) : Int → List Sand → Option (Int × Pt)
 | _, [] => none
 | i, s :: l => match inCols s p r (xsX s) with
  | some m => some (i, m)
  | none => insL p r (i + 1) l
def insX (c : Cht) (p : Pt) (r : Int) : Option (Int × Pt) := if r = 0 then none else insL p r 0 c.sands
def insD : Option (Int × Pt) → D
 | none => .tup [i64 0, Pt.d ⟨0, 0⟩, .bool false]
 | some (i, m) => .tup [i64 i, m.d, .bool true]
set_option maxHeartbeats 4000000 in
theorem ch74 (c : Cht) (hR : ChtR c) (p : Pt) (hp : Pin 10000 p) (r : Int) (hr : 0 ≤ r ∧ r ≤ 5001) : FnV Tryz.prog 74 [c.d, p.d, i64 r] (insD (insX c p r)) := by
 refine fnV_of mixed tysOk Tryz.func74 rfl (ft := ft74) 3 (by decide +kernel) (by rfl) fun {σ} Y st => ?_
 conv=>whnf
 have hsl := hR.sands
 refine brk_i (fun h0 => ?_) (fun h0 => ?_)
 ·have h0 : r = 0 := of_decide_eq_true h0
  have he : insX c p r = none := by unfold insX; rw [if_pos h0]
  rw [he]
  conv=>whnf
  exact RetA_view 0 rfl ⟨⟨rfl, rfl⟩, rfl⟩
 have h0 : ¬ r = 0 := of_decide_eq_false h0
 have he : insX c p r = insL p r 0 c.sands := by unfold insX; rw [if_neg h0]
 rw [he]
 conv=>whnf
 refine LoopA_i (T := tys) tysOk (by exact drawsB_spec mixed tysOk (by decide +kernel)) c.sands (fun i (m : Pt) => ⟨[(2, .d (i64 r)), (4, .ptr 4 0), (7, .ptr 7 0), (18, .d (sandsD c.sands)), (19, .d (i64 (c.sands.map Sand.cells).length)), (20, .d (i64 i))], [(4, .box (.dd p.cells)), (7, .box (.dd m.cells))], st⟩)
  (fun i l _ => insL p r 0 c.sands = insL p r i l) ⟨0, 0⟩ (Wk.sub ⟨(by first | rfl | (simp only [List.length_map]; rfl) | simp [PX.get]), (by first | rfl | (simp only [List.length_map]; rfl) | simp [PX.get]), (by first | rfl | (simp only [List.length_map]; rfl) | simp [PX.get]), (by first | rfl | (simp only [List.length_map]; rfl) | simp [PX.get]), (by first | rfl | (simp only [List.length_map]; rfl) | simp [PX.get]), (by first | rfl | (simp only [List.length_map]; rfl) | simp [PX.get]), trivial⟩ ⟨(by first | rfl | (simp only [List.length_map]; rfl) | simp [PX.get]), (by first | rfl | (simp only [List.length_map]; rfl) | simp [PX.get]), trivial⟩) rfl ?_ ?_
 ·rintro i s l m hsi hi hil hk
  rw [insL] at hk
  have hS := hR.sand s (List.mem_of_getElem? hsi)
  have hx := hS.x
  have hy := hS.y
  conv=>whnf
  refine brk_i (fun _ => ?_) (fun h => absurd hi (by simpa using h))
  conv=>whnf
  refine elemK_nat hsi ?_
  conv=>whnf
  have hlen : (xsX s).length = (s.moves.x.hi - s.moves.x.lo + 1).toNat := upX_len _ _
  refine LoopA_i (T := tys) tysOk (by exact drawsB_spec mixed tysOk (by decide +kernel)) (xsX s) (fun j (m : Pt) => ⟨[(2, .d (i64 r)), (4, .ptr 4 0), (7, .ptr 7 0), (18, .d (sandsD c.sands)), (19, .d (i64 (c.sands.map Sand.cells).length)), (20, .d (i64 i)), (9, .d (i64 i)), (11, .ptr 11 0), (12, .d (i64 (s.moves.x.lo + j)))], [(4, .box (.dd p.cells)), (7, .box (.dd m.cells)), (11, .box (.dd s.cells))], st⟩)
   (fun j xs _ => inCols s p r (xsX s) = inCols s p r xs) m (Wk.sub ⟨rfl, rfl, rfl, rfl, rfl, rfl, rfl, rfl, congrArg (fun z => some (V.d (i64 z))) (by simp), trivial⟩ ⟨rfl, rfl, rfl, trivial⟩) rfl ?_ ?_
  ·rintro j x xs m hxj hj hjl hk2
   rw [inCols] at hk2
   obtain ⟨hx1, hx2⟩ := upX_get hxj
   conv=>whnf
   refine brk_i (fun _ => ?_) (fun h => absurd h (by simp; omega))
   conv=>whnf
   have hleny : (ysX s).length = (s.moves.y.hi - s.moves.y.lo + 1).toNat := upX_len _ _
   refine LoopA_i (T := tys) tysOk (by exact drawsB_spec mixed tysOk (by decide +kernel)) (ysX s) (fun k (m : Pt) => ⟨[(2, .d (i64 r)), (4, .ptr 4 0), (7, .ptr 7 0), (18, .d (sandsD c.sands)), (19, .d (i64 (c.sands.map Sand.cells).length)), (20, .d (i64 i)), (9, .d (i64 i)), (11, .ptr 11 0), (12, .d (i64 (s.moves.x.lo + j))), (13, .d (i64 (s.moves.y.lo + k)))], [(4, .box (.dd p.cells)), (7, .box (.dd m.cells)), (11, .box (.dd s.cells))], st⟩)
    (fun k ys _ => inCol s p r x (ysX s) = inCol s p r x ys) m (Wk.sub ⟨rfl, rfl, rfl, rfl, rfl, rfl, rfl, rfl, rfl, congrArg (fun z => some (V.d (i64 z))) (by simp), trivial⟩ ⟨rfl, rfl, rfl, trivial⟩) rfl ?_ ?_
   ·rintro k y ys m hyk hkl hkr hk3
    rw [inCol] at hk3
    obtain ⟨hy1, hy2⟩ := upX_get hyk
    subst hx1 hy1
    have hm : Pin 500 ⟨s.moves.x.lo + j, s.moves.y.lo + k⟩ := ⟨by simp only; omega, by simp only; omega⟩
    conv=>whnf
    refine brk_i (fun _ => ?_) (fun h => absurd h (by simp; omega))
    conv=>whnf
    refine DrawCall_view (ds := [Pt.d ⟨s.moves.x.lo + j, s.moves.y.lo + k⟩, p.d]) (ch81 ⟨s.moves.x.lo + j, s.moves.y.lo + k⟩ p (hm.mono (by omega)) (hp.mono (by omega))) rfl 1 rfl ?_
    conv=>whnf
    refine DrawCall_view (ds := [.agg s.cells, (p.sub ⟨s.moves.x.lo + j, s.moves.y.lo + k⟩).d, i64 r]) (ch108 s hS (p.sub ⟨s.moves.x.lo + j, s.moves.y.lo + k⟩) ((hp.sub hm).mono (by omega)) r hr) rfl 1 rfl ?_
    cases hn : nearX s (p.sub ⟨s.moves.x.lo + j, s.moves.y.lo + k⟩) r with
    | true =>
     rw [hn, if_pos rfl] at hk3
     rw [hk3] at hk2
     rw [hk2] at hk
     rw [hk]
     conv=>whnf
     exact RetA_view 0 rfl ⟨⟨rfl, rfl⟩, rfl⟩
    | false =>
     rw [hn, if_neg (by simp)] at hk3
     conv=>whnf
     refine arith_in (wrap_i64 (by (try dsimp only); omega)) ?_
     conv=>whnf
     exact ⟨⟨s.moves.x.lo + j, s.moves.y.lo + k⟩, hk3, Wk.sub ⟨rfl, rfl, rfl, rfl, rfl, rfl, rfl, rfl, rfl, congrArg (fun z => some (V.d (i64 z))) (by simp; omega), trivial⟩ ⟨rfl, rfl, rfl, trivial⟩⟩
   ·rintro m hk3
    rw [inCol] at hk3
    rw [hk3] at hk2
    conv=>whnf
    refine brk_i (fun h => absurd h (by simp; omega)) (fun _ => ?_)
    conv=>whnf
    refine arith_in (wrap_i64 (by (try dsimp only); omega)) ?_
    conv=>whnf
    exact ⟨m, hk2, Wk.sub ⟨rfl, rfl, rfl, rfl, rfl, rfl, rfl, rfl, congrArg (fun z => some (V.d (i64 z))) (by simp; omega), trivial⟩ ⟨rfl, rfl, rfl, trivial⟩⟩
  ·rintro m hk2
   rw [inCols] at hk2
   rw [hk2] at hk
   conv=>whnf
   refine brk_i (fun h => absurd h (by simp; omega)) (fun _ => ?_)
   conv=>whnf
   refine arith_in (wrap_i64 (by (try dsimp only); omega)) ?_
   conv=>whnf
   exact ⟨m, hk, (Wk.sub ⟨(by first | rfl | (simp only [List.length_map]; rfl) | simp [PX.get]), (by first | rfl | (simp only [List.length_map]; rfl) | simp [PX.get]), (by first | rfl | (simp only [List.length_map]; rfl) | simp [PX.get]), (by first | rfl | (simp only [List.length_map]; rfl) | simp [PX.get]), (by first | rfl | (simp only [List.length_map]; rfl) | simp [PX.get]), (by first | rfl | (simp only [List.length_map]; rfl) | simp [PX.get]), trivial⟩ ⟨(by first | rfl | (simp only [List.length_map]; rfl) | simp [PX.get]), (by first | rfl | (simp only [List.length_map]; rfl) | simp [PX.get]), trivial⟩)⟩
 ·rintro m hk
  rw [insL] at hk
  rw [hk]
  conv=>whnf
  refine brk_i (fun h => absurd h (by simp)) (fun _ => ?_)
  conv=>whnf
  exact RetA_view 0 rfl ⟨⟨rfl, rfl⟩, rfl⟩
end Go.PX
