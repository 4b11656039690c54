import Derived.Test.YtboaolnlajoanaaGreatDoorPxM
import Derived.Tactics
import Derived.Tactics2
import Derived.Recover
import Derived.Test.YtboaolnlajoanaaGreatDoorPxL
import Derived.Test.YtboaolnlajoanaaGreatDoorPxH
import Derived.Test.YtboaolnlajoanaaGreatDoorPxI
import Derived.Test.YtboaolnlajoanaaGreatDoorPxJ
set_option linter.all false
set_option maxRecDepth 10000
namespace Go.PX
open Go.Proofs
open Go.RowKit
theorem res88 (l : Array Value) (w : World) : (results Tryz.f88 l).run Tryz.prog w = .ok (.tuple #[]) w := by
 have h : (([] : List ResultVar).mapM (resOne l)).run Tryz.prog w = .ok [] w := by simp
 exact run_results (fn := Tryz.f88) h
theorem clo88_idle (h : Heap) : CloD Tryz.prog 88 .returning .returning h h := by
 intro σ cx hl L F s w hh
 refine callsDIn_of_wpSIn Tryz.func88 rfl trivial fun c₀ cs hu => ?_
 apply wpSIn_seq
 apply wpSIn_region
 simp [wpOpsSIn, go_sem, recoverD, hu, Exit.thenS]
 refine wpSIn_of_wpIn rfl ?_
 refine clo_tail tysOk (ft := ft88) hl hh (n := 9) rfl (v := .nilIface) (d := .nili) rfl trivial (by simp) rfl (by rfl) (by rfl) (by rfl) (by decide +kernel) (by exact (drawsB_spec mixed tysOk (by decide +kernel))) rfl (h' := h) ?_ ?_
 ·intro a' w' L' F' hdf hh' tr pin
  refine ⟨hdf, .returning, by cases c₀; simp_all, .tuple #[], res88 _ _, ⟨⟨_, rfl⟩, rfl, L', F', hh', tr, pin⟩⟩
 ·conv=>whnf
  exact ⟨fun _ _ h => h, rfl⟩
theorem clo88_pan (i j n m : Nat) : CloD Tryz.prog 88 (.panicking [{ v := pan6, recovered := false }]) (.panicking [{ v := pan6, recovered := true }]) [(1000000, .box (.vv [.sl i 4 0 n, .sl j 6 0 m])), (1000001, .box (.dd [i64 0]))] [(1000000, .box (.vv [.d .nils, .d .nils])), (1000001, .box (.dd [i64 6]))] := by
 intro σ cx hl L F s w hh
 refine callsDIn_of_wpSIn Tryz.func88 rfl trivial fun c₀ cs hu => ?_
 apply wpSIn_seq
 apply wpSIn_region
 simp [wpOpsSIn, go_sem, recoverD, hu, Exit.thenS]
 refine wpSIn_of_wpIn rfl ?_
 refine clo_tail tysOk (ft := ft88) hl hh (n := 9) rfl (v := pan6) (d := .ifc 28 (i64 6)) ⟨_, rfl, rfl⟩ trivial (by simp) rfl (by rfl) (by rfl) (by rfl) (by decide +kernel) (by exact (drawsB_spec mixed tysOk (by decide +kernel))) rfl (h' := [(1000000, .box (.vv [.d .nils, .d .nils])), (1000001, .box (.dd [i64 6]))]) ?_ ?_
 ·intro a' w' L' F' hdf hh' tr pin
  refine ⟨hdf, .panicking [{ v := pan6, recovered := true }], rfl, .tuple #[], res88 _ _, ⟨⟨_, rfl⟩, rfl, L', F', hh', tr, pin⟩⟩
 ·conv=>whnf
  exact ⟨subHeap_t ⟨rfl, rfl, trivial⟩, rfl⟩
end Go.PX
namespace Go.PX
open Go.Proofs
open Go.RowKit
def readN : Nat → Cht → List UInt8 → Option Cht
 | 0, c, _ => some c
 | n + 1, c, l => if l = [] then some c else
  if (cut1 10 l).2.2 then
   match takeF c ⟨(cut1 10 l).1.toArray⟩ with
   | some c' => readN n c' (cut1 10 l).2.1
   | none => none
  else none
def chtO : Cht := ⟨[], []⟩
def readX (s : ByteArray) : Cht × Int :=
 if 4000 < s.size then (chtO, 3) else
 match readN s.size chtO s.data.toList with
 | some c => if (checkX c).2.2 = 0 ∧ chtT c = s then (c, 0) else (chtO, 6)
 | none => (chtO, 6)
theorem cut1_len (c : UInt8) : ∀ l : List UInt8, (cut1 c l).1.length + (cut1 c l).2.1.length ≤ l.length ∧ (l ≠ [] → (cut1 c l).2.1.length < l.length)
 | [] => by simp [cut1]
 | x :: r => by
  have ih := cut1_len c r
  rw [cut1]
  split
  ·simp
  ·simp only [List.length_cons]
   refine ⟨by omega, fun _ => ?_⟩
   omega
theorem readN_fuel : ∀ (n m : Nat) (c : Cht) (l : List UInt8), l.length ≤ n → l.length ≤ m → readN n c l = readN m c l
 | 0, 0, _, _, _, _ => rfl
 | 0, m + 1, c, l, hn, _ => by
  have : l = [] := List.length_eq_zero_iff.1 (by omega)
  rw [readN, readN, if_pos this]
 | n + 1, 0, c, l, _, hm => by
  have : l = [] := List.length_eq_zero_iff.1 (by omega)
  rw [readN, readN, if_pos this]
 | n + 1, m + 1, c, l, hn, hm => by
  rw [readN, readN]
  by_cases h : l = []
  ·rw [if_pos h, if_pos h]
  ·rw [if_neg h, if_neg h]
   have := (cut1_len 10 l).2 h
   split
   ·cases takeF c ⟨(cut1 10 l).1.toArray⟩ with
    | none => rfl
    | some c' => exact readN_fuel n m c' _ (by omega) (by omega)
   ·rfl
def readL (c : Cht) (l : List UInt8) : Option Cht := readN l.length c l
theorem readL_eq (c : Cht) (l : List UInt8) : readL c l = if l = [] then some c else
  if (cut1 10 l).2.2 then
   match takeF c ⟨(cut1 10 l).1.toArray⟩ with
   | some c' => readL c' (cut1 10 l).2.1
   | none => none
  else none := by
 unfold readL
 by_cases h : l = []
 ·subst h; rfl
 ·obtain ⟨x, r, rfl⟩ := List.exists_cons_of_ne_nil h
  rw [if_neg h]
  have hl := (cut1_len 10 (x :: r)).2 h
  show readN (r.length + 1) c (x :: r) = _
  rw [readN, if_neg h]
  split
  ·cases takeF c ⟨(cut1 10 (x :: r)).1.toArray⟩ with
   | none => rfl
   | some c' => exact readN_fuel _ _ c' _ (by simp at hl; omega) (Nat.le_refl _)
  ·rfl
def failD (e : Int) : D := .tup [.agg [.nils, .nils], i64 e]
theorem ch89L (l : List UInt8) (c : UInt8) (hs : l.length ≤ 1000000000) : FnV Tryz.prog 89 [.str ⟨l.toArray⟩, .str ⟨#[c]⟩] (.tup [.str ⟨(cut1 c l).1.toArray⟩, .str ⟨(cut1 c l).2.1.toArray⟩, .bool (cut1 c l).2.2]) := by
 have h := @ch89 ⟨l.toArray⟩ c (by show l.toArray.size ≤ _; simpa using hs)
 have e : (⟨l.toArray⟩ : ByteArray).data.toList = l := rfl
 rw [e] at h
 exact fun {σ} => h
theorem takeF_len {c c' : Cht} {row : ByteArray} (h : takeF c row = some c') : c'.marks.length + c'.sands.length = c.marks.length + c.sands.length + 1 := by
 unfold takeF at h
 split at h
 case h_2 => cases h
 split at h
 ·split at h
  case h_2 => cases h
  split at h
  case h_2 => cases h
  cases h
  simp; omega
 ·split at h
  case isFalse => cases h
  split at h
  case h_2 => cases h
  split at h
  case h_2 => cases h
  split at h
  case h_2 => cases h
  cases h
  simp; omega
theorem endPan {σ : Type} {st : σ} {en : Env} {h : Heap} {i j n m : Nat} (h2 : get en 2 = some (.ptr 1000000 0)) (h3 : get en 3 = some (.ptr 1000001 0)) (hh : subHeap h [(1000000, .box (.vv [.sl i 4 0 n, .sl j 6 0 m])), (1000001, .box (.dd [i64 0]))]) :
  EndD Tryz.prog tys Tryz.f38 88 2 3 (failD 6) st (.panicking [{ v := pan6, recovered := false }]) en h st := by
 refine ⟨h2, h3, .panicking [{ v := pan6, recovered := true }], _, rfl, CloD.sub (h0 := [(1000000, .box (.vv [.sl i 4 0 n, .sl j 6 0 m])), (1000001, .box (.dd [i64 0]))]) (fun {σ} => clo88_pan i j n m) hh, ?_⟩
 conv=>whnf
 exact RetA_view 1 rfl ⟨rfl, rfl, rfl⟩
theorem viewC {h : Heap} (c : Cht) (h1 : get h 900001 = some (.arr 4 (.dd (c.marks.map Mark.cells)))) (h2 : get h 900002 = some (.arr 6 (.dd (c.sands.map Sand.cells)))) : viewL (objD h 1) [.agg [.sl 900001 4 0 c.marks.length, .sl 900002 6 0 c.sands.length]] = some [c.d] := by
 have e1 : viewV (objD h 1) (.sl 900001 4 0 c.marks.length) = some (marksD c.marks) := viewV_sl h1 (by simp)
 have e2 : viewV (objD h 1) (.sl 900002 6 0 c.sands.length) = some (sandsD c.sands) := viewV_sl h2 (by simp)
 refine viewL_cons ?_ rfl
 have : viewL (objD h 1) [.sl 900001 4 0 c.marks.length, .sl 900002 6 0 c.sands.length] = some [marksD c.marks, sandsD c.sands] := viewL_cons e1 (viewL_cons e2 rfl)
 rw [viewV, this]; rfl
theorem viewC2 {h : Heap} (c : Cht) (h1 : get h 900001 = some (.arr 4 (.dd (c.marks.map Mark.cells)))) (h2 : get h 900002 = some (.arr 6 (.dd (c.sands.map Sand.cells)))) : viewL (objD h 1) [.agg [.sl 900001 4 0 c.marks.length, .sl 900002 6 0 c.sands.length], .d (i64 0)] = some [c.d, i64 0] := by
 have h := viewC c h1 h2
 rw [viewL] at h
 rw [viewL]
 cases hx : viewV (objD _ 1) (.agg [.sl 900001 4 0 c.marks.length, .sl 900002 6 0 c.sands.length]) with
 | none => rw [hx] at h; cases h
 | some d => rw [hx] at h; cases h; rfl
set_option maxHeartbeats 4000000 in
theorem ch38r (s : ByteArray) (r : D) (h3 : 4000 < s.size → r = failD 3) (h6 : s.size ≤ 4000 → readL chtO s.data.toList = none → r = failD 6)
  (h7 : s.size ≤ 4000 → ∀ c, readL chtO s.data.toList = some c → ((checkX c).2.2 = 0 ∧ chtT c = s → r = .tup [c.d, i64 0]) ∧ (¬ ((checkX c).2.2 = 0 ∧ chtT c = s) → r = failD 6)) : FnV Tryz.prog 38 [.str s] r := by
 refine fnV_defer (ds := [.str s]) (ft := ft38) (g := 88) mixed tysOk 2 3 15 (lc := [.nils, .nils]) (le := [i64 0]) Tryz.func38 rfl (show fnB ft38 Tryz.f38 1 = true from by decide +kernel) (by decide) (by decide) (by decide) rfl rfl rfl ?_ ?_ fun {σ} Y st => ?_
 ·intro a w p q Q hp hq hs h
  have hmf : ∀ (fn : Fn) (first cap : Array Value) (w : World), (Instr.makeFunc fn first cap).run Tryz.prog w = .ok (.func fn first cap) w := fun _ _ _ _ => rfl
  apply wpIn_region
  have e2 : a.tmps.getD 2 undef = p := by rw [Array.getD_eq_getD_getElem?, hp]; rfl
  have e3 : a.tmps.getD 3 undef = q := by rw [Array.getD_eq_getD_getElem?, hq]; rfl
  have hsz : 15 < a.tmps.size := by rw [hs]; decide
  simp [wpOpsIn, wpOpIn, go_sem, hmf, e2, e3, hsz, Oper.uponIn, Result.andThen]
  simpa using h
 ·intro p q w
  rfl
 conv=>whnf
 refine brk_i (fun hb => ?_) (fun hb => ?_)
 ·have h0 := h3 (by have := of_decide_eq_true hb; omega)
  subst h0
  conv=>whnf
  refine ⟨rfl, ?_⟩
  conv=>whnf
  exact RetA_view 0 rfl ⟨⟨rfl, rfl⟩, rfl⟩
 refine ⟨?_, ?_⟩
 ·exact Wk.sub ⟨rfl, rfl, rfl, trivial⟩ ⟨rfl, rfl, trivial⟩
 have hs4 : s.size ≤ 4000 := by have := of_decide_eq_false hb; omega
 have h6 := h6 hs4
 have h7 := h7 hs4
 conv=>whnf
 refine LoopA_p (T := tys) tysOk (by exact drawsB_spec mixed tysOk (by decide +kernel)) (fun x : Cht × List UInt8 => ⟨[(0, .d (.str s)), (2, .ptr 1000000 0), (3, .ptr 1000001 0), (4, .d (.str ⟨x.2.toArray⟩))], (1000001, .box (.dd [i64 0])) :: chtN 1000000 900001 900002 x.1, st⟩) (fun x => readL chtO s.data.toList = readL x.1 x.2 ∧ x.1.marks.length + x.1.sands.length + x.2.length ≤ 4000) (fun x => x.2.length) (chtO, s.data.toList) ?_ ?_ ?_
 ·refine ((Wk.bornAtD 1000000 900001 4 [] [.nils] rfl rfl rfl rfl rfl).trans (Wk.bornAt 1000000 900002 6 [.sl 900001 4 0 0] [] rfl rfl ?_ rfl)).trans ?_
  ·rfl
  ·exact Wk.sub ⟨rfl, rfl, rfl, congrArg (fun z => some (V.d (.str z))) (show s = ⟨s.data.toList.toArray⟩ from by cases s; simp), trivial⟩ ⟨rfl, rfl, rfl, rfl, trivial⟩
 ·exact ⟨rfl, by simp [chtO]; exact hs4⟩
 rintro ⟨c, l⟩ ⟨hl, hlen⟩
 have hl : readL chtO s.data.toList = readL c l := hl
 have hlen : c.marks.length + c.sands.length + l.length ≤ 4000 := hlen
 conv=>whnf
 refine brk_i (fun hb => ?_) (fun hb => ?_)
 ·have hne : l ≠ [] := by rintro rfl; simp at hb
  have hcl := cut1_len 10 l
  rw [readL_eq c l, if_neg hne] at hl
  conv=>whnf
  refine CallA_v (ch89L l 10 (by omega)) rfl rfl ?_
  conv=>whnf
  refine must_i rfl (fun ht => ?_) (fun ht => ?_)
  ·rw [ht, if_pos rfl] at hl
   conv=>whnf
   refine CallA_x (ch91 c ⟨(cut1 10 l).1.toArray⟩ (by show (cut1 10 l).1.toArray.size ≤ 4000; rw [List.size_toArray]; omega) (by omega) (by omega) _ _) [1000000, 900001, 900002] rfl ⟨_, _, rfl, rfl, _, _, rfl, rfl, _, _, rfl, rfl, rfl⟩ rfl rfl ?_ ?_
   ·rintro v h1 s' ⟨⟨c', htk, rfl, rfl | rfl⟩, rfl⟩
    ·refine ⟨rfl, ?_⟩
     rw [htk] at hl
     have hlt := takeF_len htk
     have hcl2 := hcl.2 hne
     conv=>whnf
     exact ⟨(c', (cut1 10 l).2.1), hcl2, ⟨hl, by show c'.marks.length + c'.sands.length + (cut1 10 l).2.1.length ≤ 4000; omega⟩, (Wk.move 101792 900001 rfl rfl).trans (Wk.sub ⟨(by first | rfl | (simp only [List.length_map]; rfl) | simp [PX.get]), (by first | rfl | (simp only [List.length_map]; rfl) | simp [PX.get]), (by first | rfl | (simp only [List.length_map]; rfl) | simp [PX.get]), (by first | rfl | (simp only [List.length_map]; rfl) | simp [PX.get]), trivial⟩ ⟨(by first | rfl | (simp only [List.length_map]; rfl) | simp [PX.get]), (by first | rfl | (simp only [List.length_map]; rfl) | simp [PX.get]), (by first | rfl | (simp only [List.length_map]; rfl) | simp [PX.get]), (by first | rfl | (simp only [List.length_map]; rfl) | simp [PX.get]), trivial⟩)⟩
    ·refine ⟨rfl, ?_⟩
     rw [htk] at hl
     have hlt := takeF_len htk
     have hcl2 := hcl.2 hne
     conv=>whnf
     exact ⟨(c', (cut1 10 l).2.1), hcl2, ⟨hl, by show c'.marks.length + c'.sands.length + (cut1 10 l).2.1.length ≤ 4000; omega⟩, (Wk.move 101792 900002 rfl rfl).trans (Wk.sub ⟨(by first | rfl | (simp only [List.length_map]; rfl) | simp [PX.get]), (by first | rfl | (simp only [List.length_map]; rfl) | simp [PX.get]), (by first | rfl | (simp only [List.length_map]; rfl) | simp [PX.get]), (by first | rfl | (simp only [List.length_map]; rfl) | simp [PX.get]), trivial⟩ ⟨(by first | rfl | (simp only [List.length_map]; rfl) | simp [PX.get]), (by first | rfl | (simp only [List.length_map]; rfl) | simp [PX.get]), (by first | rfl | (simp only [List.length_map]; rfl) | simp [PX.get]), (by first | rfl | (simp only [List.length_map]; rfl) | simp [PX.get]), trivial⟩)⟩
   ·rintro pv h1 s' ⟨⟨htk, rfl, rfl⟩, rfl⟩
    refine ⟨rfl, ?_⟩
    rw [htk] at hl
    have h0 := h6 hl
    subst h0
    conv=>whnf
    exact endPan rfl rfl ⟨rfl, rfl, trivial⟩
  ·rw [ht, if_neg (by simp)] at hl
   have h0 := h6 hl
   subst h0
   conv=>whnf
   exact endPan rfl rfl ⟨rfl, rfl, trivial⟩
 ·have hle : l = [] := by
   by_cases h : l = []
   ·exact h
   ·exact absurd hb (by simp [h])
  subst hle
  have hl : readL chtO s.data.toList = some c := hl
  obtain ⟨h7a, h7b⟩ := h7 c hl
  conv=>whnf
  refine CallA_view (ch20 c) rfl 1 (viewC c rfl rfl) ?_
  conv=>whnf
  refine brk_i (fun hb1 => ?_) (fun hb1 => ?_)
  ·have hk : (checkX c).2.2 = 0 := by simpa using hb1
   conv=>whnf
   refine CallA_view (ch86 c (checkX_ok hk) (checkX_names hk).nm) rfl 1 (viewC c rfl rfl) ?_
   conv=>whnf
   refine must_i rfl (fun ht => ?_) (fun ht => ?_)
   ·have h0 := h7a ⟨hk, of_decide_eq_true ht⟩
    subst h0
    conv=>whnf
    refine ⟨.inr rfl, rfl, rfl, .returning, _, rfl, fun {σ} => clo88_idle _, ?_⟩
    conv=>whnf
    exact RetA_view 1 (viewC2 c rfl rfl) ⟨rfl, rfl, rfl⟩
   ·have h0 := h7b fun h => absurd ht (by rw [decide_eq_true h.2]; simp)
    subst h0
    conv=>whnf
    exact endPan rfl rfl ⟨rfl, rfl, trivial⟩
  ·have hk : (checkX c).2.2 ≠ 0 := by simpa using hb1
   have h0 := h7b fun h => hk h.1
   subst h0
   conv=>whnf
   refine must_i rfl (fun h => by cases h) (fun _ => ?_)
   conv=>whnf
   exact endPan rfl rfl ⟨rfl, rfl, trivial⟩
theorem readX_cases (s : ByteArray) : ∃ r, (PX.relax r = .tup [(readX s).1.d, i64 (readX s).2] ∨ r = .tup [(readX s).1.d, i64 (readX s).2]) ∧ (4000 < s.size → r = failD 3) ∧ (s.size ≤ 4000 → readL chtO s.data.toList = none → r = failD 6) ∧
  (s.size ≤ 4000 → ∀ c, readL chtO s.data.toList = some c → ((checkX c).2.2 = 0 ∧ chtT c = s → r = .tup [c.d, i64 0]) ∧ (¬ ((checkX c).2.2 = 0 ∧ chtT c = s) → r = failD 6)) := by
 have hrx : readX s = if 4000 < s.size then (chtO, (3 : Int)) else
  match readL chtO s.data.toList with
  | some c => if (checkX c).2.2 = 0 ∧ chtT c = s then (c, 0) else (chtO, 6)
  | none => (chtO, 6) := by
  unfold readX readL
  have : s.data.toList.length = s.size := by simp
  rw [this]
 by_cases h3 : 4000 < s.size
 ·rw [hrx, if_pos h3]
  exact ⟨failD 3, .inl rfl, fun _ => rfl, fun h => absurd h (by omega), fun h => absurd h (by omega)⟩
 rw [hrx, if_neg h3]
 cases hl : readL chtO s.data.toList with
 | none => exact ⟨failD 6, .inl rfl, fun h => absurd h h3, fun _ _ => rfl, fun _ c h => by cases h⟩
 | some c =>
  by_cases hk : (checkX c).2.2 = 0 ∧ chtT c = s
  ·simp only [if_pos hk]
   refine ⟨.tup [c.d, i64 0], .inr rfl, fun h => absurd h h3, fun _ h => ?_, fun _ c' h => ?_⟩
   ·cases h
   ·cases h; exact ⟨fun _ => rfl, fun h => absurd hk h⟩
  ·simp only [if_neg hk]
   refine ⟨failD 6, .inl rfl, fun h => absurd h h3, fun _ _ => rfl, fun _ c' h => ?_⟩
   cases h; exact ⟨fun h => absurd h hk, fun _ => rfl⟩
theorem ch38 (s : ByteArray) : FnV Tryz.prog 38 [.str s] (.tup [(readX s).1.d, i64 (readX s).2]) := by
 obtain ⟨r, hr, h3, h6, h7⟩ := readX_cases s
 rcases hr with hr | rfl
 ·exact FnV.relax (fun {σ} => ch38r s r h3 h6 h7) hr
 ·exact ch38r s _ h3 h6 h7
end Go.PX
namespace Go.PX
open Go.Proofs
def ptsE (c : Cht) (day k : Int) (b : Box) : Int := if stdE c day k = 0 then boxE 30000 b else stdE c day k
theorem cntF_ge (v : Pt) : ∀ (l : List Pt) (n : Int), n ≤ cntF v l n ∧ cntF v l n ≤ n + l.length
 | [], n => by simp [cntF]
 | q :: r, n => by
  have := cntF_ge v r (if leftF q v ≤ 0 then n + 1 else n)
  rw [cntF, List.length_cons]
  split at this <;> split <;> first | omega | contradiction
theorem turnN_quad {v : Pt} (hz : NZ v) : 0 ≤ (turnN (quadN v) v).x := by
 unfold NZ at hz
 unfold quadN
 split
 ·show 0 ≤ v.x; omega
 ·split
  ·show 0 ≤ -v.y; omega
  ·split
   ·show 0 ≤ -v.x; omega
   ·show 0 ≤ - -v.y; omega
theorem towF_in {v : Pt} (hz : NZ v) : 0 ≤ towF v ∧ towF v ≤ 31 := by
 have hx := turnN_quad hz
 have hq := quad_le v
 unfold towF
 generalize turnN (quadN v) v = u at hx ⊢
 have h1 : leftF ⟨0, 1000⟩ u ≤ 0 := by
  unfold leftF
  simp only
  omega
 have h2 := cntF_ge u quarterL (8 * quadN v)
 have h3 : cntF u quarterL (8 * quadN v) = cntF u quarterL.tail (8 * quadN v + 1) := by
  show cntF u (⟨0, 1000⟩ :: quarterL.tail) _ = _
  rw [cntF, if_pos h1]
 have h4 := cntF_ge u quarterL.tail (8 * quadN v + 1)
 have h5 : quarterL.length = 8 := rfl
 omega
def cfD (f : Nat → Int) : List D := [i64 (f 0), i64 (f 1), i64 (f 2), i64 (f 3), i64 (f 4), i64 (f 5), i64 (f 6), i64 (f 7), i64 (f 8), i64 (f 9), i64 (f 10), i64 (f 11), i64 (f 12), i64 (f 13), i64 (f 14), i64 (f 15), i64 (f 16), i64 (f 17), i64 (f 18), i64 (f 19), i64 (f 20), i64 (f 21), i64 (f 22), i64 (f 23), i64 (f 24), i64 (f 25), i64 (f 26), i64 (f 27), i64 (f 28), i64 (f 29), i64 (f 30), i64 (f 31)]
def cntStep (m : Pt) (f : Nat → Int) (p : Pt) : Nat → Int := if p.x = m.x ∧ p.y = m.y then f else fun q => if q = (towF (m.sub p)).toNat then f q + 1 else f q
def colF (m : Pt) (x : Int) (ys : List Int) (f : Nat → Int) : Nat → Int := ys.foldl (fun f y => cntStep m f ⟨x, y⟩) f
def gridF (m : Pt) (ys : List Int) (xs : List Int) (f : Nat → Int) : Nat → Int := xs.foldl (fun f x => colF m x ys f) f
def spanL (s : Span) : List Int := upX (s.hi - s.lo + 1).toNat s.lo
def dirsL (f : Nat → Int) (l : List Nat) : List Int := (l.filter fun p => decide (0 < f p)).map fun (p : Nat) => (p : Int)
def ptsL (c : Cht) (day k : Int) (b : Box) : List Int := if ptsE c day k b = 0 then dirsL (gridF (marM c day k).at' (spanL b.y) (spanL b.x) fun _ => 0) (List.range 32) else []
theorem getC {f : Nat → Int} {o k : Nat} (hk : k < 32) (ho : o = k) {t : TyI} (ht : t.isAgg = false) {K : V → Prop} (h : K (.d (i64 (f k)))) : Cells.getK t (.dd (cfD f)) o K := by
 subst ho
 unfold Cells.getK
 rw [ht]
 match o, hk with
  | 0, _ => exact h
  | 1, _ => exact h
  | 2, _ => exact h
  | 3, _ => exact h
  | 4, _ => exact h
  | 5, _ => exact h
  | 6, _ => exact h
  | 7, _ => exact h
  | 8, _ => exact h
  | 9, _ => exact h
  | 10, _ => exact h
  | 11, _ => exact h
  | 12, _ => exact h
  | 13, _ => exact h
  | 14, _ => exact h
  | 15, _ => exact h
  | 16, _ => exact h
  | 17, _ => exact h
  | 18, _ => exact h
  | 19, _ => exact h
  | 20, _ => exact h
  | 21, _ => exact h
  | 22, _ => exact h
  | 23, _ => exact h
  | 24, _ => exact h
  | 25, _ => exact h
  | 26, _ => exact h
  | 27, _ => exact h
  | 28, _ => exact h
  | 29, _ => exact h
  | 30, _ => exact h
  | 31, _ => exact h
  | k + 32, hk => exact absurd hk (by omega)
set_option maxHeartbeats 4000000 in
theorem ch34 (c : Cht) (day k : Int) (b : Box) : FnV Tryz.prog 34 [c.d, i64 day, i64 k, b.d] (.tup [intsD (ptsL c day k b), i64 (ptsE c day k b)]) := by
 refine fnV_of mixed tysOk Tryz.func34 rfl (ft := ft34) 4 (by decide +kernel) (by rfl) fun {σ} Y st => ?_
 conv=>whnf
 refine CallA_v (ch79 c day k) rfl rfl ?_
 conv=>whnf
 by_cases h0 : stdE c day k = 0
 case neg =>
  have he : ptsE c day k b = stdE c day k := by unfold ptsE; rw [if_neg h0]
  have hL : ptsL c day k b = [] := by unfold ptsL; rw [if_neg (by rw [he]; exact h0)]
  rw [hL, he]
  rw [decide_eq_false h0]
  conv=>whnf
  refine brk_i (fun _ => ?_) (fun h1 => absurd h1 (by simp [h0]))
  conv=>whnf
  exact RetA_viewR 0 rfl rfl ⟨⟨rfl, rfl⟩, rfl⟩
 have he : ptsE c day k b = boxE 30000 b := by unfold ptsE; rw [if_pos h0]
 obtain ⟨hR, hmem⟩ := marM_ok (stdE_mar h0)
 have hmp := (hR.mark _ hmem).1
 rw [he, decide_eq_true h0]
 conv=>whnf
 refine CallA_v (ch85 b 30000 (by omega)) rfl rfl ?_
 conv=>whnf
 by_cases h1 : boxE 30000 b = 0
 case neg =>
  have hL : ptsL c day k b = [] := by unfold ptsL; rw [if_neg (by rw [he]; exact h1)]
  rw [hL]
  refine brk_i (fun _ => ?_) (fun h2 => absurd h2 (by simp [h1]))
  conv=>whnf
  exact RetA_viewR 0 rfl rfl ⟨⟨rfl, rfl⟩, rfl⟩
 have hL : ptsL c day k b = dirsL (gridF (marM c day k).at' (spanL b.y) (spanL b.x) fun _ => 0) (List.range 32) := by unfold ptsL; rw [if_pos (by rw [he]; exact h1)]
 rw [hL, h1]
 conv=>whnf
 generalize marM c day k = m at *
 clear hL he
 have hbx : (-30000 ≤ b.x.lo ∧ b.x.hi ≤ 30000 ∧ b.x.lo ≤ b.x.hi ∧ b.x.hi - b.x.lo ≤ 40) ∧ (-30000 ≤ b.y.lo ∧ b.y.hi ≤ 30000 ∧ b.y.lo ≤ b.y.hi ∧ b.y.hi - b.y.lo ≤ 40) := by
  unfold boxE at h1
  split at h1
  case isFalse => cases h1
  rename_i h5
  split at h1
  case isFalse => cases h1
  rename_i h6
  simp only [Bool.and_eq_true, inB_iff] at h5 h6
  omega
 generalize hG : gridF m.at' (spanL b.y) (spanL b.x) (fun _ => 0) = G
 have hlenx : (spanL b.x).length = (b.x.hi - b.x.lo + 1).toNat := upX_len _ _
 have hleny : (spanL b.y).length = (b.y.hi - b.y.lo + 1).toNat := upX_len _ _
 refine LoopA_i (T := tys) tysOk (by exact drawsB_spec mixed tysOk (by decide +kernel)) (spanL b.x) (fun i (f : Nat → Int) => ⟨[(7, .ptr 7 0), (8, .d .nils), (10, .ptr 10 0), (11, .ptr 11 0), (12, .d (i64 (b.x.lo + i)))], [(7, .box (.dd b.cells)), (10, .box (.dd m.cells)), (11, .box (.dd (cfD f)))], st⟩)
  (fun i xs f => G = gridF m.at' (spanL b.y) xs f ∧ ∀ q, q < 32 → 0 ≤ f q ∧ f q ≤ 41 * i) (fun _ => 0) (Wk.sub ⟨rfl, rfl, rfl, rfl, congrArg (fun z => some (V.d (i64 z))) (by simp), trivial⟩ ⟨rfl, rfl, rfl, trivial⟩) ⟨hG.symm, fun v hv => by simp⟩ ?_ ?_
 ·rintro i x xs f hxi hi hir ⟨hgf, hav⟩
  obtain ⟨hx1, hx2⟩ := upX_get hxi
  have hgf : G = gridF m.at' (spanL b.y) xs (colF m.at' x (spanL b.y) f) := hgf
  generalize hH : colF m.at' x (spanL b.y) f = H at hgf
  conv=>whnf
  refine brk_i (fun _ => ?_) (fun h => absurd h (by simp; omega))
  conv=>whnf
  refine LoopA_i (T := tys) tysOk (by exact drawsB_spec mixed tysOk (by decide +kernel)) (spanL b.y) (fun j (f : Nat → Int) => ⟨[(7, .ptr 7 0), (8, .d .nils), (10, .ptr 10 0), (11, .ptr 11 0), (12, .d (i64 (b.x.lo + i))), (13, .d (i64 (b.y.lo + j)))], [(7, .box (.dd b.cells)), (10, .box (.dd m.cells)), (11, .box (.dd (cfD f)))], st⟩)
   (fun j ys f => H = colF m.at' x ys f ∧ ∀ q, q < 32 → 0 ≤ f q ∧ f q ≤ 41 * i + j) f (Wk.sub ⟨rfl, rfl, rfl, rfl, rfl, congrArg (fun z => some (V.d (i64 z))) (by simp), trivial⟩ ⟨rfl, rfl, rfl, trivial⟩) ⟨hH.symm, fun v hv => by have := hav v hv; omega⟩ ?_ ?_
  ·rintro j y ys f hyj hj hjr ⟨hcf, hav⟩
   obtain ⟨hy1, hy2⟩ := upX_get hyj
   have hcf : H = colF m.at' x ys (cntStep m.at' f ⟨x, y⟩) := hcf
   subst hx1 hy1
   conv=>whnf
   refine brk_i (fun _ => ?_) (fun h => absurd h (by simp; omega))
   conv=>whnf
   refine brk_i (fun h3 => ?_) (fun h3 => ?_)
   ·have hq : Pin 30000 ⟨b.x.lo + i, b.y.lo + j⟩ := ⟨by simp only; omega, by simp only; omega⟩
    have hnz : NZ (m.at'.sub ⟨b.x.lo + i, b.y.lo + j⟩) := by
     show m.at'.x - (b.x.lo + i) ≠ 0 ∨ m.at'.y - (b.y.lo + j) ≠ 0
     simp at h3
     omega
    have hne : ¬ (b.x.lo + (i : Int) = m.at'.x ∧ b.y.lo + (j : Int) = m.at'.y) := by
     intro e
     have hnz : m.at'.x - (b.x.lo + i) ≠ 0 ∨ m.at'.y - (b.y.lo + j) ≠ 0 := hnz
     omega
    rw [cntStep, if_neg hne] at hcf
    conv=>whnf
    refine CallA_view (ds := [Pt.d ⟨b.x.lo + i, b.y.lo + j⟩, m.at'.d]) (ch81 ⟨b.x.lo + i, b.y.lo + j⟩ m.at' (hq.mono (by omega)) (hmp.mono (by omega))) rfl 1 rfl ?_
    conv=>whnf
    refine CallA_view (ds := [(m.at'.sub ⟨b.x.lo + i, b.y.lo + j⟩).d]) (ch80 (m.at'.sub ⟨b.x.lo + i, b.y.lo + j⟩) ((hmp.sub hq).mono (by omega)) hnz) rfl 1 rfl ?_
    have hti := towF_in hnz
    generalize hT : towF (m.at'.sub ⟨b.x.lo + i, b.y.lo + j⟩) = T at hti hcf ⊢
    obtain ⟨t, rfl⟩ : ∃ t : Nat, T = t := ⟨T.toNat, by omega⟩
    rw [Int.toNat_natCast] at hcf
    have ht : t < 32 := by omega
    have hb := hav t ht
    have hmore : ∀ q, q < 32 → 0 ≤ (if q = t then f q + 1 else f q) ∧ (if q = t then f q + 1 else f q) ≤ 41 * i + (j + 1) := by
     intro q hq
     have := hav q hq
     split <;> omega
    clear hT hti hnz hne hq
    have ht32 : t = 0 ∨ t = 1 ∨ t = 2 ∨ t = 3 ∨ t = 4 ∨ t = 5 ∨ t = 6 ∨ t = 7 ∨ t = 8 ∨ t = 9 ∨ t = 10 ∨ t = 11 ∨ t = 12 ∨ t = 13 ∨ t = 14 ∨ t = 15 ∨ t = 16 ∨ t = 17 ∨ t = 18 ∨ t = 19 ∨ t = 20 ∨ t = 21 ∨ t = 22 ∨ t = 23 ∨ t = 24 ∨ t = 25 ∨ t = 26 ∨ t = 27 ∨ t = 28 ∨ t = 29 ∨ t = 30 ∨ t = 31 := by omega
    clear ht
    rcases ht32 with rfl | rfl | rfl | rfl | rfl | rfl | rfl | rfl | rfl | rfl | rfl | rfl | rfl | rfl | rfl | rfl | rfl | rfl | rfl | rfl | rfl | rfl | rfl | rfl | rfl | rfl | rfl | rfl | rfl | rfl | rfl | rfl <;>
    ·conv=>whnf
     refine arith_in (wrap_i64 (by (try dsimp only); omega)) ?_
     conv=>whnf
     refine arith_in (wrap_i64 (by (try dsimp only); omega)) ?_
     conv=>whnf
     exact ⟨_, ⟨hcf, hmore⟩, Wk.sub ⟨rfl, rfl, rfl, rfl, rfl, congrArg (fun z => some (V.d (i64 z))) (by omega), trivial⟩ ⟨rfl, rfl, rfl, trivial⟩⟩
   ·have hne : b.x.lo + (i : Int) = m.at'.x ∧ b.y.lo + (j : Int) = m.at'.y := by
     simp at h3
     omega
    rw [cntStep, if_pos hne] at hcf
    conv=>whnf
    refine arith_in (wrap_i64 (by (try dsimp only); omega)) ?_
    conv=>whnf
    exact ⟨f, ⟨hcf, fun q hq => by have := hav q hq; omega⟩, Wk.sub ⟨rfl, rfl, rfl, rfl, rfl, congrArg (fun z => some (V.d (i64 z))) (by omega), trivial⟩ ⟨rfl, rfl, rfl, trivial⟩⟩
  ·rintro f ⟨hcf, hav⟩
   have hcf : H = f := hcf
   conv=>whnf
   refine brk_i (fun h => absurd h (by simp; omega)) (fun _ => ?_)
   conv=>whnf
   refine arith_in (wrap_i64 (by (try dsimp only); omega)) ?_
   conv=>whnf
   exact ⟨f, ⟨hcf ▸ hgf, fun q hq => by have := hav q hq; omega⟩, Wk.sub ⟨rfl, rfl, rfl, rfl, congrArg (fun z => some (V.d (i64 z))) (by omega), trivial⟩ ⟨rfl, rfl, rfl, trivial⟩⟩
 ·rintro f ⟨hgf, hav⟩
  have hgf : G = f := hgf
  subst hgf
  conv=>whnf
  refine brk_i (fun h => absurd h (by simp; omega)) (fun _ => ?_)
  conv=>whnf
  generalize hD : dirsL G (List.range 32) = DL
  refine LoopA_i (T := tys) tysOk (by exact drawsB_spec mixed tysOk (by decide +kernel)) (List.range 32) (fun i (acc : List Int) => ⟨[(8, .sl 77 1 0 acc.length), (67, .d (.agg (cfD G))), (68, .d (i64 i))], [(77, .arr 1 (.dd (acc.map fun n => [i64 n])))], st⟩)
   (fun i r acc => acc.length ≤ i ∧ DL = acc ++ dirsL G r) [] ((Wk.born 8 77 1 rfl rfl rfl).trans (Wk.sub ⟨(by first | rfl | (simp only [List.length_map]; rfl) | simp [PX.get]), (by first | rfl | (simp only [List.length_map]; rfl) | simp [PX.get]), (by first | rfl | (simp only [List.length_map]; rfl) | simp [PX.get]), trivial⟩ ⟨(by first | rfl | (simp only [List.length_map]; rfl) | simp [PX.get]), trivial⟩)) ⟨by simp, hD.symm⟩ ?_ ?_
  ·rintro i q r acc hqi hi hir ⟨hal, hDL⟩
   have hq : q = i := by
    rw [List.getElem?_range (by simpa using hi)] at hqi
    cases hqi; rfl
   subst hq
   have hi : q < 32 := by simpa using hi
   conv=>whnf
   refine brk_i (fun _ => ?_) (fun h => absurd h (by simp; omega))
   refine brk_i (fun _ => ?_) (fun h => absurd h (by simp; omega))
   refine getC hi (by show (q : Int).toNat * 1 = q; omega) rfl ?_
   conv=>whnf
   refine brk_i (fun h3 => ?_) (fun h3 => ?_)
   ·have h3 : 0 < G q := of_decide_eq_true h3
    have hDL : DL = (acc ++ [(q : Int)]) ++ dirsL G r := by rw [hDL]; simp [dirsL, h3]
    conv=>whnf
    refine ownK_whole rfl ?_
    conv=>whnf
    refine ownK_whole (by simp [Els.len]) ?_
    conv=>whnf
    refine chk_i (decide_eq_true (by show ((acc.map fun n => [i64 n]).length + 1) * 8 ≤ _; rw [List.length_map]; omega)) ?_
    conv=>whnf
    refine arith_in (wrap_i64 (by (try dsimp only); omega)) ?_
    conv=>whnf
    exact ⟨acc ++ [(q : Int)], ⟨by simp; omega, hDL⟩, Wk.sub ⟨congrArg (fun z : Nat => some (V.sl 77 1 0 z)) (by simp [Els.len]), rfl, congrArg (fun z => some (V.d (i64 z))) (by omega), trivial⟩ ⟨congrArg (fun z => some (Obj.arr 1 (.dd z))) (by simp), trivial⟩⟩
   ·have h3 : ¬ 0 < G q := of_decide_eq_false h3
    have hDL : DL = acc ++ dirsL G r := by rw [hDL]; simp [dirsL, h3]
    conv=>whnf
    refine arith_in (wrap_i64 (by (try dsimp only); omega)) ?_
    conv=>whnf
    exact ⟨acc, ⟨by omega, hDL⟩, Wk.sub ⟨rfl, rfl, congrArg (fun z => some (V.d (i64 z))) (by omega), trivial⟩ ⟨rfl, trivial⟩⟩
  ·rintro acc ⟨hal, hDL⟩
   have hDL : DL = acc := by rw [hDL]; simp [dirsL]
   rw [hDL]
   conv=>whnf
   refine RetA_view 1 (ds := [intsD acc, i64 0]) ?_ ⟨⟨rfl, rfl⟩, rfl⟩
   exact viewL_cons (viewV_sl rfl (by simp)) rfl
end Go.PX
namespace Go.PX
open Go.Proofs
deriving instance DecidableEq for Pt
deriving instance DecidableEq for Mark
deriving instance DecidableEq for Sand
deriving instance DecidableEq for Cht
theorem ch94 (a b : List Pt) (ha : a.length < 1000000) : FnV Tryz.prog 94 [ptsD a, ptsD b] (.bool (decide (a = b))) := by
 refine fnV_of mixed tysOk Tryz.func94 rfl (ft := ft94) 2 (by decide +kernel) (by rfl) fun {σ} Y st => ?_
 conv=>whnf
 refine brk_i (fun h0 => ?_) (fun h0 => ?_)
 ·have h0 : a.length ≠ b.length := by
   intro e; simp [e] at h0
  conv=>whnf
  rw [decide_eq_false (by rintro rfl; exact h0 rfl)]
  exact RetA_view 0 rfl ⟨⟨rfl, rfl⟩, rfl⟩
 ·have h0 : a.length = b.length := by
   have := h0
   simp at this; omega
  conv=>whnf
  refine LoopA_p (T := tys) tysOk (by exact drawsB_spec mixed tysOk (by decide +kernel)) (α := Nat) (fun i => ⟨[(0, .d (ptsD a)), (1, .d (ptsD b)), (5, .d (i64 i))], [], st⟩) (fun i => i ≤ a.length ∧ a.take i = b.take i) (fun i => a.length - i) 0
   (Wk.sub ⟨rfl, rfl, rfl, trivial⟩ trivial) (by simp) ?_
  rintro i ⟨hi, he⟩
  conv=>whnf
  refine brk_i (fun hc => ?_) (fun hc => ?_)
  ·have hc : i < a.length := by simpa using hc
   have hc' : i < b.length := by omega
   conv=>whnf
   refine elemK_i a[i].cells (by simp [hc]) ?_
   conv=>whnf
   refine elemK_i b[i].cells (by simp [hc']) ?_
   conv=>whnf
   refine brk_i (fun h1 => ?_) (fun h1 => ?_)
   ·conv=>whnf
    have h1 : a[i] ≠ b[i] := by
     intro e
     rw [e] at h1
     simp at h1
    rw [decide_eq_false (by rintro rfl; exact h1 rfl)]
    exact RetA_view 0 rfl ⟨⟨rfl, rfl⟩, rfl⟩
   ·have h1 : a[i] = b[i] := by
     cases hx : a[i] with
     | mk x y =>
      cases hy : b[i] with
      | mk u v =>
       rw [hx, hy] at h1
       simpa using h1
    refine arith_in (wrap_i64 (by (try dsimp only); omega)) ?_
    conv=>whnf
    exact ⟨i + 1, by omega, ⟨hc, by rw [List.take_succ_eq_append_getElem hc, List.take_succ_eq_append_getElem hc', he, h1]⟩, Wk.sub ⟨rfl, rfl, rfl, trivial⟩ trivial⟩
  ·have hc : ¬ i < a.length := by simpa using hc
   conv=>whnf
   rw [List.take_of_length_le (by omega), List.take_of_length_le (by omega)] at he
   rw [decide_eq_true he]
   exact RetA_view 0 rfl ⟨⟨rfl, rfl⟩, rfl⟩
theorem ch52 (a b c d : Int) : FnV Tryz.prog 52 [i64 a, i64 b, i64 c, i64 d] (Box.d ⟨⟨a, b⟩, ⟨c, d⟩⟩) := by
 refine fnV_of mixed tysOk Tryz.func52 rfl (ft := ft52) 4 (by decide +kernel) (by rfl) fun {σ} Y st => ?_
 conv=>whnf
 exact RetA_view 0 rfl ⟨⟨rfl, rfl⟩, rfl⟩
def exT : ByteArray := ⟨#[109, 97, 114, 107, 32, 99, 104, 117, 114, 99, 104, 32, 51, 48, 48, 48, 32, 52, 48, 48, 48, 32, 48, 32, 49, 32, 53, 48, 32, 50, 10, 109, 97, 114, 107, 32, 109, 105, 108, 108, 32, 45, 50, 48, 48, 48, 32, 48, 32, 49, 48, 32, 51, 32, 57, 48, 32, 48, 10, 115, 97, 110, 100, 32, 107, 110, 111, 108, 108, 32, 48, 32, 49, 48, 32, 45, 53, 32, 53, 32, 49, 48, 48, 32, 48, 32, 50, 48, 48, 32, 48, 32, 50, 48, 48, 32, 49, 48, 48, 32, 49, 48, 48, 32, 49, 48, 48, 10, 115, 97, 110, 100, 32, 115, 112, 105, 116, 32, 48, 32, 48, 32, 48, 32, 48, 32, 45, 51, 48, 48, 32, 45, 51, 48, 48, 32, 45, 49, 48, 48, 32, 45, 52, 48, 48, 32, 45, 50, 48, 48, 32, 45, 50, 48, 48, 10]⟩
def exC : Cht := ⟨[⟨⟨#[99, 104, 117, 114, 99, 104]⟩, ⟨3000, 4000⟩, [⟨0, 1⟩, ⟨50, 2⟩]⟩, ⟨⟨#[109, 105, 108, 108]⟩, ⟨-2000, 0⟩, [⟨10, 3⟩, ⟨90, 0⟩]⟩],
 [⟨⟨#[107, 110, 111, 108, 108]⟩, [⟨100, 0⟩, ⟨200, 0⟩, ⟨200, 100⟩, ⟨100, 100⟩], ⟨⟨0, 10⟩, ⟨-5, 5⟩⟩⟩, ⟨⟨#[115, 112, 105, 116]⟩, [⟨-300, -300⟩, ⟨-100, -400⟩, ⟨-200, -200⟩], ⟨⟨0, 0⟩, ⟨0, 0⟩⟩⟩]⟩
theorem ch69 : FnV Tryz.prog 69 [] (.str exT) := by
 refine fnV_of mixed tysOk Tryz.func69 rfl (ft := ft69) 0 (by decide +kernel) (by rfl) fun {σ} Y st => ?_
 conv=>whnf
 exact RetA_view 0 rfl ⟨⟨rfl, rfl⟩, rfl⟩
theorem ch41 : FnV Tryz.prog 41 [] exC.d := by
 refine fnV_of mixed tysOk Tryz.func41 rfl (ft := ft41) 0 (by decide +kernel) (by rfl) fun {σ} Y st => ?_
 conv=>whnf
 repeat' (first
  | (refine CallA_v (ch42 _ _) rfl rfl ?_; conv=>whnf)
  | (refine CallA_view (ch42 _ _) rfl 1 rfl ?_; conv=>whnf)
  | (refine DrawCall_v (ch42 _ _) rfl rfl ?_; conv=>whnf)
  | (refine DrawCall_view (ch42 _ _) rfl 1 rfl ?_; conv=>whnf)
  | (refine CallA_v (ch52 _ _ _ _) rfl rfl ?_; conv=>whnf)
  | (refine CallA_view (ch52 _ _ _ _) rfl 1 rfl ?_; conv=>whnf)
  | (refine DrawCall_v (ch52 _ _ _ _) rfl rfl ?_; conv=>whnf)
  | (refine DrawCall_view (ch52 _ _ _ _) rfl 1 rfl ?_; conv=>whnf)
  | (refine arith_in (wrap_i64 (by (try dsimp only); omega)) ?_; conv=>whnf)
  | (refine elemK_nat (by assumption) ?_; conv=>whnf)
  | (refine ownK_whole (by first | rfl | assumption | (simp [Els.len]; done) | (simp [Els.len]; omega)) ?_; conv=>whnf)
  | (refine chk_i (by first | (exact decide_eq_true (by (try simp only [List.length_map]); omega)) | (simp [Els.len, Els.cons, V.cells, Els.toV, injL]; done) | (simp [Els.len, Els.cons, V.cells, Els.toV, injL]; omega)) ?_; conv=>whnf)
  | fail)
 exact RetA_view 3 rfl ⟨⟨rfl, rfl⟩, rfl⟩
end Go.PX
namespace Go.PX
open Go.Proofs
structure FewC (c : Cht) : Prop where
 marks : c.marks.length < 1000000
 sands : c.sands.length < 1000000
 paints : ∀ m ∈ c.marks, m.paints.length < 1000000
 corners : ∀ s ∈ c.sands, s.corners.length < 1000000
set_option maxHeartbeats 4000000 in
theorem ch40 (a b : Cht) (ha : FewC a) : FnV Tryz.prog 40 [a.d, b.d] (.bool (decide (a = b))) := by
 refine fnV_of mixed tysOk Tryz.func40 rfl (ft := ft40) 2 (by decide +kernel) (by rfl) fun {σ} Y st => ?_
 conv=>whnf
 have hm1 := ha.marks
 have hs1 := ha.sands
 refine brk_i (fun h0 => ?_) (fun h0 => ?_)
 ·have h0 : a.marks.length ≠ b.marks.length := by
   intro e; simp [e] at h0
  conv=>whnf
  rw [decide_eq_false (by rintro rfl; exact h0 rfl)]
  exact RetA_view 0 rfl ⟨⟨rfl, rfl⟩, rfl⟩
 have hml : a.marks.length = b.marks.length := by
  have := h0
  simp at this; omega
 conv=>whnf
 refine brk_i (fun h0 => ?_) (fun h0 => ?_)
 ·have h0 : a.sands.length ≠ b.sands.length := by
   intro e; simp [e] at h0
  conv=>whnf
  rw [decide_eq_false (by rintro rfl; exact h0 rfl)]
  exact RetA_view 0 rfl ⟨⟨rfl, rfl⟩, rfl⟩
 have hsl : a.sands.length = b.sands.length := by
  have := h0
  simp at this; omega
 conv=>whnf
 refine LoopA_p (T := tys) tysOk (by exact drawsB_spec mixed tysOk (by decide +kernel)) (α := Nat) (fun i => ⟨[(2, .ptr 2 0), (3, .ptr 3 0), (5, .d (i64 i))], [(2, .box (.dd a.cells)), (3, .box (.dd b.cells))], st⟩) (fun i => i ≤ a.marks.length ∧ a.marks.take i = b.marks.take i) (fun i => a.marks.length - i) 0
  (Wk.sub ⟨(by first | rfl | (simp only [List.length_map]; rfl) | simp [PX.get]), (by first | rfl | (simp only [List.length_map]; rfl) | simp [PX.get]), (by first | rfl | (simp only [List.length_map]; rfl) | simp [PX.get]), trivial⟩ ⟨(by first | rfl | (simp only [List.length_map]; rfl) | simp [PX.get]), (by first | rfl | (simp only [List.length_map]; rfl) | simp [PX.get]), trivial⟩) (by simp) ?_
 rintro i ⟨hi, he⟩
 conv=>whnf
 refine brk_i (fun hc => ?_) (fun hc => ?_)
 ·have hc : i < a.marks.length := by simpa using hc
  have hc' : i < b.marks.length := by omega
  have hpl := ha.paints a.marks[i] (List.getElem_mem hc)
  have hne : a.marks[i] ≠ b.marks[i] → a ≠ b := by rintro h rfl; exact h rfl
  have hnx : a.marks[i] = b.marks[i] → a.marks.take (i + 1) = b.marks.take (i + 1) := fun h1 => by rw [List.take_succ_eq_append_getElem hc, List.take_succ_eq_append_getElem hc', he, h1]
  generalize hx : a.marks[i] = x at *
  generalize hy : b.marks[i] = y at *
  conv=>whnf
  refine elemK_i x.cells (by simp [hc, hx]) ?_
  conv=>whnf
  refine elemK_i y.cells (by simp [hc', hy]) ?_
  conv=>whnf
  refine brk_i (fun h1 => ?_) (fun h1 => ?_)
  ·have h1 : x ≠ y := by rintro rfl; simp at h1
   conv=>whnf
   rw [decide_eq_false (hne h1)]
   exact RetA_view 0 rfl ⟨⟨rfl, rfl⟩, rfl⟩
  have n1 : x.name = y.name := by simpa using h1
  conv=>whnf
  refine brk_i (fun h1 => ?_) (fun h1 => ?_)
  ·have h1 : x ≠ y := by rintro rfl; simp at h1
   conv=>whnf
   rw [decide_eq_false (hne h1)]
   exact RetA_view 0 rfl ⟨⟨rfl, rfl⟩, rfl⟩
  have n2 : x.at' = y.at' := by
   cases h4 : x.at' with
   | mk p q =>
    cases h5 : y.at' with
    | mk u v =>
     rw [h4, h5] at h1
     simpa using h1
  conv=>whnf
  refine brk_i (fun h1 => ?_) (fun h1 => ?_)
  ·have h1 : x ≠ y := by rintro rfl; simp at h1
   conv=>whnf
   rw [decide_eq_false (hne h1)]
   exact RetA_view 0 rfl ⟨⟨rfl, rfl⟩, rfl⟩
  have hxy : x.paints.length = y.paints.length := by
   have := h1
   simp at this; omega
  conv=>whnf
  refine LoopA_p (T := tys) tysOk (by exact drawsB_spec mixed tysOk (by decide +kernel)) (α := Nat) (fun k => ⟨[(2, .ptr 2 0), (3, .ptr 3 0), (5, .d (i64 i)), (6, .ptr 6 0), (7, .ptr 7 0), (8, .d (i64 k))], [(2, .box (.dd a.cells)), (3, .box (.dd b.cells)), (6, .box (.dd x.cells)), (7, .box (.dd y.cells))], st⟩) (fun k => k ≤ x.paints.length ∧ x.paints.take k = y.paints.take k) (fun k => x.paints.length - k) 0
   (Wk.sub ⟨(by first | rfl | (simp only [List.length_map]; rfl) | simp [PX.get]), (by first | rfl | (simp only [List.length_map]; rfl) | simp [PX.get]), (by first | rfl | (simp only [List.length_map]; rfl) | simp [PX.get]), (by first | rfl | (simp only [List.length_map]; rfl) | simp [PX.get]), (by first | rfl | (simp only [List.length_map]; rfl) | simp [PX.get]), (by first | rfl | (simp only [List.length_map]; rfl) | simp [PX.get]), trivial⟩ ⟨(by first | rfl | (simp only [List.length_map]; rfl) | simp [PX.get]), (by first | rfl | (simp only [List.length_map]; rfl) | simp [PX.get]), (by first | rfl | (simp only [List.length_map]; rfl) | simp [PX.get]), (by first | rfl | (simp only [List.length_map]; rfl) | simp [PX.get]), trivial⟩) (by simp) ?_
  rintro k ⟨hk, hke⟩
  conv=>whnf
  refine brk_i (fun hc2 => ?_) (fun hc2 => ?_)
  ·have hc2 : k < x.paints.length := by simpa using hc2
   have hc3 : k < y.paints.length := by omega
   conv=>whnf
   refine elemK_i x.paints[k].cells (by simp [hc2]) ?_
   conv=>whnf
   refine elemK_i y.paints[k].cells (by simp [hc3]) ?_
   conv=>whnf
   refine brk_i (fun h1 => ?_) (fun h1 => ?_)
   ·conv=>whnf
    have h1 : x.paints[k] ≠ y.paints[k] := by
     intro e
     rw [e] at h1
     simp at h1
    rw [decide_eq_false (hne (by rintro rfl; exact h1 rfl))]
    exact RetA_view 0 rfl ⟨⟨rfl, rfl⟩, rfl⟩
   ·have h1 : x.paints[k] = y.paints[k] := by
     cases hx : x.paints[k] with
     | mk p q =>
      cases hy : y.paints[k] with
      | mk u v =>
       rw [hx, hy] at h1
       simpa using h1
    refine arith_in (wrap_i64 (by (try dsimp only); omega)) ?_
    conv=>whnf
    exact ⟨k + 1, by omega, ⟨hc2, by rw [List.take_succ_eq_append_getElem hc2, List.take_succ_eq_append_getElem hc3, hke, h1]⟩, (Wk.sub ⟨(by first | rfl | (simp only [List.length_map]; rfl) | simp [PX.get]), (by first | rfl | (simp only [List.length_map]; rfl) | simp [PX.get]), (by first | rfl | (simp only [List.length_map]; rfl) | simp [PX.get]), (by first | rfl | (simp only [List.length_map]; rfl) | simp [PX.get]), (by first | rfl | (simp only [List.length_map]; rfl) | simp [PX.get]), (by first | rfl | (simp only [List.length_map]; rfl) | simp [PX.get]), trivial⟩ ⟨(by first | rfl | (simp only [List.length_map]; rfl) | simp [PX.get]), (by first | rfl | (simp only [List.length_map]; rfl) | simp [PX.get]), (by first | rfl | (simp only [List.length_map]; rfl) | simp [PX.get]), (by first | rfl | (simp only [List.length_map]; rfl) | simp [PX.get]), trivial⟩)⟩
  ·have hc2 : ¬ k < x.paints.length := by simpa using hc2
   rw [List.take_of_length_le (by omega), List.take_of_length_le (by omega)] at hke
   have hxe : x = y := by
    cases x; cases y
    simp only at n1 n2 hke
    rw [n1, n2, hke]
   conv=>whnf
   refine arith_in (wrap_i64 (by (try dsimp only); omega)) ?_
   conv=>whnf
   exact ⟨i + 1, by omega, ⟨hc, hnx hxe⟩, (Wk.sub ⟨(by first | rfl | (simp only [List.length_map]; rfl) | simp [PX.get]), (by first | rfl | (simp only [List.length_map]; rfl) | simp [PX.get]), (by first | rfl | (simp only [List.length_map]; rfl) | simp [PX.get]), trivial⟩ ⟨(by first | rfl | (simp only [List.length_map]; rfl) | simp [PX.get]), (by first | rfl | (simp only [List.length_map]; rfl) | simp [PX.get]), trivial⟩)⟩
 ·have hc : ¬ i < a.marks.length := by simpa using hc
  rw [List.take_of_length_le (by omega), List.take_of_length_le (by omega)] at he
  conv=>whnf
  refine LoopA_p (T := tys) tysOk (by exact drawsB_spec mixed tysOk (by decide +kernel)) (α := Nat) (fun i => ⟨[(2, .ptr 2 0), (3, .ptr 3 0), (9, .d (i64 i))], [(2, .box (.dd a.cells)), (3, .box (.dd b.cells))], st⟩) (fun i => i ≤ a.sands.length ∧ a.sands.take i = b.sands.take i) (fun i => a.sands.length - i) 0
   (Wk.sub ⟨(by first | rfl | (simp only [List.length_map]; rfl) | simp [PX.get]), (by first | rfl | (simp only [List.length_map]; rfl) | simp [PX.get]), (by first | rfl | (simp only [List.length_map]; rfl) | simp [PX.get]), trivial⟩ ⟨(by first | rfl | (simp only [List.length_map]; rfl) | simp [PX.get]), (by first | rfl | (simp only [List.length_map]; rfl) | simp [PX.get]), trivial⟩) (by simp) ?_
  rintro i ⟨hi, hes⟩
  conv=>whnf
  refine brk_i (fun hc => ?_) (fun hc => ?_)
  ·have hc : i < a.sands.length := by simpa using hc
   have hc' : i < b.sands.length := by omega
   have hpl := ha.corners a.sands[i] (List.getElem_mem hc)
   have hne : a.sands[i] ≠ b.sands[i] → a ≠ b := by rintro h rfl; exact h rfl
   have hnx : a.sands[i] = b.sands[i] → a.sands.take (i + 1) = b.sands.take (i + 1) := fun h1 => by rw [List.take_succ_eq_append_getElem hc, List.take_succ_eq_append_getElem hc', hes, h1]
   generalize hx : a.sands[i] = x at *
   generalize hy : b.sands[i] = y at *
   conv=>whnf
   refine elemK_i x.cells (by simp [hc, hx]) ?_
   conv=>whnf
   refine elemK_i y.cells (by simp [hc', hy]) ?_
   conv=>whnf
   refine brk_i (fun h1 => ?_) (fun h1 => ?_)
   ·have h1 : x ≠ y := by rintro rfl; simp at h1
    conv=>whnf
    rw [decide_eq_false (hne h1)]
    exact RetA_view 0 rfl ⟨⟨rfl, rfl⟩, rfl⟩
   have n1 : x.name = y.name := by simpa using h1
   conv=>whnf
   refine brk_i (fun h1 => ?_) (fun h1 => ?_)
   ·have h1 : x ≠ y := by rintro rfl; simp at h1
    conv=>whnf
    rw [decide_eq_false (hne h1)]
    exact RetA_view 0 rfl ⟨⟨rfl, rfl⟩, rfl⟩
   have n2 : x.moves = y.moves := by
    cases h4 : x.moves with
    | mk p q =>
     cases h5 : y.moves with
     | mk u v =>
      rw [h4, h5] at h1
      cases p; cases q; cases u; cases v
      simp at h1 ⊢
      exact h1
   conv=>whnf
   refine CallA_view (ch94 x.corners y.corners hpl) rfl 1 rfl ?_
   conv=>whnf
   refine brk_i (fun h1 => ?_) (fun h1 => ?_)
   ·have h1 : x ≠ y := by rintro rfl; simp at h1
    conv=>whnf
    rw [decide_eq_false (hne h1)]
    exact RetA_view 0 rfl ⟨⟨rfl, rfl⟩, rfl⟩
   have n3 : x.corners = y.corners := by simpa using h1
   have hxe : x = y := by
    cases x; cases y
    simp only at n1 n2 n3
    rw [n1, n2, n3]
   conv=>whnf
   refine arith_in (wrap_i64 (by (try dsimp only); omega)) ?_
   conv=>whnf
   exact ⟨i + 1, by omega, ⟨hc, hnx hxe⟩, (Wk.sub ⟨(by first | rfl | (simp only [List.length_map]; rfl) | simp [PX.get]), (by first | rfl | (simp only [List.length_map]; rfl) | simp [PX.get]), (by first | rfl | (simp only [List.length_map]; rfl) | simp [PX.get]), trivial⟩ ⟨(by first | rfl | (simp only [List.length_map]; rfl) | simp [PX.get]), (by first | rfl | (simp only [List.length_map]; rfl) | simp [PX.get]), trivial⟩)⟩
  ·have hc : ¬ i < a.sands.length := by simpa using hc
   rw [List.take_of_length_le (by omega), List.take_of_length_le (by omega)] at hes
   have hab : a = b := by
    cases a; cases b
    simp only at he hes
    rw [he, hes]
   conv=>whnf
   rw [decide_eq_true hab]
   exact RetA_view 0 rfl ⟨⟨rfl, rfl⟩, rfl⟩
end Go.PX
namespace Go.PX
open Go.Proofs
theorem e1 : vecV 31 = ⟨-195, 981⟩ ∧ vecE 31 = 0 := by decide +kernel
theorem e2 : onA exC ⟨150, 50⟩ = [0] ∧ onB exC ⟨150, 50⟩ = [0] ∧ openX exC ⟨150, 50⟩ = 0 := by decide +kernel
theorem e3 : onA exC ⟨205, 50⟩ = [] ∧ onB exC ⟨205, 50⟩ = [0] ∧ openX exC ⟨205, 50⟩ = 0 := by decide +kernel
theorem e4 : clearV exC ⟨0, 0⟩ 101 = (0, ⟨0, -5⟩) ∧ clearE exC ⟨0, 0⟩ 101 = 0 := by decide +kernel
theorem e5 : clearE exC ⟨0, 0⟩ 100 = 4 := by decide +kernel
theorem e6 : radV exC ⟨0, 0⟩ = 100 ∧ openX exC ⟨0, 0⟩ = 0 := by decide +kernel
theorem e7 : marC exC 50 0 = 2 ∧ marE exC 50 0 = 0 := by decide +kernel
theorem e8 : seenV exC 20 0 ⟨0, 0⟩ = 3 ∧ seenE exC 20 0 ⟨0, 0⟩ = 0 := by decide +kernel
theorem e9 : ptsL exC 20 1 ⟨⟨-2010, -1990⟩, ⟨0, 0⟩⟩ = [8, 24] ∧ ptsE exC 20 1 ⟨⟨-2010, -1990⟩, ⟨0, 0⟩⟩ = 0 := by decide +kernel
theorem e10 : writeX exC = exT ∧ (checkX exC).2.2 = 0 := by decide +kernel
theorem e11 : readX exT = (exC, 0) := by decide +kernel
theorem e12 : seenE exC 90 1 ⟨0, 0⟩ = 9 := by decide +kernel
theorem e13 : vecV 3 = ⟨556, 831⟩ ∧ vecE 3 = 0 := by decide +kernel
theorem e14 : vecV 13 = ⟨556, -831⟩ ∧ vecE 13 = 0 := by decide +kernel
theorem e15 : onA exC ⟨215, 50⟩ = [] ∧ onB exC ⟨215, 50⟩ = [] ∧ openX exC ⟨215, 50⟩ = 0 := by decide +kernel
theorem e16 : clearV exC ⟨0, 0⟩ 300 = (0, ⟨0, -5⟩) ∧ clearE exC ⟨0, 0⟩ 300 = 0 := by decide +kernel
theorem e17 : radV exC ⟨-200, -260⟩ = 0 ∧ openX exC ⟨-200, -260⟩ = 0 := by decide +kernel
theorem e18 : marC exC 49 0 = 1 ∧ marE exC 49 0 = 0 := by decide +kernel
theorem e19 : marC exC 9 1 = 0 ∧ marE exC 9 1 = 0 := by decide +kernel
theorem e20 : marC exC 90 1 = 0 ∧ marE exC 90 1 = 0 := by decide +kernel
theorem e21 : seenV exC 10 1 ⟨0, 0⟩ = 24 ∧ seenE exC 10 1 ⟨0, 0⟩ = 0 := by decide +kernel
end Go.PX
namespace Go.PX
open Go.Proofs
theorem a1 : FnV Tryz.prog 16 [i64 31] (.tup [Pt.d ⟨-195, 981⟩, i64 0]) := FnV.cast (ch16 31) (by rw [e1.1, e1.2])
theorem a2 : FnV Tryz.prog 23 [exC.d, Pt.d ⟨150, 50⟩] (.tup [intsD [0], intsD [0], i64 0]) := FnV.cast (ch23 exC ⟨150, 50⟩) (by rw [e2.1, e2.2.1, e2.2.2])
theorem a3 : FnV Tryz.prog 23 [exC.d, Pt.d ⟨205, 50⟩] (.tup [intsD [], intsD [0], i64 0]) := FnV.cast (ch23 exC ⟨205, 50⟩) (by rw [e3.1, e3.2.1, e3.2.2])
theorem a4 : FnV Tryz.prog 26 [exC.d, Pt.d ⟨0, 0⟩, i64 101] (.tup [i64 0, Pt.d ⟨0, -5⟩, i64 0]) := FnV.cast (ch26 exC ⟨0, 0⟩ 101) (by rw [e4.1, e4.2])
theorem a5 : FnV Tryz.prog 26 [exC.d, Pt.d ⟨0, 0⟩, i64 100] (.tup [i64 (clearV exC ⟨0, 0⟩ 100).1, (clearV exC ⟨0, 0⟩ 100).2.d, i64 4]) := FnV.cast (ch26 exC ⟨0, 0⟩ 100) (by rw [e5])
theorem a6 : FnV Tryz.prog 28 [exC.d, Pt.d ⟨0, 0⟩] (.tup [i64 100, i64 0]) := FnV.cast (ch28 exC ⟨0, 0⟩) (by rw [e6.1, e6.2])
theorem a7 : FnV Tryz.prog 30 [exC.d, i64 50, i64 0] (.tup [i64 2, i64 0]) := FnV.cast (ch30 exC 50 0) (by rw [e7.1, e7.2])
theorem a8 : FnV Tryz.prog 32 [exC.d, i64 20, i64 0, Pt.d ⟨0, 0⟩] (.tup [i64 3, i64 0]) := FnV.cast (ch32 exC 20 0 ⟨0, 0⟩) (by rw [e8.1, e8.2])
theorem a9 : FnV Tryz.prog 34 [exC.d, i64 20, i64 1, Box.d ⟨⟨-2010, -1990⟩, ⟨0, 0⟩⟩] (.tup [intsD [8, 24], i64 0]) := FnV.cast (ch34 exC 20 1 ⟨⟨-2010, -1990⟩, ⟨0, 0⟩⟩) (by rw [e9.1, e9.2])
theorem a10 : FnV Tryz.prog 36 [exC.d] (.tup [.str exT, i64 0]) := FnV.cast (ch36 exC) (by rw [e10.1, e10.2])
theorem a11 : FnV Tryz.prog 38 [.str exT] (.tup [exC.d, i64 0]) := FnV.cast (ch38 exT) (by rw [e11])
theorem a12 : FnV Tryz.prog 32 [exC.d, i64 90, i64 1, Pt.d ⟨0, 0⟩] (.tup [i64 (seenV exC 90 1 ⟨0, 0⟩), i64 9]) := FnV.cast (ch32 exC 90 1 ⟨0, 0⟩) (by rw [e12])
theorem few_ex : FewC exC := ⟨by decide, by decide, by decide, by decide⟩
theorem a13 : FnV Tryz.prog 40 [exC.d, exC.d] (.bool true) := FnV.cast (ch40 exC exC few_ex) (by simp)
theorem a14 : FnV Tryz.prog 18 [.str ⟨#[97, 45, 98]⟩] (.bool true) := FnV.cast (fn47 ⟨#[97, 45, 98]⟩) (congrArg D.bool (by decide +kernel))
theorem a15 : FnV Tryz.prog 18 [.str ⟨#[97, 45, 45, 98]⟩] (.bool false) := FnV.cast (fn47 ⟨#[97, 45, 45, 98]⟩) (congrArg D.bool (by decide +kernel))
theorem a16 (l : List Int) (hl : l.length < 1000000) : FnV Tryz.prog 25 [intsD l, intsD l] (.bool true) := FnV.cast (fn19 l l hl) (by simp)
set_option maxHeartbeats 8000000 in
theorem ch22 : FnV Tryz.prog 22 [] (.bool true) := by
 refine fnV_of mixed tysOk Tryz.func22 rfl (ft := ft22) 0 (by decide +kernel) (by rfl) fun {σ} Y st => ?_
 conv=>whnf
 repeat' (first
  | (refine CallA_v (a1) rfl rfl ?_; conv=>whnf)
  | (refine CallA_view (a1) rfl 1 rfl ?_; conv=>whnf)
  | (refine DrawCall_v (a1) rfl rfl ?_; conv=>whnf)
  | (refine DrawCall_view (a1) rfl 1 rfl ?_; conv=>whnf)
  | (refine CallA_v (ch41) rfl rfl ?_; conv=>whnf)
  | (refine CallA_view (ch41) rfl 1 rfl ?_; conv=>whnf)
  | (refine DrawCall_v (ch41) rfl rfl ?_; conv=>whnf)
  | (refine DrawCall_view (ch41) rfl 1 rfl ?_; conv=>whnf)
  | (refine CallA_v (ch42 _ _) rfl rfl ?_; conv=>whnf)
  | (refine CallA_view (ch42 _ _) rfl 1 rfl ?_; conv=>whnf)
  | (refine DrawCall_v (ch42 _ _) rfl rfl ?_; conv=>whnf)
  | (refine DrawCall_view (ch42 _ _) rfl 1 rfl ?_; conv=>whnf)
  | (refine CallA_v (ch52 _ _ _ _) rfl rfl ?_; conv=>whnf)
  | (refine CallA_view (ch52 _ _ _ _) rfl 1 rfl ?_; conv=>whnf)
  | (refine DrawCall_v (ch52 _ _ _ _) rfl rfl ?_; conv=>whnf)
  | (refine DrawCall_view (ch52 _ _ _ _) rfl 1 rfl ?_; conv=>whnf)
  | (refine CallA_v (a2) rfl rfl ?_; conv=>whnf)
  | (refine CallA_view (a2) rfl 1 rfl ?_; conv=>whnf)
  | (refine DrawCall_v (a2) rfl rfl ?_; conv=>whnf)
  | (refine DrawCall_view (a2) rfl 1 rfl ?_; conv=>whnf)
  | (refine CallA_v (a3) rfl rfl ?_; conv=>whnf)
  | (refine CallA_view (a3) rfl 1 rfl ?_; conv=>whnf)
  | (refine DrawCall_v (a3) rfl rfl ?_; conv=>whnf)
  | (refine DrawCall_view (a3) rfl 1 rfl ?_; conv=>whnf)
  | (refine CallA_v (a4) rfl rfl ?_; conv=>whnf)
  | (refine CallA_view (a4) rfl 1 rfl ?_; conv=>whnf)
  | (refine DrawCall_v (a4) rfl rfl ?_; conv=>whnf)
  | (refine DrawCall_view (a4) rfl 1 rfl ?_; conv=>whnf)
  | (refine CallA_v (a5) rfl rfl ?_; conv=>whnf)
  | (refine CallA_view (a5) rfl 1 rfl ?_; conv=>whnf)
  | (refine DrawCall_v (a5) rfl rfl ?_; conv=>whnf)
  | (refine DrawCall_view (a5) rfl 1 rfl ?_; conv=>whnf)
  | (refine CallA_v (a6) rfl rfl ?_; conv=>whnf)
  | (refine CallA_view (a6) rfl 1 rfl ?_; conv=>whnf)
  | (refine DrawCall_v (a6) rfl rfl ?_; conv=>whnf)
  | (refine DrawCall_view (a6) rfl 1 rfl ?_; conv=>whnf)
  | (refine CallA_v (a7) rfl rfl ?_; conv=>whnf)
  | (refine CallA_view (a7) rfl 1 rfl ?_; conv=>whnf)
  | (refine DrawCall_v (a7) rfl rfl ?_; conv=>whnf)
  | (refine DrawCall_view (a7) rfl 1 rfl ?_; conv=>whnf)
  | (refine CallA_v (a8) rfl rfl ?_; conv=>whnf)
  | (refine CallA_view (a8) rfl 1 rfl ?_; conv=>whnf)
  | (refine DrawCall_v (a8) rfl rfl ?_; conv=>whnf)
  | (refine DrawCall_view (a8) rfl 1 rfl ?_; conv=>whnf)
  | (refine CallA_v (a9) rfl rfl ?_; conv=>whnf)
  | (refine CallA_view (a9) rfl 1 rfl ?_; conv=>whnf)
  | (refine DrawCall_v (a9) rfl rfl ?_; conv=>whnf)
  | (refine DrawCall_view (a9) rfl 1 rfl ?_; conv=>whnf)
  | (refine CallA_v (a10) rfl rfl ?_; conv=>whnf)
  | (refine CallA_view (a10) rfl 1 rfl ?_; conv=>whnf)
  | (refine DrawCall_v (a10) rfl rfl ?_; conv=>whnf)
  | (refine DrawCall_view (a10) rfl 1 rfl ?_; conv=>whnf)
  | (refine CallA_v (ch69) rfl rfl ?_; conv=>whnf)
  | (refine CallA_view (ch69) rfl 1 rfl ?_; conv=>whnf)
  | (refine DrawCall_v (ch69) rfl rfl ?_; conv=>whnf)
  | (refine DrawCall_view (ch69) rfl 1 rfl ?_; conv=>whnf)
  | (refine CallA_v (a11) rfl rfl ?_; conv=>whnf)
  | (refine CallA_view (a11) rfl 1 rfl ?_; conv=>whnf)
  | (refine DrawCall_v (a11) rfl rfl ?_; conv=>whnf)
  | (refine DrawCall_view (a11) rfl 1 rfl ?_; conv=>whnf)
  | (refine CallA_v (a12) rfl rfl ?_; conv=>whnf)
  | (refine CallA_view (a12) rfl 1 rfl ?_; conv=>whnf)
  | (refine DrawCall_v (a12) rfl rfl ?_; conv=>whnf)
  | (refine DrawCall_view (a12) rfl 1 rfl ?_; conv=>whnf)
  | (refine CallA_v (a14) rfl rfl ?_; conv=>whnf)
  | (refine CallA_view (a14) rfl 1 rfl ?_; conv=>whnf)
  | (refine DrawCall_v (a14) rfl rfl ?_; conv=>whnf)
  | (refine DrawCall_view (a14) rfl 1 rfl ?_; conv=>whnf)
  | (refine CallA_v (a15) rfl rfl ?_; conv=>whnf)
  | (refine CallA_view (a15) rfl 1 rfl ?_; conv=>whnf)
  | (refine DrawCall_v (a15) rfl rfl ?_; conv=>whnf)
  | (refine DrawCall_view (a15) rfl 1 rfl ?_; conv=>whnf)
  | (refine CallA_v (a16 [0] (by decide)) rfl rfl ?_; conv=>whnf)
  | (refine CallA_view (a16 [0] (by decide)) rfl 1 rfl ?_; conv=>whnf)
  | (refine DrawCall_v (a16 [0] (by decide)) rfl rfl ?_; conv=>whnf)
  | (refine DrawCall_view (a16 [0] (by decide)) rfl 1 rfl ?_; conv=>whnf)
  | (refine CallA_v (a16 [8, 24] (by decide)) rfl rfl ?_; conv=>whnf)
  | (refine CallA_view (a16 [8, 24] (by decide)) rfl 1 rfl ?_; conv=>whnf)
  | (refine DrawCall_v (a16 [8, 24] (by decide)) rfl rfl ?_; conv=>whnf)
  | (refine DrawCall_view (a16 [8, 24] (by decide)) rfl 1 rfl ?_; conv=>whnf)
  | (refine CallA_v (a13) rfl rfl ?_; conv=>whnf)
  | (refine CallA_view (a13) rfl 1 rfl ?_; conv=>whnf)
  | (refine DrawCall_v (a13) rfl rfl ?_; conv=>whnf)
  | (refine DrawCall_view (a13) rfl 1 rfl ?_; conv=>whnf)
  | (refine arith_in (wrap_i64 (by (try dsimp only); omega)) ?_; conv=>whnf)
  | (refine elemK_nat (by assumption) ?_; conv=>whnf)
  | (refine ownK_whole (by first | rfl | assumption | (simp [Els.len]; done) | (simp [Els.len]; omega)) ?_; conv=>whnf)
  | (refine chk_i (by first | (exact decide_eq_true (by (try simp only [List.length_map]); omega)) | (simp [Els.len, Els.cons, V.cells, Els.toV, injL]; done) | (simp [Els.len, Els.cons, V.cells, Els.toV, injL]; omega)) ?_; conv=>whnf)
  | fail)
 exact RetA_view 0 rfl ⟨⟨rfl, rfl⟩, rfl⟩
end Go.PX
namespace Go.PX
open Go.Proofs
theorem b1 : FnV Tryz.prog 16 [i64 3] (.tup [Pt.d ⟨556, 831⟩, i64 0]) := FnV.cast (ch16 3) (by rw [e13.1, e13.2])
theorem b2 : FnV Tryz.prog 16 [i64 13] (.tup [Pt.d ⟨556, -831⟩, i64 0]) := FnV.cast (ch16 13) (by rw [e14.1, e14.2])
theorem b3 : FnV Tryz.prog 23 [exC.d, Pt.d ⟨215, 50⟩] (.tup [intsD [], intsD [], i64 0]) := FnV.cast (ch23 exC ⟨215, 50⟩) (by rw [e15.1, e15.2.1, e15.2.2])
theorem b4 : FnV Tryz.prog 26 [exC.d, Pt.d ⟨0, 0⟩, i64 300] (.tup [i64 0, Pt.d ⟨0, -5⟩, i64 0]) := FnV.cast (ch26 exC ⟨0, 0⟩ 300) (by rw [e16.1, e16.2])
theorem b5 : FnV Tryz.prog 28 [exC.d, Pt.d ⟨-200, -260⟩] (.tup [i64 0, i64 0]) := FnV.cast (ch28 exC ⟨-200, -260⟩) (by rw [e17.1, e17.2])
theorem b6 : FnV Tryz.prog 30 [exC.d, i64 49, i64 0] (.tup [i64 1, i64 0]) := FnV.cast (ch30 exC 49 0) (by rw [e18.1, e18.2])
theorem b7 : FnV Tryz.prog 30 [exC.d, i64 9, i64 1] (.tup [i64 0, i64 0]) := FnV.cast (ch30 exC 9 1) (by rw [e19.1, e19.2])
theorem b8 : FnV Tryz.prog 30 [exC.d, i64 90, i64 1] (.tup [i64 0, i64 0]) := FnV.cast (ch30 exC 90 1) (by rw [e20.1, e20.2])
theorem b9 : FnV Tryz.prog 32 [exC.d, i64 10, i64 1, Pt.d ⟨0, 0⟩] (.tup [i64 24, i64 0]) := FnV.cast (ch32 exC 10 1 ⟨0, 0⟩) (by rw [e21.1, e21.2])
set_option maxHeartbeats 8000000 in
theorem ch7 : FnV Tryz.prog 7 [] (.bool true) := by
 refine fnV_of mixed tysOk Tryz.func7 rfl (ft := ft7) 0 (by decide +kernel) (by rfl) fun {σ} Y st => ?_
 conv=>whnf
 repeat' (first
  | (refine CallA_v (b1) rfl rfl ?_; conv=>whnf)
  | (refine CallA_view (b1) rfl 1 rfl ?_; conv=>whnf)
  | (refine DrawCall_v (b1) rfl rfl ?_; conv=>whnf)
  | (refine DrawCall_view (b1) rfl 1 rfl ?_; conv=>whnf)
  | (refine CallA_v (b2) rfl rfl ?_; conv=>whnf)
  | (refine CallA_view (b2) rfl 1 rfl ?_; conv=>whnf)
  | (refine DrawCall_v (b2) rfl rfl ?_; conv=>whnf)
  | (refine DrawCall_view (b2) rfl 1 rfl ?_; conv=>whnf)
  | (refine CallA_v (ch41) rfl rfl ?_; conv=>whnf)
  | (refine CallA_view (ch41) rfl 1 rfl ?_; conv=>whnf)
  | (refine DrawCall_v (ch41) rfl rfl ?_; conv=>whnf)
  | (refine DrawCall_view (ch41) rfl 1 rfl ?_; conv=>whnf)
  | (refine CallA_v (ch42 _ _) rfl rfl ?_; conv=>whnf)
  | (refine CallA_view (ch42 _ _) rfl 1 rfl ?_; conv=>whnf)
  | (refine DrawCall_v (ch42 _ _) rfl rfl ?_; conv=>whnf)
  | (refine DrawCall_view (ch42 _ _) rfl 1 rfl ?_; conv=>whnf)
  | (refine CallA_v (b3) rfl rfl ?_; conv=>whnf)
  | (refine CallA_view (b3) rfl 1 rfl ?_; conv=>whnf)
  | (refine DrawCall_v (b3) rfl rfl ?_; conv=>whnf)
  | (refine DrawCall_view (b3) rfl 1 rfl ?_; conv=>whnf)
  | (refine CallA_v (b4) rfl rfl ?_; conv=>whnf)
  | (refine CallA_view (b4) rfl 1 rfl ?_; conv=>whnf)
  | (refine DrawCall_v (b4) rfl rfl ?_; conv=>whnf)
  | (refine DrawCall_view (b4) rfl 1 rfl ?_; conv=>whnf)
  | (refine CallA_v (b5) rfl rfl ?_; conv=>whnf)
  | (refine CallA_view (b5) rfl 1 rfl ?_; conv=>whnf)
  | (refine DrawCall_v (b5) rfl rfl ?_; conv=>whnf)
  | (refine DrawCall_view (b5) rfl 1 rfl ?_; conv=>whnf)
  | (refine CallA_v (b6) rfl rfl ?_; conv=>whnf)
  | (refine CallA_view (b6) rfl 1 rfl ?_; conv=>whnf)
  | (refine DrawCall_v (b6) rfl rfl ?_; conv=>whnf)
  | (refine DrawCall_view (b6) rfl 1 rfl ?_; conv=>whnf)
  | (refine CallA_v (b7) rfl rfl ?_; conv=>whnf)
  | (refine CallA_view (b7) rfl 1 rfl ?_; conv=>whnf)
  | (refine DrawCall_v (b7) rfl rfl ?_; conv=>whnf)
  | (refine DrawCall_view (b7) rfl 1 rfl ?_; conv=>whnf)
  | (refine CallA_v (b8) rfl rfl ?_; conv=>whnf)
  | (refine CallA_view (b8) rfl 1 rfl ?_; conv=>whnf)
  | (refine DrawCall_v (b8) rfl rfl ?_; conv=>whnf)
  | (refine DrawCall_view (b8) rfl 1 rfl ?_; conv=>whnf)
  | (refine CallA_v (b9) rfl rfl ?_; conv=>whnf)
  | (refine CallA_view (b9) rfl 1 rfl ?_; conv=>whnf)
  | (refine DrawCall_v (b9) rfl rfl ?_; conv=>whnf)
  | (refine DrawCall_view (b9) rfl 1 rfl ?_; conv=>whnf)
  | (refine CallA_v (ch22) rfl rfl ?_; conv=>whnf)
  | (refine CallA_view (ch22) rfl 1 rfl ?_; conv=>whnf)
  | (refine DrawCall_v (ch22) rfl rfl ?_; conv=>whnf)
  | (refine DrawCall_view (ch22) rfl 1 rfl ?_; conv=>whnf)
  | (refine arith_to 0 (by rfl) (wrap_i64 (by omega)) ?_; conv=>whnf)
  | (refine arith_in (wrap_i64 (by (try dsimp only); omega)) ?_; conv=>whnf)
  | (refine elemK_nat (by assumption) ?_; conv=>whnf)
  | (refine ownK_whole (by first | rfl | assumption | (simp [Els.len]; done) | (simp [Els.len]; omega)) ?_; conv=>whnf)
  | (refine chk_i (by first | (exact decide_eq_true (by (try simp only [List.length_map]); omega)) | (simp [Els.len, Els.cons, V.cells, Els.toV, injL]; done) | (simp [Els.len, Els.cons, V.cells, Els.toV, injL]; omega)) ?_; conv=>whnf)
  | fail)
 exact RetA_view 0 rfl ⟨⟨rfl, rfl⟩, rfl⟩
end Go.PX
