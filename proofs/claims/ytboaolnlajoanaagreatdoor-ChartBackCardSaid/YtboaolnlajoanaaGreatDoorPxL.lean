import Derived.Test.YtboaolnlajoanaaGreatDoorPxK
import Derived.Test.YtboaolnlajoanaaGreatDoorPxJ
import Derived.Shelf.Strings.Builder1
import Derived.Shelf.Strconv.Itoa3
import Derived.Shelf.Strconv.AtoiAll
import Derived.Shelf.Strings.Split
import Derived.Shelf.Strings.Cut
import Derived.Lib.ItoaNum
set_option linter.all false
set_option maxRecDepth 10000
namespace Go.PX
open Go.Proofs
theorem RetA_viewR {σ : Type} {l : List V} {h : Heap} {s : σ} {Q : V → Heap → σ → Prop} (n : Nat) {ds : List D} (hv : viewL (objD h n) l = some ds) {d : D} (hd : relax (packD ds) = d) (hq : Q (.d d) [] s) : RetA l h s Q := by
 subst hd
 refine ⟨fun cx L F vals w hh hr => ?_⟩
 have tr := frzAll_tr hh
 exact ⟨_, [], L, frzAll L F h w, hq, frzAll_ok hh, RepD.relax _ _ (packD_t (viewL_t tr (objD_t hh n) l vals ds hv hr)), tr, fun _ _ => ⟨rfl, rfl⟩⟩
def upX : Nat → Int → List Int
 | 0, _ => []
 | k + 1, v => v :: upX k (v + 1)
theorem upX_len : ∀ (k : Nat) (v : Int), (upX k v).length = k
 | 0, _ => rfl
 | k + 1, v => by rw [upX, List.length_cons, upX_len]
theorem upX_get : ∀ {k : Nat} {v : Int} {i : Nat} {x : Int}, (upX k v)[i]? = some x → x = v + i ∧ i < k
 | 0, _, _, _, h => by simp [upX] at h
 | k + 1, v, 0, x, h => by simp [upX] at h; omega
 | k + 1, v, i + 1, x, h => by
  rw [upX, List.getElem?_cons_succ] at h
  have := upX_get h
  omega
theorem sandsL_ok : ∀ {l : List Sand} {ns : Nms} {i : Int}, (sandsL ns i l).2.2 = 0 → ∀ s ∈ l, sandE s = 0
 | [], _, _, _, s, hs => by cases hs
 | a :: r, ns, i, h, s, hs => by
  rw [sandsL] at h
  split at h
  ·rename_i h1
   rcases List.mem_cons.1 hs with rfl | hs
   ·unfold sandE' at h1
    split at h1
    ·exact h1
    ·rename_i h2; exact absurd h1 h2
   ·exact sandsL_ok h s hs
  ·rename_i h1; exact absurd h h1
theorem marksL_bad : ∀ {l : List Mark} {ns : Nms} {i j e : Int}, marksL ns i l = .inl (j, e) → e ≠ 0
 | [], _, _, _, _, h => by cases h
 | m :: r, ns, i, j, e, h => by
  rw [marksL] at h
  split at h
  ·exact marksL_bad h
  ·rename_i h1; cases h; exact h1
theorem marksL_ok : ∀ {l : List Mark} {ns ns' : Nms} {i : Int}, marksL ns i l = .inr ns' → ∀ m ∈ l, Pin 30000 m.at' ∧ paintE m.paints = 0
 | [], _, _, _, _, m, hm => by cases hm
 | a :: r, ns, ns', i, h, m, hm => by
  rw [marksL] at h
  split at h
  ·rename_i h1
   rcases List.mem_cons.1 hm with rfl | hm
   ·unfold markE at h1
    split at h1
    ·split at h1
     ·cases h1
     ·rename_i h2
      unfold farM at h2
      exact ⟨within_iff.1 (by simpa using h2), h1⟩
    ·rename_i h2; exact absurd h1 h2
   ·exact marksL_ok h m hm
  ·cases h
structure ChtR (c : Cht) : Prop where
 marks : c.marks.length ≤ 8
 sands : c.sands.length ≤ 4
 mark : ∀ m ∈ c.marks, Pin 30000 m.at' ∧ paintE m.paints = 0
 sand : ∀ s ∈ c.sands, SandR s
theorem checkX_ok {c : Cht} (h : (checkX c).2.2 = 0) : ChtR c := by
 unfold checkX at h
 split at h
 ·cases h
 rename_i h1
 split at h
 ·rename_i i e he
  exact absurd h (marksL_bad he)
 ·rename_i ns hns
  split at h
  ·cases h
  rename_i h2
  exact ⟨by omega, by omega, marksL_ok hns, fun s hs => sandE_ok (sandsL_ok h s hs)⟩
theorem span_dec (a b : Span) : decide (a = b) = (decide (a.lo = b.lo) && (decide (a.hi = b.hi) && true)) := by
 cases a; cases b
 simp only [Span.mk.injEq, Bool.and_true, Bool.decide_and]
def xsX (s : Sand) : List Int := upX (s.moves.x.hi - s.moves.x.lo + 1).toNat s.moves.x.lo
def allRow (s : Sand) (p : Pt) : Bool := (xsX s).all fun x => decide (rowsX s x p = s.moves.y)
def anyRow (s : Sand) (p : Pt) : Bool := (xsX s).any fun x => decide ((rowsX s x p).lo ≤ (rowsX s x p).hi)
def sureF (p : Pt) : Int → List Sand → List Int
 | _, [] => []
 | i, s :: r => if allRow s p then i :: sureF p (i + 1) r else sureF p (i + 1) r
def someF (p : Pt) : Int → List Sand → List Int
 | _, [] => []
 | i, s :: r => if anyRow s p then i :: someF p (i + 1) r else someF p (i + 1) r
def onA (c : Cht) (p : Pt) : List Int := if openX c p = 0 then sureF p 0 c.sands else []
def onB (c : Cht) (p : Pt) : List Int := if openX c p = 0 then someF p 0 c.sands else []
theorem openX_ok {c : Cht} {p : Pt} (h : openX c p = 0) : ChtR c ∧ Pin 10000 p := by
 unfold openX at h
 split at h
 ·rename_i h1
  split at h
  ·rename_i h2; exact ⟨checkX_ok h1, within_iff.1 h2⟩
  ·cases h
 ·rename_i h1; exact absurd h h1
set_option maxHeartbeats 4000000 in
theorem ch23 (c : Cht) (p : Pt) : FnV Tryz.prog 23 [c.d, p.d] (.tup [intsD (onA c p), intsD (onB c p), i64 (openX c p)]) := by
 refine fnV_of mixed tysOk Tryz.func23 rfl (ft := ft23) 2 (by decide +kernel) (by rfl) fun {σ} Y st => ?_
 conv=>whnf
 refine CallA_v (ch70 c p) rfl rfl ?_
 conv=>whnf
 by_cases h0 : openX c p = 0
 case neg =>
  have ha : onA c p = [] := by unfold onA; rw [if_neg h0]
  have hb : onB c p = [] := by unfold onB; rw [if_neg h0]
  rw [ha, hb]
  refine brk_i (fun _ => ?_) (fun h1 => absurd h1 (by simp [h0]))
  conv=>whnf
  exact RetA_viewR 0 rfl rfl ⟨⟨rfl, rfl⟩, rfl⟩
 obtain ⟨hR, hp⟩ := openX_ok h0
 have hsl := hR.sands
 have ha : onA c p = sureF p 0 c.sands := by unfold onA; rw [if_pos h0]
 have hb : onB c p = someF p 0 c.sands := by unfold onB; rw [if_pos h0]
 rw [ha, hb]
 refine brk_i (fun h1 => absurd h1 (by simp [h0])) (fun _ => ?_)
 conv=>whnf
 refine LoopA_i (T := tys) tysOk (by exact drawsB_spec mixed tysOk (by decide +kernel)) c.sands (fun i (g : List Int × List Int) => ⟨[(2, .ptr 2 0), (3, .ptr 3 0), (4, .sl 84 1 0 g.1.length), (5, .sl 89 1 0 g.2.length), (21, .d (sandsD c.sands)), (22, .d (i64 (c.sands.map Sand.cells).length)), (23, .d (i64 i))], [(2, .box (.dd c.cells)), (3, .box (.dd p.cells)), (84, .arr 1 (.dd (g.1.map fun n => [i64 n]))), (89, .arr 1 (.dd (g.2.map fun n => [i64 n])))], st⟩)
  (fun i r g => sureF p 0 c.sands = g.1 ++ sureF p i r ∧ someF p 0 c.sands = g.2 ++ someF p i r ∧ g.1.length ≤ i ∧ g.2.length ≤ i) ([], []) ((Wk.born 4 84 1 rfl rfl rfl).trans ((Wk.born 5 89 1 rfl rfl rfl).trans (Wk.sub ⟨(by first | rfl | (simp only [List.length_map]; rfl) | simp [PX.get]), (by first | rfl | (simp only [List.length_map]; rfl) | simp [PX.get]), (by first | rfl | (simp only [List.length_map]; rfl) | simp [PX.get]), (by first | rfl | (simp only [List.length_map]; rfl) | simp [PX.get]), (by first | rfl | (simp only [List.length_map]; rfl) | simp [PX.get]), (by first | rfl | (simp only [List.length_map]; rfl) | simp [PX.get]), (by first | rfl | (simp only [List.length_map]; rfl) | simp [PX.get]), trivial⟩ ⟨(by first | rfl | (simp only [List.length_map]; rfl) | simp [PX.get]), (by first | rfl | (simp only [List.length_map]; rfl) | simp [PX.get]), (by first | rfl | (simp only [List.length_map]; rfl) | simp [PX.get]), (by first | rfl | (simp only [List.length_map]; rfl) | simp [PX.get]), trivial⟩))) ⟨rfl, rfl, by simp, by simp⟩ ?_ ?_
 ·rintro i s r ⟨A, B⟩ hsi hi hr ⟨hA, hB, hlA, hlB⟩
  simp only at hA hB hlA hlB
  rw [sureF] at hA
  rw [someF] at hB
  have hS := hR.sand s (List.mem_of_getElem? hsi)
  have hx := hS.x
  have hy := hS.y
  conv=>whnf
  refine brk_i (fun _ => ?_) (fun h => absurd hi (by simpa using h))
  conv=>whnf
  refine elemK_nat hsi ?_
  conv=>whnf
  refine arith_in (wrap_i64 (by (try dsimp only); omega)) ?_
  conv=>whnf
  refine arith_in (wrap_i64 (by (try dsimp only); omega)) ?_
  conv=>whnf
  have hlen : (xsX s).length = (s.moves.x.hi - s.moves.x.lo + 1).toNat := upX_len _ _
  refine LoopA_i (T := tys) tysOk (by exact drawsB_spec mixed tysOk (by decide +kernel)) (xsX s) (fun j (g : Bool × Bool) => ⟨[(2, .ptr 2 0), (3, .ptr 3 0), (4, .sl 84 1 0 A.length), (5, .sl 89 1 0 B.length), (21, .d (sandsD c.sands)), (22, .d (i64 (c.sands.map Sand.cells).length)), (23, .d (i64 i)), (7, .d (i64 i)), (9, .ptr 9 0), (10, .d (.bool g.1)), (11, .d (.bool g.2)), (41, .d (i64 (s.moves.x.hi - s.moves.x.lo + 1))), (42, .d (i64 j))], [(2, .box (.dd c.cells)), (3, .box (.dd p.cells)), (84, .arr 1 (.dd (A.map fun n => [i64 n]))), (89, .arr 1 (.dd (B.map fun n => [i64 n]))), (9, .box (.dd s.cells))], st⟩)
   (fun j rest g => allRow s p = (g.1 && rest.all fun x => decide (rowsX s x p = s.moves.y)) ∧ anyRow s p = (g.2 || rest.any fun x => decide ((rowsX s x p).lo ≤ (rowsX s x p).hi))) (true, false) (Wk.sub ⟨(by first | rfl | (simp only [List.length_map]; rfl) | simp [PX.get]), (by first | rfl | (simp only [List.length_map]; rfl) | simp [PX.get]), (by first | rfl | (simp only [List.length_map]; rfl) | simp [PX.get]), (by first | rfl | (simp only [List.length_map]; rfl) | simp [PX.get]), (by first | rfl | (simp only [List.length_map]; rfl) | simp [PX.get]), (by first | rfl | (simp only [List.length_map]; rfl) | simp [PX.get]), (by first | rfl | (simp only [List.length_map]; rfl) | simp [PX.get]), (by first | rfl | (simp only [List.length_map]; rfl) | simp [PX.get]), (by first | rfl | (simp only [List.length_map]; rfl) | simp [PX.get]), (by first | rfl | (simp only [List.length_map]; rfl) | simp [PX.get]), (by first | rfl | (simp only [List.length_map]; rfl) | simp [PX.get]), (by first | rfl | (simp only [List.length_map]; rfl) | simp [PX.get]), (by first | rfl | (simp only [List.length_map]; rfl) | simp [PX.get]), trivial⟩ ⟨(by first | rfl | (simp only [List.length_map]; rfl) | simp [PX.get]), (by first | rfl | (simp only [List.length_map]; rfl) | simp [PX.get]), (by first | rfl | (simp only [List.length_map]; rfl) | simp [PX.get]), (by first | rfl | (simp only [List.length_map]; rfl) | simp [PX.get]), (by first | rfl | (simp only [List.length_map]; rfl) | simp [PX.get]), trivial⟩) ⟨rfl, rfl⟩ ?_ ?_
  ·rintro j x rest ⟨ga, gb⟩ hxj hj hrj ⟨ka, kb⟩
   simp only at ka kb
   rw [List.all_cons] at ka
   rw [List.any_cons] at kb
   obtain ⟨hx1, hx2⟩ := upX_get hxj
   conv=>whnf
   refine brk_i (fun _ => ?_) (fun h => absurd h (by simp; omega))
   conv=>whnf
   refine arith_to (x) (by (try dsimp only); omega) (wrap_i64 (by (try dsimp only); omega)) ?_
   conv=>whnf
   refine CallA_view (ds := [.agg s.cells, i64 x, p.d]) (ch71 s hS x (by omega) p hp) rfl 1 rfl ?_
   conv=>whnf
   rw [span_dec] at ka
   cases gb with
   | true =>
    rw [Bool.true_or] at kb
    conv=>whnf
    cases ga with
    | true =>
     rw [Bool.true_and] at ka
     conv=>whnf
     refine arith_in (wrap_i64 (by (try dsimp only); omega)) ?_
     conv=>whnf
     exact ⟨(decide ((rowsX s x p).lo = s.moves.y.lo) && (decide ((rowsX s x p).hi = s.moves.y.hi) && true), true), ⟨ka, kb⟩, (Wk.sub ⟨(by first | rfl | (simp only [List.length_map]; rfl) | simp [PX.get]), (by first | rfl | (simp only [List.length_map]; rfl) | simp [PX.get]), (by first | rfl | (simp only [List.length_map]; rfl) | simp [PX.get]), (by first | rfl | (simp only [List.length_map]; rfl) | simp [PX.get]), (by first | rfl | (simp only [List.length_map]; rfl) | simp [PX.get]), (by first | rfl | (simp only [List.length_map]; rfl) | simp [PX.get]), (by first | rfl | (simp only [List.length_map]; rfl) | simp [PX.get]), (by first | rfl | (simp only [List.length_map]; rfl) | simp [PX.get]), (by first | rfl | (simp only [List.length_map]; rfl) | simp [PX.get]), (by first | rfl | (simp only [List.length_map]; rfl) | simp [PX.get]), (by first | rfl | (simp only [List.length_map]; rfl) | simp [PX.get]), (by first | rfl | (simp only [List.length_map]; rfl) | simp [PX.get]), (by first | rfl | (simp only [List.length_map]; rfl) | simp [PX.get]), trivial⟩ ⟨(by first | rfl | (simp only [List.length_map]; rfl) | simp [PX.get]), (by first | rfl | (simp only [List.length_map]; rfl) | simp [PX.get]), (by first | rfl | (simp only [List.length_map]; rfl) | simp [PX.get]), (by first | rfl | (simp only [List.length_map]; rfl) | simp [PX.get]), (by first | rfl | (simp only [List.length_map]; rfl) | simp [PX.get]), trivial⟩)⟩
    | false =>
     rw [Bool.false_and] at ka
     conv=>whnf
     refine arith_in (wrap_i64 (by (try dsimp only); omega)) ?_
     conv=>whnf
     exact ⟨(false, true), ⟨ka, kb⟩, (Wk.sub ⟨(by first | rfl | (simp only [List.length_map]; rfl) | simp [PX.get]), (by first | rfl | (simp only [List.length_map]; rfl) | simp [PX.get]), (by first | rfl | (simp only [List.length_map]; rfl) | simp [PX.get]), (by first | rfl | (simp only [List.length_map]; rfl) | simp [PX.get]), (by first | rfl | (simp only [List.length_map]; rfl) | simp [PX.get]), (by first | rfl | (simp only [List.length_map]; rfl) | simp [PX.get]), (by first | rfl | (simp only [List.length_map]; rfl) | simp [PX.get]), (by first | rfl | (simp only [List.length_map]; rfl) | simp [PX.get]), (by first | rfl | (simp only [List.length_map]; rfl) | simp [PX.get]), (by first | rfl | (simp only [List.length_map]; rfl) | simp [PX.get]), (by first | rfl | (simp only [List.length_map]; rfl) | simp [PX.get]), (by first | rfl | (simp only [List.length_map]; rfl) | simp [PX.get]), (by first | rfl | (simp only [List.length_map]; rfl) | simp [PX.get]), trivial⟩ ⟨(by first | rfl | (simp only [List.length_map]; rfl) | simp [PX.get]), (by first | rfl | (simp only [List.length_map]; rfl) | simp [PX.get]), (by first | rfl | (simp only [List.length_map]; rfl) | simp [PX.get]), (by first | rfl | (simp only [List.length_map]; rfl) | simp [PX.get]), (by first | rfl | (simp only [List.length_map]; rfl) | simp [PX.get]), trivial⟩)⟩
   | false =>
    rw [Bool.false_or] at kb
    conv=>whnf
    cases ga with
    | true =>
     rw [Bool.true_and] at ka
     conv=>whnf
     refine arith_in (wrap_i64 (by (try dsimp only); omega)) ?_
     conv=>whnf
     exact ⟨(decide ((rowsX s x p).lo = s.moves.y.lo) && (decide ((rowsX s x p).hi = s.moves.y.hi) && true), decide ((rowsX s x p).lo ≤ (rowsX s x p).hi)), ⟨ka, kb⟩, (Wk.sub ⟨(by first | rfl | (simp only [List.length_map]; rfl) | simp [PX.get]), (by first | rfl | (simp only [List.length_map]; rfl) | simp [PX.get]), (by first | rfl | (simp only [List.length_map]; rfl) | simp [PX.get]), (by first | rfl | (simp only [List.length_map]; rfl) | simp [PX.get]), (by first | rfl | (simp only [List.length_map]; rfl) | simp [PX.get]), (by first | rfl | (simp only [List.length_map]; rfl) | simp [PX.get]), (by first | rfl | (simp only [List.length_map]; rfl) | simp [PX.get]), (by first | rfl | (simp only [List.length_map]; rfl) | simp [PX.get]), (by first | rfl | (simp only [List.length_map]; rfl) | simp [PX.get]), (by first | rfl | (simp only [List.length_map]; rfl) | simp [PX.get]), (by first | rfl | (simp only [List.length_map]; rfl) | simp [PX.get]), (by first | rfl | (simp only [List.length_map]; rfl) | simp [PX.get]), (by first | rfl | (simp only [List.length_map]; rfl) | simp [PX.get]), trivial⟩ ⟨(by first | rfl | (simp only [List.length_map]; rfl) | simp [PX.get]), (by first | rfl | (simp only [List.length_map]; rfl) | simp [PX.get]), (by first | rfl | (simp only [List.length_map]; rfl) | simp [PX.get]), (by first | rfl | (simp only [List.length_map]; rfl) | simp [PX.get]), (by first | rfl | (simp only [List.length_map]; rfl) | simp [PX.get]), trivial⟩)⟩
    | false =>
     rw [Bool.false_and] at ka
     conv=>whnf
     refine arith_in (wrap_i64 (by (try dsimp only); omega)) ?_
     conv=>whnf
     exact ⟨(false, decide ((rowsX s x p).lo ≤ (rowsX s x p).hi)), ⟨ka, kb⟩, (Wk.sub ⟨(by first | rfl | (simp only [List.length_map]; rfl) | simp [PX.get]), (by first | rfl | (simp only [List.length_map]; rfl) | simp [PX.get]), (by first | rfl | (simp only [List.length_map]; rfl) | simp [PX.get]), (by first | rfl | (simp only [List.length_map]; rfl) | simp [PX.get]), (by first | rfl | (simp only [List.length_map]; rfl) | simp [PX.get]), (by first | rfl | (simp only [List.length_map]; rfl) | simp [PX.get]), (by first | rfl | (simp only [List.length_map]; rfl) | simp [PX.get]), (by first | rfl | (simp only [List.length_map]; rfl) | simp [PX.get]), (by first | rfl | (simp only [List.length_map]; rfl) | simp [PX.get]), (by first | rfl | (simp only [List.length_map]; rfl) | simp [PX.get]), (by first | rfl | (simp only [List.length_map]; rfl) | simp [PX.get]), (by first | rfl | (simp only [List.length_map]; rfl) | simp [PX.get]), (by first | rfl | (simp only [List.length_map]; rfl) | simp [PX.get]), trivial⟩ ⟨(by first | rfl | (simp only [List.length_map]; rfl) | simp [PX.get]), (by first | rfl | (simp only [List.length_map]; rfl) | simp [PX.get]), (by first | rfl | (simp only [List.length_map]; rfl) | simp [PX.get]), (by first | rfl | (simp only [List.length_map]; rfl) | simp [PX.get]), (by first | rfl | (simp only [List.length_map]; rfl) | simp [PX.get]), trivial⟩)⟩
  ·rintro ⟨ga, gb⟩ ⟨ka, kb⟩
   simp only at ka kb
   rw [List.all_nil, Bool.and_true] at ka
   rw [List.any_nil, Bool.or_false] at kb
   rw [ka] at hA
   rw [kb] at hB
   conv=>whnf
   refine brk_i (fun h => absurd h (by simp; omega)) (fun _ => ?_)
   conv=>whnf
   cases ga with
   | true =>
    rw [if_pos rfl] at hA
    conv=>whnf
    refine ownK_whole rfl ?_
    conv=>whnf
    refine ownK_whole (by simp [Els.len]) ?_
    conv=>whnf
    refine chk_i (decide_eq_true (by
     show ((A.map fun n => [i64 n]).length + 1) * 8 ≤ 140737488355328
     rw [List.length_map]; omega)) ?_
    conv=>whnf
    cases gb with
    | true =>
     rw [if_pos rfl] at hB
     conv=>whnf
     refine ownK_whole rfl ?_
     conv=>whnf
     refine ownK_whole (by simp [Els.len]) ?_
     conv=>whnf
     refine chk_i (decide_eq_true (by
      show ((B.map fun n => [i64 n]).length + 1) * 8 ≤ 140737488355328
      rw [List.length_map]; omega)) ?_
     conv=>whnf
     refine arith_in (wrap_i64 (by (try dsimp only); omega)) ?_
     conv=>whnf
     exact ⟨(A ++ [(i : Int)], B ++ [(i : Int)]), ⟨by rw [hA]; simp, by rw [hB]; simp, by simp <;> omega, by simp <;> omega⟩, Wk.sub ⟨(by first | rfl | simp [PX.get, Els.len]), (by first | rfl | simp [PX.get, Els.len]), (by first | rfl | simp [PX.get, Els.len]), (by first | rfl | simp [PX.get, Els.len]), (by first | rfl | simp [PX.get, Els.len]), (by first | rfl | simp [PX.get, Els.len]), (by first | rfl | simp [PX.get, Els.len]), trivial⟩ ⟨(by first | rfl | simp [PX.get, Els.len]), (by first | rfl | simp [PX.get, Els.len]), (by first | rfl | simp [PX.get, Els.len]), (by first | rfl | simp [PX.get, Els.len]), trivial⟩⟩
    | false =>
     rw [if_neg (by simp)] at hB
     conv=>whnf
     refine arith_in (wrap_i64 (by (try dsimp only); omega)) ?_
     conv=>whnf
     exact ⟨(A ++ [(i : Int)], B), ⟨by rw [hA]; simp, hB, by simp <;> omega, by simp <;> omega⟩, Wk.sub ⟨(by first | rfl | simp [PX.get, Els.len]), (by first | rfl | simp [PX.get, Els.len]), (by first | rfl | simp [PX.get, Els.len]), (by first | rfl | simp [PX.get, Els.len]), (by first | rfl | simp [PX.get, Els.len]), (by first | rfl | simp [PX.get, Els.len]), (by first | rfl | simp [PX.get, Els.len]), trivial⟩ ⟨(by first | rfl | simp [PX.get, Els.len]), (by first | rfl | simp [PX.get, Els.len]), (by first | rfl | simp [PX.get, Els.len]), (by first | rfl | simp [PX.get, Els.len]), trivial⟩⟩
   | false =>
    rw [if_neg (by simp)] at hA
    conv=>whnf
    cases gb with
    | true =>
     rw [if_pos rfl] at hB
     conv=>whnf
     refine ownK_whole rfl ?_
     conv=>whnf
     refine ownK_whole (by simp [Els.len]) ?_
     conv=>whnf
     refine chk_i (decide_eq_true (by
      show ((B.map fun n => [i64 n]).length + 1) * 8 ≤ 140737488355328
      rw [List.length_map]; omega)) ?_
     conv=>whnf
     refine arith_in (wrap_i64 (by (try dsimp only); omega)) ?_
     conv=>whnf
     exact ⟨(A, B ++ [(i : Int)]), ⟨hA, by rw [hB]; simp, by simp <;> omega, by simp <;> omega⟩, Wk.sub ⟨(by first | rfl | simp [PX.get, Els.len]), (by first | rfl | simp [PX.get, Els.len]), (by first | rfl | simp [PX.get, Els.len]), (by first | rfl | simp [PX.get, Els.len]), (by first | rfl | simp [PX.get, Els.len]), (by first | rfl | simp [PX.get, Els.len]), (by first | rfl | simp [PX.get, Els.len]), trivial⟩ ⟨(by first | rfl | simp [PX.get, Els.len]), (by first | rfl | simp [PX.get, Els.len]), (by first | rfl | simp [PX.get, Els.len]), (by first | rfl | simp [PX.get, Els.len]), trivial⟩⟩
    | false =>
     rw [if_neg (by simp)] at hB
     conv=>whnf
     refine arith_in (wrap_i64 (by (try dsimp only); omega)) ?_
     conv=>whnf
     exact ⟨(A, B), ⟨hA, hB, by simp <;> omega, by simp <;> omega⟩, Wk.sub ⟨(by first | rfl | simp [PX.get, Els.len]), (by first | rfl | simp [PX.get, Els.len]), (by first | rfl | simp [PX.get, Els.len]), (by first | rfl | simp [PX.get, Els.len]), (by first | rfl | simp [PX.get, Els.len]), (by first | rfl | simp [PX.get, Els.len]), (by first | rfl | simp [PX.get, Els.len]), trivial⟩ ⟨(by first | rfl | simp [PX.get, Els.len]), (by first | rfl | simp [PX.get, Els.len]), (by first | rfl | simp [PX.get, Els.len]), (by first | rfl | simp [PX.get, Els.len]), trivial⟩⟩
 ·rintro ⟨A, B⟩ ⟨hA, hB, hlA, hlB⟩
  simp only at hA hB hlA hlB
  rw [sureF, List.append_nil] at hA
  rw [someF, List.append_nil] at hB
  rw [hA, hB]
  conv=>whnf
  refine brk_i (fun h => absurd h (by simp)) (fun _ => ?_)
  conv=>whnf
  rw [h0]
  exact RetA_view 2 (ds := [intsD A, intsD B, i64 0]) (viewL_cons (viewV_sl rfl (by simp)) (viewL_cons (viewV_sl rfl (by simp)) rfl)) ⟨⟨rfl, rfl⟩, rfl⟩
end Go.PX
namespace Go.PX
open Go.Proofs
theorem mul_b {a b : Int} (A B : Int) (ha : -A ≤ a ∧ a ≤ A) (hb : -B ≤ b ∧ b ≤ B) : -(A * B) ≤ a * b ∧ a * b ≤ A * B := by
 have h1 : 0 ≤ (A - a) * (B + b) := Int.mul_nonneg (by omega) (by omega)
 have h2 : 0 ≤ (A + a) * (B - b) := Int.mul_nonneg (by omega) (by omega)
 have h3 : 0 ≤ (A - a) * (B - b) := Int.mul_nonneg (by omega) (by omega)
 have h4 : 0 ≤ (A + a) * (B + b) := Int.mul_nonneg (by omega) (by omega)
 constructor
 ·grind
 ·grind
theorem leftF_bd {A B : Int} {a b : Pt} (ha : Pin A a) (hb : Pin B b) : -(2 * (A * B)) ≤ leftF a b ∧ leftF a b ≤ 2 * (A * B) := by
 have h1 := mul_b A B ha.x hb.y
 have h2 := mul_b A B ha.y hb.x
 unfold leftF
 omega
theorem dotF_bd {A B : Int} {a b : Pt} (ha : Pin A a) (hb : Pin B b) : -(2 * (A * B)) ≤ dotF a b ∧ dotF a b ≤ 2 * (A * B) := by
 have h1 := mul_b A B ha.x hb.x
 have h2 := mul_b A B ha.y hb.y
 unfold dotF
 omega
def distF (b to : Pt) : Int × Int :=
 if dotF b to < 0 then (dotF to to, 1) else if dotF b b < dotF b to then (dotF (to.sub b) (to.sub b), 1) else (leftF b to * leftF b to, dotF b b)
def nearS (p : Pt) (r : Int) (z : Pt × Pt) : Bool := decide ((distF z.2 (p.sub z.1)).1 < r * r * (distF z.2 (p.sub z.1)).2)
def nearL (p : Pt) (r : Int) : Bool → List (Pt × Pt) → Bool
 | on, [] => on
 | on, z :: rest => if 0 ≤ leftF z.2 (p.sub z.1) then nearL p r on rest else if nearS p r z then true else nearL p r false rest
def nearX (s : Sand) (p : Pt) (r : Int) : Bool := nearL p r true (sidesF s)
set_option maxHeartbeats 4000000 in
theorem ch108 (s : Sand) (hR : SandR s) (p : Pt) (hp : Pin 10500 p) (r : Int) (hr : 0 ≤ r ∧ r ≤ 5001) : FnV Tryz.prog 108 [.agg s.cells, p.d, i64 r] (.bool (nearX s p r)) := by
 refine fnV_of mixed tysOk Tryz.func108 rfl (ft := ft108) 3 (by decide +kernel) (by rfl) fun {σ} Y st => ?_
 conv=>whnf
 have hlen := hR.len
 refine CallA_v (ch103 s) rfl rfl ?_
 conv=>whnf
 refine RangeA_list tysOk (by exact drawsB_spec mixed tysOk (by decide +kernel)) (by exact drawsB_spec mixed tysOk (by decide +kernel)) rfl 1500000 1600000 [3, 4, 5, 6, 7] (yields124 s (by omega) (by omega) (fun p h => (hR.pin p h).mono (by omega)))
  (fun (on : Bool) => ([(1500000, .box (.dd s.cells)), (1500001, .box (.dd p.cells)), (1500002, .box (.dd [i64 r])), (1500003, .box (.dd [.bool false])), (1500004, .box (.dd [.bool on]))], st))
  (fun rest on => nearX s p r = nearL p r on rest ∧ ∀ x ∈ rest, Pin 10000 x.1 ∧ Pin 20000 x.2) true rfl rfl rfl ⟨rfl, mem_sidesF (by omega) hR.pin⟩ ?_ ?_
 ·rintro ⟨a, b⟩ rest on ⟨hk, hl⟩ Q hQ1 hQ2
  refine ⟨⟨rfl, rfl⟩, ?_⟩
  obtain ⟨ha, hb⟩ := hl (a, b) (by simp)
  have hl : ∀ x ∈ rest, Pin 10000 x.1 ∧ Pin 20000 x.2 := fun x hx => hl x (by simp [hx])
  simp only at ha hb
  rw [nearL] at hk
  have hto : Pin 20500 (p.sub a) := hp.sub ha
  have hen : Pin 40500 ((p.sub a).sub b) := hto.sub hb
  have b1 := leftF_bd hb hto
  have b2 := dotF_bd hb hb
  have b3 := dotF_bd hb hto
  have b4 := dotF_bd hto hto
  have b5 := dotF_bd hen hen
  have b6 := mul_b (a := r) (b := r) 5001 5001 (by omega) (by omega)
  have b7 := mul_b (a := leftF b (p.sub a)) (b := leftF b (p.sub a)) 820000000 820000000 (by omega) (by omega)
  have b8 := mul_b (a := r * r) (b := dotF b b) 25010001 800000000 (by omega) (by omega)
  conv=>whnf
  refine CallA_view (ds := [a.d, p.d]) (ch81 a p (ha.mono (by omega)) (hp.mono (by omega))) rfl 1 rfl ?_
  conv=>whnf
  refine CallA_view (ds := [b.d, (p.sub a).d]) (ch104 b (p.sub a) (hb.mono (by omega)) (hto.mono (by omega))) rfl 1 rfl ?_
  conv=>whnf
  refine brk_i (fun h1 => ?_) (fun h1 => ?_)
  ·rw [if_pos (of_decide_eq_true h1)] at hk
   conv=>whnf
   exact ⟨on, (Wk.sub trivial ⟨(by first | rfl | (simp only [List.length_map]; rfl) | simp [PX.get]), (by first | rfl | (simp only [List.length_map]; rfl) | simp [PX.get]), (by first | rfl | (simp only [List.length_map]; rfl) | simp [PX.get]), (by first | rfl | (simp only [List.length_map]; rfl) | simp [PX.get]), (by first | rfl | (simp only [List.length_map]; rfl) | simp [PX.get]), trivial⟩), rfl, hQ1 _ ⟨hk, hl⟩⟩
  ·rw [if_neg (of_decide_eq_false h1)] at hk
   conv=>whnf
   refine DrawCall_view (ds := [b.d, b.d]) (ch126 b b (hb.mono (by omega)) (hb.mono (by omega))) rfl 1 rfl ?_
   conv=>whnf
   refine DrawCall_view (ds := [b.d, (p.sub a).d]) (ch126 b (p.sub a) (hb.mono (by omega)) (hto.mono (by omega))) rfl 1 rfl ?_
   conv=>whnf
   refine brk_i (fun h2 => ?_) (fun h2 => ?_)
   ·have h2 : dotF b (p.sub a) < 0 := of_decide_eq_true h2
    have hns : nearS p r (a, b) = decide (dotF (p.sub a) (p.sub a) < r * r * 1) := by unfold nearS distF; rw [if_pos h2]
    rw [hns] at hk
    conv=>whnf
    refine CallA_view (ds := [(p.sub a).d, (p.sub a).d]) (ch126 (p.sub a) (p.sub a) (hto.mono (by omega)) (hto.mono (by omega))) rfl 1 rfl ?_
    conv=>whnf
    refine arith_in (wrap_i64 (by (try dsimp only); omega)) ?_
    conv=>whnf
    refine arith_in (wrap_i64 (by (try dsimp only); omega)) ?_
    conv=>whnf
    refine brk_i (fun h4 => ?_) (fun h4 => ?_)
    ·rw [if_pos h4] at hk
     conv=>whnf
     refine ⟨[(1500000, .box (.dd s.cells)), (1500001, .box (.dd p.cells)), (1500002, .box (.dd [i64 r])), (1500003, .box (.dd [.bool true])), (1500004, .box (.dd [.bool false]))], st, (Wk.sub trivial ⟨(by first | rfl | (simp only [List.length_map]; rfl) | simp [PX.get]), (by first | rfl | (simp only [List.length_map]; rfl) | simp [PX.get]), (by first | rfl | (simp only [List.length_map]; rfl) | simp [PX.get]), (by first | rfl | (simp only [List.length_map]; rfl) | simp [PX.get]), (by first | rfl | (simp only [List.length_map]; rfl) | simp [PX.get]), trivial⟩), rfl, hQ2 _ _ _ ?_⟩
     conv=>whnf
     rw [hk]
     exact RetA_view 0 rfl ⟨⟨rfl, rfl⟩, rfl⟩
    ·rw [if_neg (by rw [h4]; exact Bool.false_ne_true)] at hk
     conv=>whnf
     exact ⟨false, (Wk.sub trivial ⟨(by first | rfl | (simp only [List.length_map]; rfl) | simp [PX.get]), (by first | rfl | (simp only [List.length_map]; rfl) | simp [PX.get]), (by first | rfl | (simp only [List.length_map]; rfl) | simp [PX.get]), (by first | rfl | (simp only [List.length_map]; rfl) | simp [PX.get]), (by first | rfl | (simp only [List.length_map]; rfl) | simp [PX.get]), trivial⟩), rfl, hQ1 _ ⟨hk, hl⟩⟩
   ·have h2 : ¬ dotF b (p.sub a) < 0 := of_decide_eq_false h2
    conv=>whnf
    refine brk_i (fun h3 => ?_) (fun h3 => ?_)
    ·have h3 : dotF b b < dotF b (p.sub a) := of_decide_eq_true h3
     have hns : nearS p r (a, b) = decide (dotF ((p.sub a).sub b) ((p.sub a).sub b) < r * r * 1) := by unfold nearS distF; rw [if_neg h2, if_pos h3]
     rw [hns] at hk
     conv=>whnf
     refine CallA_view (ds := [b.d, (p.sub a).d]) (ch81 b (p.sub a) (hb.mono (by omega)) (hto.mono (by omega))) rfl 1 rfl ?_
     conv=>whnf
     refine CallA_view (ds := [((p.sub a).sub b).d, ((p.sub a).sub b).d]) (ch126 ((p.sub a).sub b) ((p.sub a).sub b) (hen.mono (by omega)) (hen.mono (by omega))) rfl 1 rfl ?_
     conv=>whnf
     refine arith_in (wrap_i64 (by (try dsimp only); omega)) ?_
     conv=>whnf
     refine arith_in (wrap_i64 (by (try dsimp only); omega)) ?_
     conv=>whnf
     refine brk_i (fun h4 => ?_) (fun h4 => ?_)
     ·rw [if_pos h4] at hk
      conv=>whnf
      refine ⟨[(1500000, .box (.dd s.cells)), (1500001, .box (.dd p.cells)), (1500002, .box (.dd [i64 r])), (1500003, .box (.dd [.bool true])), (1500004, .box (.dd [.bool false]))], st, (Wk.sub trivial ⟨(by first | rfl | (simp only [List.length_map]; rfl) | simp [PX.get]), (by first | rfl | (simp only [List.length_map]; rfl) | simp [PX.get]), (by first | rfl | (simp only [List.length_map]; rfl) | simp [PX.get]), (by first | rfl | (simp only [List.length_map]; rfl) | simp [PX.get]), (by first | rfl | (simp only [List.length_map]; rfl) | simp [PX.get]), trivial⟩), rfl, hQ2 _ _ _ ?_⟩
      conv=>whnf
      rw [hk]
      exact RetA_view 0 rfl ⟨⟨rfl, rfl⟩, rfl⟩
     ·rw [if_neg (by rw [h4]; exact Bool.false_ne_true)] at hk
      conv=>whnf
      exact ⟨false, (Wk.sub trivial ⟨(by first | rfl | (simp only [List.length_map]; rfl) | simp [PX.get]), (by first | rfl | (simp only [List.length_map]; rfl) | simp [PX.get]), (by first | rfl | (simp only [List.length_map]; rfl) | simp [PX.get]), (by first | rfl | (simp only [List.length_map]; rfl) | simp [PX.get]), (by first | rfl | (simp only [List.length_map]; rfl) | simp [PX.get]), trivial⟩), rfl, hQ1 _ ⟨hk, hl⟩⟩
    ·have h3 : ¬ dotF b b < dotF b (p.sub a) := of_decide_eq_false h3
     have hns : nearS p r (a, b) = decide (leftF b (p.sub a) * leftF b (p.sub a) < r * r * dotF b b) := by unfold nearS distF; rw [if_neg h2, if_neg h3]
     rw [hns] at hk
     conv=>whnf
     refine arith_in (wrap_i64 (by (try dsimp only); omega)) ?_
     conv=>whnf
     refine arith_in (wrap_i64 (by (try dsimp only); omega)) ?_
     conv=>whnf
     refine arith_in (wrap_i64 (by (try dsimp only); omega)) ?_
     conv=>whnf
     refine brk_i (fun h4 => ?_) (fun h4 => ?_)
     ·rw [if_pos h4] at hk
      conv=>whnf
      refine ⟨[(1500000, .box (.dd s.cells)), (1500001, .box (.dd p.cells)), (1500002, .box (.dd [i64 r])), (1500003, .box (.dd [.bool true])), (1500004, .box (.dd [.bool false]))], st, (Wk.sub trivial ⟨(by first | rfl | (simp only [List.length_map]; rfl) | simp [PX.get]), (by first | rfl | (simp only [List.length_map]; rfl) | simp [PX.get]), (by first | rfl | (simp only [List.length_map]; rfl) | simp [PX.get]), (by first | rfl | (simp only [List.length_map]; rfl) | simp [PX.get]), (by first | rfl | (simp only [List.length_map]; rfl) | simp [PX.get]), trivial⟩), rfl, hQ2 _ _ _ ?_⟩
      conv=>whnf
      rw [hk]
      exact RetA_view 0 rfl ⟨⟨rfl, rfl⟩, rfl⟩
     ·rw [if_neg (by rw [h4]; exact Bool.false_ne_true)] at hk
      conv=>whnf
      exact ⟨false, (Wk.sub trivial ⟨(by first | rfl | (simp only [List.length_map]; rfl) | simp [PX.get]), (by first | rfl | (simp only [List.length_map]; rfl) | simp [PX.get]), (by first | rfl | (simp only [List.length_map]; rfl) | simp [PX.get]), (by first | rfl | (simp only [List.length_map]; rfl) | simp [PX.get]), (by first | rfl | (simp only [List.length_map]; rfl) | simp [PX.get]), trivial⟩), rfl, hQ1 _ ⟨hk, hl⟩⟩
 ·rintro on ⟨hk, _⟩
  rw [nearL] at hk
  rw [hk]
  conv=>whnf
  exact RetA_view 0 rfl ⟨⟨rfl, rfl⟩, rfl⟩
end Go.PX
namespace Go.PX
open Go.Proofs
def ysX (s : Sand) : List Int := upX (s.moves.y.hi - s.moves.y.lo + 1).toNat s.moves.y.lo
def inCol (s : Sand) (p : Pt) (r : Int) (x : Int) : List Int → Option Pt
 | [] => none
 | y :: l => if nearX s (p.sub ⟨x, y⟩) r then some ⟨x, y⟩ else inCol s p r x l
def inCols (s : Sand) (p : Pt) (r : Int) : List Int → Option Pt
 | [] => none
 | x :: l => match inCol s p r x (ysX s) with
  | some m => some m
  | none => inCols s p r l
def insL (p : Pt) (r : Int) : Int → List Sand → Option (Int × Pt)
 | _, [] => none
 | i, s :: l => match inCols s p r (xsX s) with
  | some m => some (i, m)
  | none => insL p r (i + 1) l
def insX (c : Cht) (p : Pt) (r : Int) : Option (Int × Pt) := if r = 0 then none else insL p r 0 c.sands
def insD : Option (Int × Pt) → D
 | none => .tup [i64 0, Pt.d ⟨0, 0⟩, .bool false]
 | some (i, m) => .tup [i64 i, m.d, .bool true]
set_option maxHeartbeats 4000000 in
theorem ch74 (c : Cht) (hR : ChtR c) (p : Pt) (hp : Pin 10000 p) (r : Int) (hr : 0 ≤ r ∧ r ≤ 5001) : FnV Tryz.prog 74 [c.d, p.d, i64 r] (insD (insX c p r)) := by
 refine fnV_of mixed tysOk Tryz.func74 rfl (ft := ft74) 3 (by decide +kernel) (by rfl) fun {σ} Y st => ?_
 conv=>whnf
 have hsl := hR.sands
 refine brk_i (fun h0 => ?_) (fun h0 => ?_)
 ·have h0 : r = 0 := of_decide_eq_true h0
  have he : insX c p r = none := by unfold insX; rw [if_pos h0]
  rw [he]
  conv=>whnf
  exact RetA_view 0 rfl ⟨⟨rfl, rfl⟩, rfl⟩
 have h0 : ¬ r = 0 := of_decide_eq_false h0
 have he : insX c p r = insL p r 0 c.sands := by unfold insX; rw [if_neg h0]
 rw [he]
 conv=>whnf
 refine LoopA_i (T := tys) tysOk (by exact drawsB_spec mixed tysOk (by decide +kernel)) c.sands (fun i (m : Pt) => ⟨[(2, .d (i64 r)), (4, .ptr 4 0), (7, .ptr 7 0), (18, .d (sandsD c.sands)), (19, .d (i64 (c.sands.map Sand.cells).length)), (20, .d (i64 i))], [(4, .box (.dd p.cells)), (7, .box (.dd m.cells))], st⟩)
  (fun i l _ => insL p r 0 c.sands = insL p r i l) ⟨0, 0⟩ (Wk.sub ⟨(by first | rfl | (simp only [List.length_map]; rfl) | simp [PX.get]), (by first | rfl | (simp only [List.length_map]; rfl) | simp [PX.get]), (by first | rfl | (simp only [List.length_map]; rfl) | simp [PX.get]), (by first | rfl | (simp only [List.length_map]; rfl) | simp [PX.get]), (by first | rfl | (simp only [List.length_map]; rfl) | simp [PX.get]), (by first | rfl | (simp only [List.length_map]; rfl) | simp [PX.get]), trivial⟩ ⟨(by first | rfl | (simp only [List.length_map]; rfl) | simp [PX.get]), (by first | rfl | (simp only [List.length_map]; rfl) | simp [PX.get]), trivial⟩) rfl ?_ ?_
 ·rintro i s l m hsi hi hil hk
  rw [insL] at hk
  have hS := hR.sand s (List.mem_of_getElem? hsi)
  have hx := hS.x
  have hy := hS.y
  conv=>whnf
  refine brk_i (fun _ => ?_) (fun h => absurd hi (by simpa using h))
  conv=>whnf
  refine elemK_nat hsi ?_
  conv=>whnf
  have hlen : (xsX s).length = (s.moves.x.hi - s.moves.x.lo + 1).toNat := upX_len _ _
  refine LoopA_i (T := tys) tysOk (by exact drawsB_spec mixed tysOk (by decide +kernel)) (xsX s) (fun j (m : Pt) => ⟨[(2, .d (i64 r)), (4, .ptr 4 0), (7, .ptr 7 0), (18, .d (sandsD c.sands)), (19, .d (i64 (c.sands.map Sand.cells).length)), (20, .d (i64 i)), (9, .d (i64 i)), (11, .ptr 11 0), (12, .d (i64 (s.moves.x.lo + j)))], [(4, .box (.dd p.cells)), (7, .box (.dd m.cells)), (11, .box (.dd s.cells))], st⟩)
   (fun j xs _ => inCols s p r (xsX s) = inCols s p r xs) m (Wk.sub ⟨rfl, rfl, rfl, rfl, rfl, rfl, rfl, rfl, congrArg (fun z => some (V.d (i64 z))) (by simp), trivial⟩ ⟨rfl, rfl, rfl, trivial⟩) rfl ?_ ?_
  ·rintro j x xs m hxj hj hjl hk2
   rw [inCols] at hk2
   obtain ⟨hx1, hx2⟩ := upX_get hxj
   conv=>whnf
   refine brk_i (fun _ => ?_) (fun h => absurd h (by simp; omega))
   conv=>whnf
   have hleny : (ysX s).length = (s.moves.y.hi - s.moves.y.lo + 1).toNat := upX_len _ _
   refine LoopA_i (T := tys) tysOk (by exact drawsB_spec mixed tysOk (by decide +kernel)) (ysX s) (fun k (m : Pt) => ⟨[(2, .d (i64 r)), (4, .ptr 4 0), (7, .ptr 7 0), (18, .d (sandsD c.sands)), (19, .d (i64 (c.sands.map Sand.cells).length)), (20, .d (i64 i)), (9, .d (i64 i)), (11, .ptr 11 0), (12, .d (i64 (s.moves.x.lo + j))), (13, .d (i64 (s.moves.y.lo + k)))], [(4, .box (.dd p.cells)), (7, .box (.dd m.cells)), (11, .box (.dd s.cells))], st⟩)
    (fun k ys _ => inCol s p r x (ysX s) = inCol s p r x ys) m (Wk.sub ⟨rfl, rfl, rfl, rfl, rfl, rfl, rfl, rfl, rfl, congrArg (fun z => some (V.d (i64 z))) (by simp), trivial⟩ ⟨rfl, rfl, rfl, trivial⟩) rfl ?_ ?_
   ·rintro k y ys m hyk hkl hkr hk3
    rw [inCol] at hk3
    obtain ⟨hy1, hy2⟩ := upX_get hyk
    subst hx1 hy1
    have hm : Pin 500 ⟨s.moves.x.lo + j, s.moves.y.lo + k⟩ := ⟨by simp only; omega, by simp only; omega⟩
    conv=>whnf
    refine brk_i (fun _ => ?_) (fun h => absurd h (by simp; omega))
    conv=>whnf
    refine DrawCall_view (ds := [Pt.d ⟨s.moves.x.lo + j, s.moves.y.lo + k⟩, p.d]) (ch81 ⟨s.moves.x.lo + j, s.moves.y.lo + k⟩ p (hm.mono (by omega)) (hp.mono (by omega))) rfl 1 rfl ?_
    conv=>whnf
    refine DrawCall_view (ds := [.agg s.cells, (p.sub ⟨s.moves.x.lo + j, s.moves.y.lo + k⟩).d, i64 r]) (ch108 s hS (p.sub ⟨s.moves.x.lo + j, s.moves.y.lo + k⟩) ((hp.sub hm).mono (by omega)) r hr) rfl 1 rfl ?_
    cases hn : nearX s (p.sub ⟨s.moves.x.lo + j, s.moves.y.lo + k⟩) r with
    | true =>
     rw [hn, if_pos rfl] at hk3
     rw [hk3] at hk2
     rw [hk2] at hk
     rw [hk]
     conv=>whnf
     exact RetA_view 0 rfl ⟨⟨rfl, rfl⟩, rfl⟩
    | false =>
     rw [hn, if_neg (by simp)] at hk3
     conv=>whnf
     refine arith_in (wrap_i64 (by (try dsimp only); omega)) ?_
     conv=>whnf
     exact ⟨⟨s.moves.x.lo + j, s.moves.y.lo + k⟩, hk3, Wk.sub ⟨rfl, rfl, rfl, rfl, rfl, rfl, rfl, rfl, rfl, congrArg (fun z => some (V.d (i64 z))) (by simp; omega), trivial⟩ ⟨rfl, rfl, rfl, trivial⟩⟩
   ·rintro m hk3
    rw [inCol] at hk3
    rw [hk3] at hk2
    conv=>whnf
    refine brk_i (fun h => absurd h (by simp; omega)) (fun _ => ?_)
    conv=>whnf
    refine arith_in (wrap_i64 (by (try dsimp only); omega)) ?_
    conv=>whnf
    exact ⟨m, hk2, Wk.sub ⟨rfl, rfl, rfl, rfl, rfl, rfl, rfl, rfl, congrArg (fun z => some (V.d (i64 z))) (by simp; omega), trivial⟩ ⟨rfl, rfl, rfl, trivial⟩⟩
  ·rintro m hk2
   rw [inCols] at hk2
   rw [hk2] at hk
   conv=>whnf
   refine brk_i (fun h => absurd h (by simp; omega)) (fun _ => ?_)
   conv=>whnf
   refine arith_in (wrap_i64 (by (try dsimp only); omega)) ?_
   conv=>whnf
   exact ⟨m, hk, (Wk.sub ⟨(by first | rfl | (simp only [List.length_map]; rfl) | simp [PX.get]), (by first | rfl | (simp only [List.length_map]; rfl) | simp [PX.get]), (by first | rfl | (simp only [List.length_map]; rfl) | simp [PX.get]), (by first | rfl | (simp only [List.length_map]; rfl) | simp [PX.get]), (by first | rfl | (simp only [List.length_map]; rfl) | simp [PX.get]), (by first | rfl | (simp only [List.length_map]; rfl) | simp [PX.get]), trivial⟩ ⟨(by first | rfl | (simp only [List.length_map]; rfl) | simp [PX.get]), (by first | rfl | (simp only [List.length_map]; rfl) | simp [PX.get]), trivial⟩)⟩
 ·rintro m hk
  rw [insL] at hk
  rw [hk]
  conv=>whnf
  refine brk_i (fun h => absurd h (by simp)) (fun _ => ?_)
  conv=>whnf
  exact RetA_view 0 rfl ⟨⟨rfl, rfl⟩, rfl⟩
end Go.PX
namespace Go.PX
open Go.Proofs
def clearE (c : Cht) (p : Pt) (r : Int) : Int :=
 if openX c p = 0 then (if inB r 0 5000 then (if (insX c p r).isSome then 0 else 4) else 7) else openX c p
def clearV (c : Cht) (p : Pt) (r : Int) : Int × Pt := if openX c p = 0 ∧ inB r 0 5000 = true then (insX c p r).getD (0, ⟨0, 0⟩) else (0, ⟨0, 0⟩)
set_option maxHeartbeats 1000000 in
theorem ch26 (c : Cht) (p : Pt) (r : Int) : FnV Tryz.prog 26 [c.d, p.d, i64 r] (.tup [i64 (clearV c p r).1, (clearV c p r).2.d, i64 (clearE c p r)]) := by
 refine fnV_of mixed tysOk Tryz.func26 rfl (ft := ft26) 3 (by decide +kernel) (by rfl) fun {σ} Y st => ?_
 conv=>whnf
 refine CallA_v (ch70 c p) rfl rfl ?_
 conv=>whnf
 by_cases h0 : openX c p = 0
 case neg =>
  have he : clearE c p r = openX c p := by unfold clearE; rw [if_neg h0]
  have hv : clearV c p r = (0, ⟨0, 0⟩) := by unfold clearV; rw [if_neg (fun h => h0 h.1)]
  rw [he, hv]
  refine brk_i (fun _ => ?_) (fun h1 => absurd h1 (by simp [h0]))
  conv=>whnf
  exact RetA_view 0 rfl ⟨⟨rfl, rfl⟩, rfl⟩
 obtain ⟨hR, hp⟩ := openX_ok h0
 refine brk_i (fun h1 => absurd h1 (by simp [h0])) (fun _ => ?_)
 conv=>whnf
 refine CallA_view (fn51_1 0 5000 r) rfl 1 rfl ?_
 by_cases h1 : inB r 0 5000 = true
 case neg =>
  have he : clearE c p r = 7 := by unfold clearE; rw [if_pos h0, if_neg h1]
  have hv : clearV c p r = (0, ⟨0, 0⟩) := by unfold clearV; rw [if_neg (fun h => h1 h.2)]
  have h1 : inB r 0 5000 = false := by simpa using h1
  rw [he, hv, h1]
  conv=>whnf
  exact RetA_view 0 rfl ⟨⟨rfl, rfl⟩, rfl⟩
 have he : clearE c p r = if (insX c p r).isSome then 0 else 4 := by unfold clearE; rw [if_pos h0, if_pos h1]
 have hv : clearV c p r = (insX c p r).getD (0, ⟨0, 0⟩) := by unfold clearV; rw [if_pos ⟨h0, h1⟩]
 rw [he, hv, h1]
 rw [inB_iff] at h1
 conv=>whnf
 refine CallA_v (ch74 c hR p hp r (by omega)) rfl rfl ?_
 conv=>whnf
 cases insX c p r with
 | none =>
  conv=>whnf
  exact RetA_view 0 rfl ⟨⟨rfl, rfl⟩, rfl⟩
 | some x =>
  obtain ⟨i, m⟩ := x
  conv=>whnf
  exact RetA_view 0 rfl ⟨⟨rfl, rfl⟩, rfl⟩
def radL (c : Cht) (p : Pt) : Nat → Int → Int → Int
 | 0, a, _ => a
 | n + 1, a, b => if b - a > 1 then (if (insX c p ((a + b) / 2)).isSome then radL c p n a ((a + b) / 2) else radL c p n ((a + b) / 2) b) else a
def radV (c : Cht) (p : Pt) : Int := if openX c p = 0 then radL c p 5001 0 5001 else 0
set_option maxHeartbeats 1000000 in
theorem ch28 (c : Cht) (p : Pt) : FnV Tryz.prog 28 [c.d, p.d] (.tup [i64 (radV c p), i64 (openX c p)]) := by
 refine fnV_of mixed tysOk Tryz.func28 rfl (ft := ft28) 2 (by decide +kernel) (by rfl) fun {σ} Y st => ?_
 conv=>whnf
 refine CallA_v (ch70 c p) rfl rfl ?_
 conv=>whnf
 by_cases h0 : openX c p = 0
 case neg =>
  have hv : radV c p = 0 := by unfold radV; rw [if_neg h0]
  rw [hv]
  refine brk_i (fun _ => ?_) (fun h1 => absurd h1 (by simp [h0]))
  conv=>whnf
  exact RetA_view 0 rfl ⟨⟨rfl, rfl⟩, rfl⟩
 obtain ⟨hR, hp⟩ := openX_ok h0
 have hv : radV c p = radL c p 5001 0 5001 := by unfold radV; rw [if_pos h0]
 rw [hv]
 refine brk_i (fun h1 => absurd h1 (by simp [h0])) (fun _ => ?_)
 conv=>whnf
 refine LoopA_p (T := tys) tysOk (by exact drawsB_spec mixed tysOk (by decide +kernel)) (α := Nat × Int × Int)
  (fun x => ⟨[(2, .ptr 2 0), (3, .ptr 3 0), (7, .d (i64 x.2.1)), (8, .d (i64 x.2.2))], [(2, .box (.dd c.cells)), (3, .box (.dd p.cells))], st⟩)
  (fun x => 0 ≤ x.2.1 ∧ x.2.1 < x.2.2 ∧ x.2.2 ≤ 5001 ∧ x.2.2 - x.2.1 ≤ x.1 ∧ radL c p 5001 0 5001 = radL c p x.1 x.2.1 x.2.2) (fun x => x.1) (5001, 0, 5001) (Wk.sub ⟨(by first | rfl | (simp only [List.length_map]; rfl) | simp [PX.get]), (by first | rfl | (simp only [List.length_map]; rfl) | simp [PX.get]), (by first | rfl | (simp only [List.length_map]; rfl) | simp [PX.get]), (by first | rfl | (simp only [List.length_map]; rfl) | simp [PX.get]), trivial⟩ ⟨(by first | rfl | (simp only [List.length_map]; rfl) | simp [PX.get]), (by first | rfl | (simp only [List.length_map]; rfl) | simp [PX.get]), trivial⟩) ⟨by simp, by simp, by simp, by simp, rfl⟩ ?_
 rintro ⟨n, a, b⟩ ⟨h1, h2, h3, h4, hk⟩
 simp only at h1 h2 h3 h4 hk
 obtain ⟨n, rfl⟩ : ∃ k, n = k + 1 := ⟨n - 1, by omega⟩
 have hrl : radL c p (n + 1) a b = if b - a > 1 then (if (insX c p ((a + b) / 2)).isSome then radL c p n a ((a + b) / 2) else radL c p n ((a + b) / 2) b) else a := rfl
 rw [hrl] at hk
 clear hrl
 conv=>whnf
 refine arith_in (wrap_i64 (by (try dsimp only); omega)) ?_
 conv=>whnf
 refine brk_i (fun h5 => ?_) (fun h5 => ?_)
 ·have h5 : b - a > 1 := by have := of_decide_eq_true h5; omega
  rw [if_pos h5] at hk
  have hm : (a + b).tdiv 2 = (a + b) / 2 := Int.tdiv_eq_ediv_of_nonneg (by omega)
  have hm1 : a < (a + b) / 2 := by omega
  have hm2 : (a + b) / 2 < b := by omega
  conv=>whnf
  refine arith_in (wrap_i64 (by (try dsimp only); omega)) ?_
  conv=>whnf
  refine arith_to (((a + b) / 2)) (by (try dsimp only); omega) (wrap_i64 (by (try dsimp only); omega)) ?_
  conv=>whnf
  refine CallA_v (ch74 c hR p hp ((a + b) / 2) (by omega)) rfl rfl ?_
  conv=>whnf
  cases hx : insX c p ((a + b) / 2) with
  | none =>
   rw [hx] at hk
   conv=>whnf
   exact ⟨(n, (a + b) / 2, b), by simp only; omega, ⟨by simp only; omega, by simp only; omega, by simp only; omega, by simp only; omega, hk⟩, (Wk.sub ⟨(by first | rfl | (simp only [List.length_map]; rfl) | simp [PX.get]), (by first | rfl | (simp only [List.length_map]; rfl) | simp [PX.get]), (by first | rfl | (simp only [List.length_map]; rfl) | simp [PX.get]), (by first | rfl | (simp only [List.length_map]; rfl) | simp [PX.get]), trivial⟩ ⟨(by first | rfl | (simp only [List.length_map]; rfl) | simp [PX.get]), (by first | rfl | (simp only [List.length_map]; rfl) | simp [PX.get]), trivial⟩)⟩
  | some x =>
   obtain ⟨i, m⟩ := x
   rw [hx] at hk
   conv=>whnf
   exact ⟨(n, a, (a + b) / 2), by simp only; omega, ⟨by simp only; omega, by simp only; omega, by simp only; omega, by simp only; omega, hk⟩, (Wk.sub ⟨(by first | rfl | (simp only [List.length_map]; rfl) | simp [PX.get]), (by first | rfl | (simp only [List.length_map]; rfl) | simp [PX.get]), (by first | rfl | (simp only [List.length_map]; rfl) | simp [PX.get]), (by first | rfl | (simp only [List.length_map]; rfl) | simp [PX.get]), trivial⟩ ⟨(by first | rfl | (simp only [List.length_map]; rfl) | simp [PX.get]), (by first | rfl | (simp only [List.length_map]; rfl) | simp [PX.get]), trivial⟩)⟩
 ·have h5 : ¬ b - a > 1 := by have := of_decide_eq_false h5; omega
  rw [if_neg h5] at hk
  rw [hk, h0]
  conv=>whnf
  exact RetA_view 0 rfl ⟨⟨rfl, rfl⟩, rfl⟩
end Go.PX
namespace Go.PX
open Go.Proofs
def turnP (v : Pt) : Pt := ⟨-v.y, v.x⟩
def turnN : Nat → Pt → Pt
 | 0, v => v
 | n + 1, v => turnN n (turnP v)
def quadN (v : Pt) : Nat := if 0 ≤ v.x ∧ 0 < v.y then 0 else if 0 < v.x ∧ v.y ≤ 0 then 1 else if v.x ≤ 0 ∧ v.y < 0 then 2 else 3
def cntF (v : Pt) : List Pt → Int → Int
 | [], n => n
 | q :: r, n => cntF v r (if leftF q v ≤ 0 then n + 1 else n)
def towF (v : Pt) : Int := cntF (turnN (quadN v) v) quarterL (8 * quadN v) - 1
def NZ (v : Pt) : Prop := v.x ≠ 0 ∨ v.y ≠ 0
theorem quad_le (v : Pt) : quadN v ≤ 3 := by
 unfold quadN
 split
 ·omega
 ·split
  ·omega
  ·split <;> omega
theorem quad_turn {v : Pt} (hz : NZ v) (h : ¬ (0 ≤ v.x ∧ 0 < v.y)) : quadN v = quadN (turnP v) + 1 ∧ NZ (turnP v) := by
 unfold NZ at hz
 constructor
 ·have e1 : (turnP v).x = -v.y := rfl
  have e2 : (turnP v).y = v.x := rfl
  unfold quadN
  rw [e1, e2]
  repeat' split
  all_goals omega
 ·show -v.y ≠ 0 ∨ v.x ≠ 0
  omega
set_option maxHeartbeats 1000000 in
theorem ch80 (v0 : Pt) (hp : Pin 1000000 v0) (hz : NZ v0) : FnV Tryz.prog 80 [v0.d] (i64 (towF v0)) := by
 refine fnV_of mixed tysOk Tryz.func80 rfl (ft := ft80) 1 (by decide +kernel) (by rfl) fun {σ} Y st => ?_
 conv=>whnf
 refine LoopA_p (T := tys) tysOk (by exact drawsB_spec mixed tysOk (by decide +kernel)) (α := Pt × Int)
  (fun x => ⟨[(1, .ptr 1 0), (2, .d (i64 x.2))], [(1, .box (.dd x.1.cells))], st⟩)
  (fun x => Pin 1000000 x.1 ∧ NZ x.1 ∧ x.2 + 8 * quadN x.1 = 8 * quadN v0 ∧ 0 ≤ x.2 ∧ turnN (quadN x.1) x.1 = turnN (quadN v0) v0) (fun x => quadN x.1) (v0, 0) (Wk.sub ⟨(by first | rfl | (simp only [List.length_map]; rfl) | simp [PX.get]), (by first | rfl | (simp only [List.length_map]; rfl) | simp [PX.get]), trivial⟩ ⟨(by first | rfl | (simp only [List.length_map]; rfl) | simp [PX.get]), trivial⟩) ⟨hp, hz, by simp, by simp, rfl⟩ ?_
 have hq3 := quad_le v0
 clear hp hz
 rintro ⟨v, n⟩ ⟨hp, hz, hn, hn0, hk⟩
 simp only at hp hz hn hn0 hk
 have hx := hp.x
 have hy := hp.y
 conv=>whnf
 refine brk_i (fun h1 => ?_) (fun h1 => ?_)
 ·have h1 : v.x < 0 := of_decide_eq_true h1
  have hc : ¬ (0 ≤ v.x ∧ 0 < v.y) := by omega
  obtain ⟨hqt, hzt⟩ := quad_turn hz hc
  have hnn : n + 8 + 8 * quadN (turnP v) = 8 * quadN v0 := by omega
  rw [hqt] at hk
  conv=>whnf
  refine arith_to ((-v.y)) (by (try dsimp only); omega) (wrap_i64 (by (try dsimp only); omega)) ?_
  conv=>whnf
  refine arith_in (wrap_i64 (by (try dsimp only); omega)) ?_
  conv=>whnf
  exact ⟨(turnP v, n + 8), by simp only; omega, ⟨⟨by show -1000000 ≤ -v.y ∧ -v.y ≤ 1000000; omega, hx⟩, hzt, hnn, by simp only; omega, hk⟩, (Wk.sub ⟨(by first | rfl | (simp only [List.length_map]; rfl) | simp [PX.get]), (by first | rfl | (simp only [List.length_map]; rfl) | simp [PX.get]), trivial⟩ ⟨(by first | rfl | (simp only [List.length_map]; rfl) | simp [PX.get]), trivial⟩)⟩
 ·have h1 : ¬ v.x < 0 := of_decide_eq_false h1
  conv=>whnf
  refine brk_i (fun h2 => ?_) (fun h2 => ?_)
  ·have h2 : v.y ≤ 0 := of_decide_eq_true h2
   have hc : ¬ (0 ≤ v.x ∧ 0 < v.y) := by omega
   obtain ⟨hqt, hzt⟩ := quad_turn hz hc
   have hnn : n + 8 + 8 * quadN (turnP v) = 8 * quadN v0 := by omega
   rw [hqt] at hk
   conv=>whnf
   refine arith_to ((-v.y)) (by (try dsimp only); omega) (wrap_i64 (by (try dsimp only); omega)) ?_
   conv=>whnf
   refine arith_in (wrap_i64 (by (try dsimp only); omega)) ?_
   conv=>whnf
   exact ⟨(turnP v, n + 8), by simp only; omega, ⟨⟨by show -1000000 ≤ -v.y ∧ -v.y ≤ 1000000; omega, hx⟩, hzt, hnn, by simp only; omega, hk⟩, (Wk.sub ⟨(by first | rfl | (simp only [List.length_map]; rfl) | simp [PX.get]), (by first | rfl | (simp only [List.length_map]; rfl) | simp [PX.get]), trivial⟩ ⟨(by first | rfl | (simp only [List.length_map]; rfl) | simp [PX.get]), trivial⟩)⟩
  ·have h2 : ¬ v.y ≤ 0 := of_decide_eq_false h2
   have hq0 : quadN v = 0 := by unfold quadN; rw [if_pos (by omega)]
   rw [hq0] at hk hn
   have hk : v = turnN (quadN v0) v0 := hk
   have hn : n = 8 * quadN v0 := by omega
   have htow : towF v0 = cntF v quarterL n - 1 := by unfold towF; rw [← hk, ← hn]
   rw [htow]
   conv=>whnf
   refine CallA_v (ch59) rfl rfl ?_
   conv=>whnf
   refine LoopA_i (T := tys) tysOk (by exact drawsB_spec mixed tysOk (by decide +kernel)) quarterL (fun i (g : Int) => ⟨[(1, .ptr 1 0), (2, .d (i64 g)), (21, .d (.agg quarterC)), (22, .d (i64 i))], [(1, .box (.dd v.cells))], st⟩)
    (fun i r g => cntF v quarterL n = cntF v r g ∧ 0 ≤ g ∧ g ≤ 24 + i) n (Wk.sub ⟨(by first | rfl | (simp only [List.length_map]; rfl) | simp [PX.get]), (by first | rfl | (simp only [List.length_map]; rfl) | simp [PX.get]), (by first | rfl | (simp only [List.length_map]; rfl) | simp [PX.get]), (by first | rfl | (simp only [List.length_map]; rfl) | simp [PX.get]), trivial⟩ ⟨(by first | rfl | (simp only [List.length_map]; rfl) | simp [PX.get]), trivial⟩) ⟨rfl, by omega, by omega⟩ ?_ ?_
   ·rintro i q r g hqi hi hr ⟨hg, hg0, hg1⟩
    rw [cntF] at hg
    have hi8 : i < 8 := hi
    have hqp : (quarterL[i]?).getD ⟨0, 0⟩ = q := by rw [hqi]; rfl
    have hqin : Pin 1000 q := hqp ▸ quarter_in hi8
    conv=>whnf
    refine brk_i (fun _ => ?_) (fun h => absurd h (by simp; omega))
    conv=>whnf
    refine brk_i (fun _ => ?_) (fun h2 => absurd h2 (by simp; omega))
    refine getQ hi8 rfl rfl ?_
    rw [hqp]
    conv=>whnf
    refine CallA_view (ds := [q.d, v.d]) (ch104 q v (hqin.mono (by omega)) (hp.mono (by omega))) rfl 1 rfl ?_
    conv=>whnf
    refine brk_i (fun h3 => ?_) (fun h3 => ?_)
    ·rw [if_pos (of_decide_eq_true h3)] at hg
     conv=>whnf
     refine arith_in (wrap_i64 (by (try dsimp only); omega)) ?_
     conv=>whnf
     conv=>whnf
     refine arith_in (wrap_i64 (by (try dsimp only); omega)) ?_
     conv=>whnf
     exact ⟨g + 1, ⟨hg, by omega, by omega⟩, (Wk.sub ⟨(by first | rfl | (simp only [List.length_map]; rfl) | simp [PX.get]), (by first | rfl | (simp only [List.length_map]; rfl) | simp [PX.get]), (by first | rfl | (simp only [List.length_map]; rfl) | simp [PX.get]), (by first | rfl | (simp only [List.length_map]; rfl) | simp [PX.get]), trivial⟩ ⟨(by first | rfl | (simp only [List.length_map]; rfl) | simp [PX.get]), trivial⟩)⟩
    ·rw [if_neg (of_decide_eq_false h3)] at hg
     conv=>whnf
     refine arith_in (wrap_i64 (by (try dsimp only); omega)) ?_
     conv=>whnf
     exact ⟨g, ⟨hg, by omega, by omega⟩, (Wk.sub ⟨(by first | rfl | (simp only [List.length_map]; rfl) | simp [PX.get]), (by first | rfl | (simp only [List.length_map]; rfl) | simp [PX.get]), (by first | rfl | (simp only [List.length_map]; rfl) | simp [PX.get]), (by first | rfl | (simp only [List.length_map]; rfl) | simp [PX.get]), trivial⟩ ⟨(by first | rfl | (simp only [List.length_map]; rfl) | simp [PX.get]), trivial⟩)⟩
   ·rintro g ⟨hg, hg0, hg1⟩
    have hql : quarterL.length = 8 := rfl
    rw [cntF] at hg
    rw [hg]
    conv=>whnf
    refine arith_in (wrap_i64 (by (try dsimp only); omega)) ?_
    conv=>whnf
    exact RetA_view 0 rfl ⟨⟨rfl, rfl⟩, rfl⟩
end Go.PX
namespace Go.PX
open Go.Proofs
def backN (l : List Paint) : Nat → List (Int × Paint)
 | 0 => []
 | k + 1 => (match l[k]? with
  | some p => [((k : Int), p)]
  | none => []) ++ backN l k
def backV (x : Int × Paint) : List V × Heap := ([.d (i64 x.1), .d (.agg x.2.cells)], [])
theorem ch109 (l : List Paint) : FnV Tryz.prog 109 [paintsD l] (.clo 127 [.ref [paintsD l]]) := by
 refine fnV_of mixed tysOk Tryz.func109 rfl (ft := ft109) 1 (by decide +kernel) (by rfl) fun {σ} Y st => ?_
 conv=>whnf
 exact RetA_view 1 rfl ⟨⟨rfl, rfl⟩, rfl⟩
theorem yields127 (l : List Paint) (hl : l.length < 1000000) : Yields Tryz.prog 127 [.ref [paintsD l]] ((backN l l.length).map backV) := by
 intro γ Y g0 Q hit
 refine fnC_of mixed tysOk Tryz.func127 rfl (ft := ft127) (args := [.yld, .d (.ref [paintsD l])]) (show fnB ft127 Tryz.f127 2 = true from by decide +kernel) ?_
 replace hit := hit.np
 generalize Y.np = Y at hit ⊢
 conv=>whnf
 refine arith_to ((l.length : Int) - 1) (by simp) (wrap_i64 (by omega)) ?_
 conv=>whnf
 refine LoopA_p (T := tys) tysOk (by exact drawsB_spec mixed tysOk (by decide +kernel)) (α := Nat × γ)
  (fun x => ⟨[(0, .yld), (1, .d (.ref [paintsD l])), (3, .d (i64 ((x.1 : Int) - 1)))], [], x.2⟩)
  (fun x => x.1 ≤ l.length ∧ iterate Y ((backN l x.1).map backV) x.2 Q) (fun x => x.1) (l.length, g0) (Wk.sub ⟨(by first | rfl | (simp only [List.length_map]; rfl) | simp [PX.get]), (by first | rfl | (simp only [List.length_map]; rfl) | simp [PX.get]), (by first | rfl | (simp only [List.length_map]; rfl) | simp [PX.get]), trivial⟩ trivial) ⟨Nat.le_refl _, hit⟩ ?_
 clear hit g0
 rintro ⟨k, g0⟩ ⟨hk, hit⟩
 simp only at hk hit
 conv=>whnf
 refine brk_i (fun h1 => ?_) (fun h1 => ?_)
 ·have h1 : 0 ≤ (k : Int) - 1 := of_decide_eq_true h1
  obtain ⟨k, rfl⟩ : ∃ m, k = m + 1 := ⟨k - 1, by omega⟩
  obtain ⟨p, hp⟩ : ∃ p, l[k]? = some p := ⟨l[k]'(by omega), by simp⟩
  rw [backN, hp, List.map_append] at hit
  have e1 : (((k + 1 : Nat) : Int) - 1) = (k : Int) := by omega
  conv=>whnf
  refine elemK_i p.cells ⟨h1, by
   show (l.map Paint.cells)[((((k + 1 : Nat) : Int) - 1)).toNat]? = some p.cells
   rw [e1, Int.toNat_natCast]; simp [hp]⟩ ?_
  conv=>whnf
  refine YldA_v (ds := [i64 k, .agg p.cells]) hit (congrArg (fun z => [V.d (i64 z), V.d (.agg p.cells)]) e1) rfl (fun s' hit' => ?_) (fun s' hq' => ?_)
  ·conv=>whnf
   refine arith_to (((k : Int) - 1)) (by (try dsimp only); omega) (wrap_i64 (by (try dsimp only); omega)) ?_
   conv=>whnf
   exact ⟨(k, s'), by simp only; omega, ⟨by simp only; omega, hit'⟩, (Wk.sub ⟨(by first | rfl | (simp only [List.length_map]; rfl) | simp [PX.get]), (by first | rfl | (simp only [List.length_map]; rfl) | simp [PX.get]), (by first | rfl | (simp only [List.length_map]; rfl) | simp [PX.get]), trivial⟩ trivial)⟩
  ·conv=>whnf
   exact RetA_view 0 rfl ⟨rfl, hq'⟩
 ·have h1 : ¬ 0 ≤ (k : Int) - 1 := of_decide_eq_false h1
  obtain rfl : k = 0 := by omega
  conv=>whnf
  exact RetA_view 0 rfl ⟨rfl, hit⟩
def zeroM : Mark := ⟨ByteArray.empty, ⟨0, 0⟩, []⟩
def marE (c : Cht) (day k : Int) : Int := if (checkX c).2.2 = 0 then (if inB day 0 40000 then (if inB k 0 ((c.marks.length : Int) - 1) then 0 else 4) else 7) else (checkX c).2.2
def marM (c : Cht) (day k : Int) : Mark := if marE c day k = 0 then (c.marks[k.toNat]?).getD zeroM else zeroM
def colB (day : Int) : List (Int × Paint) → Int
 | [] => 0
 | x :: r => if x.2.day ≤ day then x.2.colour else colB day r
def marC (c : Cht) (day k : Int) : Int := if marE c day k = 0 then colB day (backN (marM c day k).paints (marM c day k).paints.length) else 0
set_option maxHeartbeats 2000000 in
theorem ch76 (c : Cht) (day k : Int) : FnV Tryz.prog 76 [c.d, i64 day, i64 k] (.tup [(marM c day k).d, i64 (marC c day k), i64 (marE c day k)]) := by
 refine fnV_of mixed tysOk Tryz.func76 rfl (ft := ft76) 3 (by decide +kernel) (by rfl) fun {σ} Y st => ?_
 conv=>whnf
 refine CallA_v (ch20 c) rfl rfl ?_
 conv=>whnf
 by_cases h0 : (checkX c).2.2 = 0
 case neg =>
  have he : marE c day k = (checkX c).2.2 := by unfold marE; rw [if_neg h0]
  have hm : marM c day k = zeroM := by unfold marM; rw [he, if_neg h0]
  have hc : marC c day k = 0 := by unfold marC; rw [he, if_neg h0]
  rw [he, hm, hc]
  refine brk_i (fun _ => ?_) (fun h1 => absurd h1 (by simp [h0]))
  conv=>whnf
  exact RetA_viewR 0 rfl rfl ⟨⟨rfl, rfl⟩, rfl⟩
 have hR := checkX_ok h0
 have hml := hR.marks
 refine brk_i (fun h1 => absurd h1 (by simp [h0])) (fun _ => ?_)
 rw [h0]
 conv=>whnf
 refine CallA_view (fn51_1 0 40000 day) rfl 1 rfl ?_
 by_cases h1 : inB day 0 40000 = true
 case neg =>
  have he : marE c day k = 7 := by unfold marE; rw [if_pos h0, if_neg h1]
  have hm : marM c day k = zeroM := by unfold marM; rw [he]; rfl
  have hc : marC c day k = 0 := by unfold marC; rw [he]; rfl
  have h1 : inB day 0 40000 = false := by simpa using h1
  rw [he, hm, hc, h1]
  conv=>whnf
  exact RetA_viewR 0 rfl rfl ⟨⟨rfl, rfl⟩, rfl⟩
 rw [h1]
 conv=>whnf
 refine arith_to ((c.marks.length : Int) - 1) (by simp) (wrap_i64 (by omega)) ?_
 conv=>whnf
 refine CallA_view (fn51_1 0 ((c.marks.length : Int) - 1) k) rfl 1 rfl ?_
 by_cases h2 : inB k 0 ((c.marks.length : Int) - 1) = true
 case neg =>
  have he : marE c day k = 4 := by unfold marE; rw [if_pos h0, if_pos h1, if_neg h2]
  have hm : marM c day k = zeroM := by unfold marM; rw [he]; rfl
  have hc : marC c day k = 0 := by unfold marC; rw [he]; rfl
  have h2 : inB k 0 ((c.marks.length : Int) - 1) = false := by simpa using h2
  rw [he, hm, hc, h2]
  conv=>whnf
  exact RetA_viewR 0 rfl rfl ⟨⟨rfl, rfl⟩, rfl⟩
 have he : marE c day k = 0 := by unfold marE; rw [if_pos h0, if_pos h1, if_pos h2]
 have h2i := h2
 rw [inB_iff] at h2i
 obtain ⟨m, hm⟩ : ∃ m, c.marks[k.toNat]? = some m := ⟨c.marks[k.toNat]'(by omega), by simp⟩
 have hmm : marM c day k = m := by unfold marM; rw [if_pos he, hm]; rfl
 have hmc : marC c day k = colB day (backN m.paints m.paints.length) := by unfold marC; rw [if_pos he, hmm]
 have hpl : m.paints.length ≤ 4 := by
  have := (hR.mark m (List.mem_of_getElem? hm)).2
  unfold paintE at this
  split at this
  ·rename_i h3; rw [inB_iff] at h3; omega
  ·cases this
 rw [he, hmm, hmc, h2]
 conv=>whnf
 refine elemK_i m.cells ⟨h2i.1, by simp [hm]⟩ ?_
 conv=>whnf
 refine CallA_v (ch109 m.paints) rfl rfl ?_
 conv=>whnf
 refine RangeA_list tysOk (by exact drawsB_spec mixed tysOk (by decide +kernel)) (by exact drawsB_spec mixed tysOk (by decide +kernel)) rfl 1500000 1600000 [3, 4, 6, 7, 8, 24, 33] (yields127 m.paints (by omega))
  (fun (_ : Unit) => ([(1500000, .box (.dd c.cells)), (1500001, .box (.dd [i64 day])), (1500002, .box (.dd m.cells)), (1500003, .box (.dd [i64 0])), (1500004, .box (.dd [i64 0])), (1500005, .arr 1 (.dd [[i64 day]])), (1500006, .arr 1 (.dd [[i64 k]]))], st))
  (fun rest _ => colB day (backN m.paints m.paints.length) = colB day rest) () rfl rfl rfl rfl ?_ ?_
 ·rintro ⟨i, x⟩ rest _ hk Q hQ1 hQ2
  refine ⟨⟨rfl, rfl⟩, ?_⟩
  replace hk : colB day (backN m.paints m.paints.length) = _ := hk
  conv at hk => rhs; rw [colB]
  conv=>whnf
  refine brk_i (fun h3 => ?_) (fun h3 => ?_)
  ·rw [if_pos (of_decide_eq_true h3)] at hk
   conv=>whnf
   refine ⟨[(1500000, .box (.dd c.cells)), (1500001, .box (.dd [i64 day])), (1500002, .box (.dd m.cells)), (1500003, .box (.dd [i64 x.colour])), (1500004, .box (.dd [i64 0])), (1500005, .arr 1 (.dd [[i64 day]])), (1500006, .arr 1 (.dd [[i64 k]]))], st, (Wk.sub trivial ⟨(by first | rfl | (simp only [List.length_map]; rfl) | simp [PX.get]), (by first | rfl | (simp only [List.length_map]; rfl) | simp [PX.get]), (by first | rfl | (simp only [List.length_map]; rfl) | simp [PX.get]), (by first | rfl | (simp only [List.length_map]; rfl) | simp [PX.get]), (by first | rfl | (simp only [List.length_map]; rfl) | simp [PX.get]), (by first | rfl | (simp only [List.length_map]; rfl) | simp [PX.get]), (by first | rfl | (simp only [List.length_map]; rfl) | simp [PX.get]), trivial⟩), rfl, hQ2 _ _ _ ?_⟩
   conv=>whnf
   rw [hk]
   exact RetA_view 0 rfl ⟨⟨rfl, rfl⟩, rfl⟩
  ·rw [if_neg (of_decide_eq_false h3)] at hk
   conv=>whnf
   exact ⟨(), (Wk.sub trivial ⟨(by first | rfl | (simp only [List.length_map]; rfl) | simp [PX.get]), (by first | rfl | (simp only [List.length_map]; rfl) | simp [PX.get]), (by first | rfl | (simp only [List.length_map]; rfl) | simp [PX.get]), (by first | rfl | (simp only [List.length_map]; rfl) | simp [PX.get]), (by first | rfl | (simp only [List.length_map]; rfl) | simp [PX.get]), (by first | rfl | (simp only [List.length_map]; rfl) | simp [PX.get]), (by first | rfl | (simp only [List.length_map]; rfl) | simp [PX.get]), trivial⟩), rfl, hQ1 _ hk⟩
 ·rintro _ hk
  replace hk : colB day (backN m.paints m.paints.length) = _ := hk
  conv at hk => rhs; rw [colB]
  rw [hk]
  conv=>whnf
  exact RetA_view 0 rfl ⟨⟨rfl, rfl⟩, rfl⟩
end Go.PX
namespace Go.PX
open Go.Proofs
theorem ch30 (c : Cht) (day k : Int) : FnV Tryz.prog 30 [c.d, i64 day, i64 k] (.tup [i64 (marC c day k), i64 (marE c day k)]) := by
 refine fnV_of mixed tysOk Tryz.func30 rfl (ft := ft30) 3 (by decide +kernel) (by rfl) fun {σ} Y st => ?_
 conv=>whnf
 refine CallA_v (ch76 c day k) rfl rfl ?_
 conv=>whnf
 exact RetA_view 1 rfl ⟨⟨rfl, rfl⟩, rfl⟩
def stdE (c : Cht) (day k : Int) : Int := if marE c day k = 0 then (if marC c day k = 0 then 9 else 0) else marE c day k
theorem ch79 (c : Cht) (day k : Int) : FnV Tryz.prog 79 [c.d, i64 day, i64 k] (.tup [(marM c day k).d, i64 (stdE c day k)]) := by
 refine fnV_of mixed tysOk Tryz.func79 rfl (ft := ft79) 3 (by decide +kernel) (by rfl) fun {σ} Y st => ?_
 conv=>whnf
 refine CallA_v (ch76 c day k) rfl rfl ?_
 conv=>whnf
 by_cases h0 : marE c day k = 0
 case neg =>
  have he : stdE c day k = marE c day k := by unfold stdE; rw [if_neg h0]
  rw [he, decide_eq_false h0]
  conv=>whnf
  exact RetA_view 0 rfl ⟨⟨rfl, rfl⟩, rfl⟩
 have he : stdE c day k = if marC c day k = 0 then 9 else 0 := by unfold stdE; rw [if_pos h0]
 rw [he, decide_eq_true h0]
 conv=>whnf
 refine brk_i (fun h1 => ?_) (fun h1 => ?_)
 ·rw [if_pos (of_decide_eq_true h1)]
  conv=>whnf
  exact RetA_view 0 rfl ⟨⟨rfl, rfl⟩, rfl⟩
 ·rw [if_neg (of_decide_eq_false h1), h0]
  conv=>whnf
  exact RetA_view 0 rfl ⟨⟨rfl, rfl⟩, rfl⟩
theorem marM_ok {c : Cht} {day k : Int} (h : marE c day k = 0) : ChtR c ∧ marM c day k ∈ c.marks := by
 unfold marE at h
 split at h
 case isFalse => rename_i h1; exact absurd h h1
 rename_i h1
 split at h
 case isFalse => cases h
 rename_i h2
 split at h
 case isFalse => cases h
 rename_i h3
 have he : marE c day k = 0 := by unfold marE; rw [if_pos h1, if_pos h2, if_pos h3]
 rw [inB_iff] at h3
 obtain ⟨m, hm⟩ : ∃ m, c.marks[k.toNat]? = some m := ⟨c.marks[k.toNat]'(by omega), by simp⟩
 have : marM c day k = m := by unfold marM; rw [if_pos he, hm]; rfl
 rw [this]
 exact ⟨checkX_ok h1, List.mem_of_getElem? hm⟩
theorem stdE_mar {c : Cht} {day k : Int} (h : stdE c day k = 0) : marE c day k = 0 := by
 unfold stdE at h
 split at h
 ·assumption
 ·exact h
def sameP (a b : Pt) : Bool := decide (a.x = b.x) && (decide (a.y = b.y) && true)
def seenE (c : Cht) (day k : Int) (p : Pt) : Int :=
 if stdE c day k = 0 then (if withinB 30000 p then (if sameP (marM c day k).at' p then 8 else 0) else 7) else stdE c day k
def seenV (c : Cht) (day k : Int) (p : Pt) : Int := if seenE c day k p = 0 then towF ((marM c day k).at'.sub p) else 0
set_option maxHeartbeats 1000000 in
theorem ch32 (c : Cht) (day k : Int) (p : Pt) : FnV Tryz.prog 32 [c.d, i64 day, i64 k, p.d] (.tup [i64 (seenV c day k p), i64 (seenE c day k p)]) := by
 refine fnV_of mixed tysOk Tryz.func32 rfl (ft := ft32) 4 (by decide +kernel) (by rfl) fun {σ} Y st => ?_
 conv=>whnf
 refine CallA_v (ch79 c day k) rfl rfl ?_
 conv=>whnf
 by_cases h0 : stdE c day k = 0
 case neg =>
  have he : seenE c day k p = stdE c day k := by unfold seenE; rw [if_neg h0]
  have hv : seenV c day k p = 0 := by unfold seenV; rw [he, if_neg h0]
  rw [he, hv]
  refine brk_i (fun _ => ?_) (fun h1 => absurd h1 (by simp [h0]))
  conv=>whnf
  exact RetA_view 0 rfl ⟨⟨rfl, rfl⟩, rfl⟩
 obtain ⟨hR, hmem⟩ := marM_ok (stdE_mar h0)
 have hmp := (hR.mark _ hmem).1
 have he : seenE c day k p = if withinB 30000 p then (if sameP (marM c day k).at' p then 8 else 0) else 7 := by unfold seenE; rw [if_pos h0]
 refine brk_i (fun h1 => absurd h1 (by simp [h0])) (fun _ => ?_)
 conv=>whnf
 refine CallA_view (ds := [i64 30000, ptsD [p]]) (ch63 30000 [p] (by omega) (by simp)) rfl 1 rfl ?_
 have hfar : ([p].any fun p => !withinB 30000 p) = !withinB 30000 p := by simp
 rw [hfar]
 cases hw : withinB 30000 p with
 | false =>
  rw [hw, if_neg (by simp)] at he
  have hv : seenV c day k p = 0 := by unfold seenV; rw [he]; rfl
  rw [he, hv]
  conv=>whnf
  exact RetA_view 0 rfl ⟨⟨rfl, rfl⟩, rfl⟩
 | true =>
  rw [hw, if_pos rfl] at he
  have hp := within_iff.1 hw
  generalize hM : marM c day k = m at *
  cases hs : sameP m.at' p with
  | true =>
   rw [hs, if_pos rfl] at he
   have hv : seenV c day k p = 0 := by unfold seenV; rw [he]; rfl
   rw [he, hv]
   conv=>whnf
   refine brk_i (fun _ => ?_) (fun h => absurd (hs.symm.trans h) (by simp))
   conv=>whnf
   exact RetA_view 0 rfl ⟨⟨rfl, rfl⟩, rfl⟩
  | false =>
   rw [hs, if_neg (by simp)] at he
   have hv : seenV c day k p = towF (m.at'.sub p) := by unfold seenV; rw [he, hM]; rfl
   have hnz : NZ (m.at'.sub p) := by
    show m.at'.x - p.x ≠ 0 ∨ m.at'.y - p.y ≠ 0
    unfold sameP at hs
    simp at hs
    omega
   rw [he, hv]
   conv=>whnf
   refine brk_i (fun h => absurd (hs.symm.trans h) (by simp)) (fun _ => ?_)
   conv=>whnf
   refine CallA_view (ds := [p.d, m.at'.d]) (ch81 p m.at' (hp.mono (by omega)) (hmp.mono (by omega))) rfl 1 rfl ?_
   conv=>whnf
   refine CallA_view (ds := [(m.at'.sub p).d]) (ch80 (m.at'.sub p) ((hmp.sub hp).mono (by omega)) hnz) rfl 1 rfl ?_
   conv=>whnf
   exact RetA_view 0 rfl ⟨⟨rfl, rfl⟩, rfl⟩
end Go.PX
namespace Go.PX
open Go.Proofs
theorem ch95 (o w : Pt) (ho : Pin 1000000000 o) (hw : Pin 1000000000 w) : FnV Tryz.prog 95 [o.d, w.d] (i64 (leftF o w)) := by
 refine fnV_of mixed tysOk Tryz.func95 rfl (ft := ft95) 2 (by decide +kernel) (by rfl) fun {σ} Y st => ?_
 conv=>whnf
 have h1 := mul_big ho.x hw.y
 have h2 := mul_big ho.y hw.x
 refine arith_in (wrap_i64 (by (try dsimp only); omega)) ?_
 conv=>whnf
 refine arith_in (wrap_i64 (by (try dsimp only); omega)) ?_
 conv=>whnf
 refine arith_in (wrap_i64 (by (try dsimp only); omega)) ?_
 conv=>whnf
 exact RetA_view 0 rfl ⟨⟨rfl, rfl⟩, rfl⟩
theorem ch84 (a b : Pt) (ha : Pin 1000000000000 a) (hb : Pin 1000000000000 b) : FnV Tryz.prog 84 [a.d, b.d] (a.sub b).d := by
 refine fnV_of mixed tysOk Tryz.func84 rfl (ft := ft84) 2 (by decide +kernel) (by rfl) fun {σ} Y st => ?_
 conv=>whnf
 have h1 := ha.x
 have h2 := ha.y
 have h3 := hb.x
 have h4 := hb.y
 refine arith_in (wrap_i64 (by (try dsimp only); omega)) ?_
 conv=>whnf
 refine arith_in (wrap_i64 (by (try dsimp only); omega)) ?_
 conv=>whnf
 exact RetA_view 0 rfl ⟨⟨rfl, rfl⟩, rfl⟩
theorem ch55 (p : Pt) (m : Int) (hm : 0 ≤ m ∧ m ≤ 1000000000) : FnV Tryz.prog 55 [p.d, i64 m] (.bool (withinB m p)) := by
 refine fnV_of mixed tysOk Tryz.func55 rfl (ft := ft55) 2 (by decide +kernel) (by rfl) fun {σ} Y st => ?_
 conv=>whnf
 refine arith_to ((-m)) (by (try dsimp only); omega) (wrap_i64 (by (try dsimp only); omega)) ?_
 conv=>whnf
 refine CallA_view (fn118 p.x (-m) m) rfl 1 rfl ?_
 unfold withinB
 cases h : inB p.x (-m) m with
 | false =>
  conv=>whnf
  exact RetA_view 0 rfl ⟨⟨rfl, rfl⟩, rfl⟩
 | true =>
  conv=>whnf
  refine arith_to ((-m)) (by (try dsimp only); omega) (wrap_i64 (by (try dsimp only); omega)) ?_
  conv=>whnf
  refine CallA_view (fn118 p.y (-m) m) rfl 1 rfl ?_
  conv=>whnf
  exact RetA_view 0 rfl ⟨⟨rfl, rfl⟩, rfl⟩
end Go.PX
namespace Go.PX
open Go.Proofs
set_option maxHeartbeats 2000000 in
theorem ch67 (l : List Paint) : FnV Tryz.prog 67 [paintsD l] (i64 (paintE l)) := by
 refine fnV_of mixed tysOk Tryz.func67 rfl (ft := ft67) 1 (by decide +kernel) (by rfl) fun {σ} Y st => ?_
 conv=>whnf
 refine CallA_view (fn118 l.length 1 4) rfl 1 (by simp; rfl) ?_
 unfold paintE
 cases h : inB (l.length : Int) 1 4 with
 | false =>
  conv=>whnf
  exact RetA_view 0 rfl ⟨⟨rfl, rfl⟩, rfl⟩
 | true =>
  rw [inB_iff] at h
  conv=>whnf
  refine LoopA_i (T := tys) tysOk (by exact drawsB_spec mixed tysOk (by decide +kernel)) l (fun i (last : Int) => ⟨[(0, .d (paintsD l)), (3, .d (i64 i))], [], st⟩) (fun i r last => paintL (-1) l = paintL last r ∧ (i = 0 → last = -1) ∧ (∀ j, i = j + 1 → ∃ q, l[j]? = some q ∧ q.day = last)) (-1) (Wk.sub ⟨(by first | rfl | (simp only [List.length_map]; rfl) | simp [PX.get]), (by first | rfl | (simp only [List.length_map]; rfl) | simp [PX.get]), trivial⟩ trivial) ⟨rfl, fun _ => rfl, fun j hj => by omega⟩ ?_ ?_
  ·rintro i p r last hp hi hr ⟨he, hl0, hl1⟩
   rw [paintL] at he
   conv=>whnf
   refine brk_i (fun _ => ?_) (fun h => absurd hi (by simpa using h))
   conv=>whnf
   refine elemK_nat hp ?_
   conv=>whnf
   refine CallA_view (fn118 p.day 0 40000) rfl 1 rfl ?_
   cases h1 : inB p.day 0 40000 with
   | false =>
    rw [h1, Bool.false_and, if_neg (by simp)] at he
    rw [he]
    conv=>whnf
    exact RetA_view 0 rfl ⟨⟨rfl, rfl⟩, rfl⟩
   | true =>
    conv=>whnf
    refine elemK_nat hp ?_
    conv=>whnf
    refine CallA_view (fn118 p.colour 0 4) rfl 1 rfl ?_
    cases h2 : inB p.colour 0 4 with
    | false =>
     rw [h1, h2, Bool.and_false, if_neg (by simp)] at he
     rw [he]
     conv=>whnf
     exact RetA_view 0 rfl ⟨⟨rfl, rfl⟩, rfl⟩
    | true =>
     have h1' := h1
     rw [inB_iff] at h1'
     rw [h1, h2, Bool.and_true, if_pos rfl] at he
     conv=>whnf
     refine brk_i (fun h3 => ?_) (fun h3 => ?_)
     ·have h3 : 0 < i := by have := of_decide_eq_true h3; omega
      obtain ⟨j, rfl⟩ : ∃ j, i = j + 1 := ⟨i - 1, by omega⟩
      obtain ⟨q, hq, hqd⟩ := hl1 j rfl
      subst hqd
      conv=>whnf
      refine elemK_i p.cells ⟨by omega, by
       show (l.map Paint.cells)[(((j + 1 : Nat) : Int)).toNat]? = some p.cells
       rw [Int.toNat_natCast]; simp [hp]⟩ ?_
      conv=>whnf
      refine arith_to (((j : Nat) : Int)) (by (try dsimp only); omega) (wrap_i64 (by (try dsimp only); omega)) ?_
      conv=>whnf
      refine elemK_i q.cells ⟨by omega, by
       show (l.map Paint.cells)[((j : Int)).toNat]? = some q.cells
       rw [Int.toNat_natCast]; simp [hq]⟩ ?_
      conv=>whnf
      refine brk_i (fun h4 => ?_) (fun h4 => ?_)
      ·rw [if_pos (of_decide_eq_true h4)] at he
       rw [he]
       conv=>whnf
       exact RetA_view 0 rfl ⟨⟨rfl, rfl⟩, rfl⟩
      ·rw [if_neg (of_decide_eq_false h4)] at he
       conv=>whnf
       refine arith_in (wrap_i64 (by (try dsimp only); omega)) ?_
       conv=>whnf
       exact ⟨p.day, ⟨he, fun h => by omega, fun j2 hj => ⟨p, by rw [show j2 = j + 1 by omega]; exact hp, rfl⟩⟩, (Wk.sub ⟨(by first | rfl | (simp only [List.length_map]; rfl) | simp [PX.get]), (by first | rfl | (simp only [List.length_map]; rfl) | simp [PX.get]), trivial⟩ trivial)⟩
     ·have h3 : i = 0 := by have := of_decide_eq_false h3; omega
      have := hl0 h3
      subst this
      rw [if_neg (by omega)] at he
      conv=>whnf
      refine arith_in (wrap_i64 (by (try dsimp only); omega)) ?_
      conv=>whnf
      exact ⟨p.day, ⟨he, fun h => by omega, fun j hj => ⟨p, by rw [show j = i by omega]; exact hp, rfl⟩⟩, (Wk.sub ⟨(by first | rfl | (simp only [List.length_map]; rfl) | simp [PX.get]), (by first | rfl | (simp only [List.length_map]; rfl) | simp [PX.get]), trivial⟩ trivial)⟩
  ·rintro last ⟨he, _⟩
   conv=>whnf
   refine brk_i (fun h => absurd h (by simp)) (fun _ => ?_)
   conv=>whnf
   rw [he]
   exact RetA_view 0 rfl ⟨⟨rfl, rfl⟩, rfl⟩
theorem spread_box (m : Int) (b : Box) : boxE m b = if spread (-m) m [b.x, b.y] 0 = 0 ∧ (b.x.hi - b.x.lo > 40 ∨ b.y.hi - b.y.lo > 40) then 2 else spread (-m) m [b.x, b.y] 0 := by
 unfold boxE
 simp only [spread, inB, Bool.and_eq_true, decide_eq_true_eq]
 repeat' split
 all_goals first | rfl | omega | (simp_all <;> omega)
theorem spread_bd {m : Int} {b : Box} (h : spread (-m) m [b.x, b.y] 0 = 0) : (-m ≤ b.x.lo ∧ b.x.hi ≤ m ∧ b.x.lo ≤ b.x.hi) ∧ -m ≤ b.y.lo ∧ b.y.hi ≤ m ∧ b.y.lo ≤ b.y.hi := by
 simp only [spread, inB, Bool.and_eq_true, decide_eq_true_eq] at h
 repeat' split at h
 all_goals omega
set_option maxHeartbeats 1000000 in
theorem ch56 (b : Box) (m : Int) (hm : 0 ≤ m ∧ m ≤ 1000000000) : FnV Tryz.prog 56 [b.d, i64 (-m), i64 m] (i64 (boxE m b)) := by
 rw [spread_box]
 refine fnV_of mixed tysOk Tryz.func56 rfl (ft := ft56) 3 (by decide +kernel) (by rfl) fun {σ} Y st => ?_
 conv=>whnf
 refine CallA_view (fn111 [b.x, b.y] (-m) m (by simp)) rfl 1 rfl ?_
 conv=>whnf
 by_cases h0 : spread (-m) m [b.x, b.y] 0 = 0
 case neg =>
  rw [if_neg (fun h => h0 h.1), decide_eq_false h0]
  conv=>whnf
  exact RetA_view 0 rfl ⟨⟨rfl, rfl⟩, rfl⟩
 have hb := spread_bd h0
 rw [decide_eq_true h0]
 conv=>whnf
 refine arith_in (wrap_i64 (by (try dsimp only); omega)) ?_
 conv=>whnf
 refine brk_i (fun h1 => ?_) (fun h1 => ?_)
 ·rw [if_pos ⟨h0, .inl (of_decide_eq_true h1)⟩]
  conv=>whnf
  exact RetA_view 0 rfl ⟨⟨rfl, rfl⟩, rfl⟩
 ·have h1 : ¬ 40 < b.x.hi - b.x.lo := of_decide_eq_false h1
  conv=>whnf
  refine arith_in (wrap_i64 (by (try dsimp only); omega)) ?_
  conv=>whnf
  refine brk_i (fun h2 => ?_) (fun h2 => ?_)
  ·rw [if_pos ⟨h0, .inr (of_decide_eq_true h2)⟩]
   conv=>whnf
   exact RetA_view 0 rfl ⟨⟨rfl, rfl⟩, rfl⟩
  ·have h2 : ¬ 40 < b.y.hi - b.y.lo := of_decide_eq_false h2
   rw [if_neg (fun h => by have := h.2; omega)]
   conv=>whnf
   exact RetA_view 0 rfl ⟨⟨rfl, rfl⟩, rfl⟩
end Go.PX
namespace Go.PX
open Go.Proofs
end Go.PX
namespace Go.PX
open Go.Proofs
theorem ch42 (x y : Int) : FnV Tryz.prog 42 [i64 x, i64 y] (Pt.d ⟨x, y⟩) := by
 refine fnV_of mixed tysOk Tryz.func42 rfl (ft := ft42) 2 (by decide +kernel) (by rfl) fun {σ} Y st => ?_
 conv=>whnf
 exact RetA_view 0 rfl ⟨⟨rfl, rfl⟩, rfl⟩
end Go.PX
namespace Go.PX
open Go.RowKit
structure Grown (w w' : World) : Prop where
 os : w'.os = w.os
 tape : w'.tape = w.tape
 output : w'.output = w.output
 size : w.heap.size ≤ w'.heap.size
 heap : ∀ b, b < w.heap.size → w'.heap[b]? = w.heap[b]?
theorem Grown.refl (w : World) : Grown w w := ⟨rfl, rfl, rfl, Nat.le_refl _, fun _ _ => rfl⟩
theorem Grown.tr {w w' : World} (h : Grown w w') {F F' : Nat → Nat} (hf : ∀ b, w.heap.size ≤ b → F b = 0) (hF : ∀ b, b < w.heap.size → F' b = F b) : Tr F w F' w' := by
 have lt : ∀ b o, o < F b → b < w.heap.size := fun b o ho => by
  rcases Nat.lt_or_ge b w.heap.size with h | h
  ·exact h
  ·rw [hf b h] at ho; omega
 refine ⟨h.os, h.tape, h.output, h.size, fun b => ?_, fun b o ho => cell_heap (h.heap b (lt b o ho)), fun b e c hb hm => by rw [h.heap b (lt b 0 hb)]; exact hm⟩
 rcases Nat.lt_or_ge b w.heap.size with h | h
 ·rw [hF b h]; exact Nat.le_refl _
 ·rw [hf b h]; exact Nat.zero_le _
theorem fnV_calls {P : Program} {f : FuncId} {ds : List D} {r : D} (he : ∀ (vs : Array Value) (w : World), (callFunc f vs).run P w = .ok (.enter f vs) w)
  (h : ∀ (vals : Array Value) (w : World) (F : Nat → Nat), Laid P w → (∀ b, w.heap.size ≤ b → F b = 0) → RepDL F w ds vals.toList →
   Calls P f vals w fun e w' => ∃ x, e = .returned x ∧ Grown w w' ∧ ∃ F', (∀ b, b < w.heap.size → F' b = F b) ∧ (∀ b, w'.heap.size ≤ b → F' b = 0) ∧ RepD F' w' r x) : FnV P f ds r := by
 intro σ Y s
 refine ⟨he, fun cx hY L F vals w hh hr => ?_⟩
 refine (callsIn_wide.2 (h vals w F (hY.laid _ _ _ hh.hg) hh.fresh (RepVL.inj.1 hr))).mono ?_
 rintro e w' ⟨x, rfl, hgr, F', hF, hf', hx⟩
 have tr := hgr.tr hh.fresh hF
 refine ⟨x, rfl, _, [], s, L, F', ⟨⟨rfl, rfl⟩, rfl⟩, ⟨cx.stable hh.hg tr hf' fun b hb => ⟨hgr.heap b (hh.csz b hb), hF b (hh.csz b hb)⟩, fun b hb => Nat.lt_of_lt_of_le (hh.csz b hb) hgr.size, hf', (fun _ _ h => by cases h), (fun _ _ h => by cases h), (fun _ _ _ _ h => by cases h)⟩, hx, tr, fun _ _ => ⟨rfl, rfl⟩⟩
theorem enters {P : Program} {f : FuncId} {fn : Func} {c : Code} (hf : P.funcs[f]? = some fn) (hb : fn.body = some c) (hname : (fn.name != "runtime.NumGoroutine") = true) (vs : Array Value) (w : World) : (callFunc f vs).run P w = .ok (.enter f vs) w := by
 simp only [bne_iff_ne, ne_eq] at hname
 simp [callFunc, hf, hname, hb, Go.mark]
end Go.PX
namespace Go.PX
open Go.Proofs
open Go.RowKit Go.Proofs
set_option maxHeartbeats 1000000 in
set_option maxRecDepth 100000 in
theorem bld_used (b : Nat) (w : World) (h0 : w.cell? ⟨b, 0, none⟩ = some (.pointer (some ⟨b, 0, none⟩))) :
  Calls Tryz.prog 128 #[.pointer (some ⟨b, 0, none⟩)] w fun e w' => e = .returned (.tuple #[]) ∧ w' = w := by
 obtain ⟨j, hj, hjs⟩ := Option.map_eq_some_iff.1 (show (Tryz.prog.info? 170).map (·.size) = some 2 by kernel_rfl)
 go_enter Tryz.func128, Tryz.ntmps128
 go_wp2
 rw [Lib.run_neq_ptr_same w _ Tryz.underlying167 hj]
 go_wp2
 go_end0
 exact ⟨rfl, rfl⟩
set_option maxHeartbeats 1000000 in
set_option maxRecDepth 100000 in
theorem bld_fresh (b : Nat) (w : World) (h0 : w.cell? ⟨b, 0, none⟩ = some (.pointer none)) (hsh : w.shape? b = some (170, 2)) (hfz : w.frozen? ⟨b, 0, none⟩ = false) :
  Calls Tryz.prog 128 #[.pointer (some ⟨b, 0, none⟩)] w fun e w' => e = .returned (.tuple #[]) ∧ w' = w.setCell ⟨b, 0, none⟩ (.pointer (some ⟨b, 0, none⟩)) := by
 obtain ⟨j, hj, hjs⟩ := Option.map_eq_some_iff.1 (show (Tryz.prog.info? 170).map (·.size) = some 2 by kernel_rfl)
 go_enter Tryz.func128, Tryz.ntmps128
 go_wp2
 rw [Lib.run_to_unsafe w ⟨b, 0, none⟩ Tryz.underlying167 Tryz.underlying193 hj (by rw [hjs]; decide) hsh (Nat.zero_lt_succ 1)]
 simp only [Result.andThen]
 rw [Oper.upon_value]
 go_wp2
 rw [run_callFunc_extern Tryz.func134 (by kernel_rfl) (by kernel_rfl) (by kernel_rfl) (e := Extern.AbiNoEscape.same) (by kernel_rfl)]
 rw [Lib.run_noEscape]
 simp only [Result.andThen]
 rw [Oper.upon_value]
 go_wp2
 rw [Lib.run_from_unsafe w ⟨b, 0, none⟩ Tryz.underlying193 Tryz.underlying167 hj hsh (by kernel_rfl)]
 simp only [Result.andThen]
 rw [Oper.upon_value]
 go_wp2
 go_end0
 exact ⟨rfl, rfl⟩
end Go.PX
namespace Go.PX
open Go.Proofs
def decF : Nat → Nat → List UInt8
 | 0, _ => []
 | f + 1, u => if u < 10 then [UInt8.ofNat (48 + u)] else decF f (u / 10) ++ [UInt8.ofNat (48 + u % 10)]
theorem decF_eq : ∀ (f u : Nat), u < 10 ^ f → 0 < f → decF f u = Lib.decDigits u
 | 0, _, _, h => absurd h (by omega)
 | f + 1, u, hu, _ => by
  rw [decF, Lib.decDigits]
  by_cases h : u < 10
  ·rw [if_pos h, dif_pos h]
  ·rw [if_neg h, dif_neg h]
   have h2 : u / 10 < 10 ^ f := by
    rw [Nat.pow_succ] at hu
    exact Nat.div_lt_of_lt_mul (by omega)
   have hf : 0 < f := by
    rcases Nat.eq_zero_or_pos f with rfl | h3
    ·simp at h2; omega
    ·exact h3
   rw [decF_eq f (u / 10) h2 hf]
theorem decF_len : ∀ (f u : Nat), (decF f u).length ≤ f
 | 0, _ => Nat.le_refl _
 | f + 1, u => by
  rw [decF]
  split
  ·simp
  ·have := decF_len f (u / 10)
   simp; omega
def numL (n : Int) : List UInt8 := if n < 0 then 45 :: decF 19 n.natAbs else decF 19 n.toNat
def numB (n : Int) : ByteArray := ⟨(numL n).toArray⟩
theorem numL_eq {n : Int} (h : -1000000000000000000 ≤ n ∧ n ≤ 1000000000000000000) : numL n = Lib.itoa n := by
  unfold numL Lib.itoa
  split
  · rw [decF_eq 19 n.natAbs (by have : (10 : Nat) ^ 19 = 10000000000000000000 := by decide
                                omega) (by omega)]
  · rw [decF_eq 19 n.toNat (by have : (10 : Nat) ^ 19 = 10000000000000000000 := by decide
                               omega) (by omega)]
theorem numB_size (n : Int) : (numB n).size ≤ 20 := by
 show (numL n).toArray.size ≤ 20
 rw [List.size_toArray]
 unfold numL
 split
 ·have := decF_len 19 n.natAbs; simp; omega
 ·have := decF_len 19 n.toNat; omega
end Go.PX
