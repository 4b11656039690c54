import Derived.Test.YtifbnniijibfgaaPxX
import Derived.Test.YtifbnniijibfgaaPxL
set_option linter.all false
set_option maxRecDepth 10000
namespace Go.PX
open Go.Proofs

/-- A list is copied to memory of one's own. -/
theorem fn104 (p : List Span) (hp : p.length < 1000000) (h0 : p ≠ []) : FnU Try.prog 104 [.d (spansD p)] [] fun v h' => v = .sl 2000000 2 0 p.length ∧ h' = [(2000000, .arr 2 (.dd (p.map Span.cells)))] := by
  intro σ Y s
  refine fnC_of mixed tysOk Try.func104 rfl (ft := ft104) (args := [.d (spansD p)]) (show fnB ft104 Try.f104 1 = true from by decide +kernel) ?_
  conv => whnf
  refine ⟨fun b hb => ?_⟩
  cases b with
  | true => exact absurd (hb (by cases p with
      | nil => exact absurd rfl h0
      | cons a r => simp)) (by simp)
  | false =>
    conv => whnf
    refine chk_i (by
      show (lenAllD 2 (p.map Span.cells) && true) = true
      rw [lenAllD_map (fun x => ⟨rfl, rfl⟩)]; rfl) ?_
    conv => whnf
    refine chk_i (by simp [Els.len, Els.part]; omega) ?_
    conv => whnf
    refine RetA_hand [7] [.sl 2000000 2 0 p.length] [(2000000, .arr 2 (.dd (p.map Span.cells)))] ?_ ?_ rfl ⟨⟨rfl, rfl⟩, rfl⟩
    · show [V.sl 7 2 0 p.length] = [V.sl 7 2 0 (0 + (p.map Span.cells).length)]
      simp
    · exact ⟨rfl, trivial⟩

/-- A list, half turned about. -/
def Turned {α : Type} (l m : List α) (i : Nat) : Prop := m.length = l.length ∧ ∀ k, k < l.length → m[k]? = if k < i ∨ l.length ≤ k + i then l.reverse[k]? else l[k]?

theorem turned_step {α : Type} {p m : List α} {i j : Nat} {x y : α} (h : Turned p m i) (hj : i + j + 1 = p.length) (hij : i < j) (hx : m[i]? = some x) (hy : m[j]? = some y) : Turned p ((m.set i y).set j x) (i + 1) := by
  obtain ⟨hm, hT⟩ := h
  refine ⟨by simp [hm], fun k hk => ?_⟩
  have h1 := hT i (by omega)
  have h2 := hT j (by omega)
  rw [if_neg (by omega), hx] at h1
  rw [if_neg (by omega), hy] at h2
  by_cases hkj : j = k
  · subst hkj
    rw [List.getElem?_set_self (by simp; omega), if_pos (by omega), List.getElem?_reverse (by omega), show p.length - 1 - j = i by omega, h1]
  · rw [List.getElem?_set_ne hkj]
    by_cases hki : i = k
    · subst hki
      rw [List.getElem?_set_self (by omega), if_pos (by omega), List.getElem?_reverse (by omega), show p.length - 1 - i = j by omega, h2]
    · rw [List.getElem?_set_ne hki, hT k hk]
      by_cases hc : k < i ∨ p.length ≤ k + i
      · rw [if_pos hc, if_pos (by omega)]
      · rw [if_neg hc, if_neg (by omega)]

theorem turned_end {α : Type} {p m : List α} {i : Nat} (h : Turned p m i) (hi : p.length ≤ 2 * i + 1) : m = p.reverse := by
  obtain ⟨hm, hT⟩ := h
  refine List.ext_getElem? fun k => ?_
  by_cases hk : k < p.length
  · rw [hT k hk]
    by_cases hc : k < i ∨ p.length ≤ k + i
    · rw [if_pos hc]
    · rw [if_neg hc, List.getElem?_reverse hk, show p.length - 1 - k = k by omega]
  · rw [List.getElem?_eq_none (by omega), List.getElem?_eq_none (by simp; omega)]

theorem fn106 (p : List Span) (hp : p.length < 1000000) : FnU Try.prog 106 [.sl 1000000 2 0 p.length] [(1000000, .arr 2 (.dd (p.map Span.cells)))] fun v h' => v = .d (.tup []) ∧ h' = [(1000000, .arr 2 (.dd (p.reverse.map Span.cells)))] := by
  intro σ Y s
  refine fnC_of mixed tysOk Try.func106 rfl (ft := ft106) (args := [.sl 1000000 2 0 p.length]) (show fnB ft106 Try.f106 1 = true from by decide +kernel) ?_
  conv => whnf
  refine arith_in (wrap_i64 (by (try dsimp only); omega)) ?_
  conv => whnf
  refine LoopA_p (T := tys) tysOk (by exact drawsB_spec mixed tysOk (by decide +kernel)) (α := Nat × List Span)
    (fun x => ⟨[(0, .sl 1000000 2 0 p.length), (2, .d (i64 x.1)), (3, .d (i64 ((p.length : Int) - 1 - x.1)))], [(1000000, .arr 2 (.dd (x.2.map Span.cells)))], s⟩)
    (fun x => 2 * x.1 ≤ p.length + 1 ∧ Turned p x.2 x.1) (fun x => p.length - x.1) (0, p)
    (Wk.sub ⟨rfl, rfl, by simp [PX.get], trivial⟩ ⟨rfl, trivial⟩) ⟨by simp, rfl, fun k hk => by simp; omega⟩ ?_
  rintro ⟨i, m⟩ ⟨hi, hm, hT⟩
  simp only at hi hm hT
  conv => whnf
  refine brk_i (fun hb => ?_) (fun hb => ?_)
  · have hb : (i : Int) < (p.length : Int) - 1 - i := by simpa using hb
    obtain ⟨j, hj⟩ : ∃ j : Nat, i + j + 1 = p.length := ⟨p.length - 1 - i, by omega⟩
    have hj1 : ((p.length : Int) - 1 - (i : Int)).toNat = j := by omega
    have hmi : m[i]? = some m[i] := List.getElem?_eq_getElem (by omega)
    have hmj : m[j]? = some m[j] := List.getElem?_eq_getElem (by omega)
    generalize m[i] = x at *
    generalize m[j] = y at *
    obtain ⟨hm', hT'⟩ := turned_step ⟨hm, hT⟩ hj (by omega) hmi hmj
    conv => whnf
    refine chk_i (by simp; omega) ?_
    conv => whnf
    refine cellK_i y.cells (by simp [hj1, hmj]) ?_
    conv => whnf
    refine chk_i (by simp; omega) ?_
    conv => whnf
    refine cellK_i x.cells (by simp [hmi]) ?_
    conv => whnf
    refine chk_i (by simp; omega) ?_
    conv => whnf
    refine cellK_i x.cells (by simp [hmi]) ?_
    conv => whnf
    refine chk_i (by simp; omega) ?_
    conv => whnf
    refine cellK_i y.cells (by
      show ((m.map Span.cells).set (0 + (i : Int).toNat) y.cells)[0 + ((p.length : Int) - 1 - (i : Int)).toNat]? = _
      rw [hj1, List.getElem?_set_ne (by simp; omega)]
      simp [hmj]) ?_
    conv => whnf
    refine arith_to (((i + 1 : Nat) : Int)) (by (try dsimp only); omega) (wrap_i64 (by (try dsimp only); omega)) ?_
    conv => whnf
    refine arith_to ((p.length : Int) - 1 - ((i + 1 : Nat) : Int)) (by (try dsimp only); omega) (wrap_i64 (by (try dsimp only); omega)) ?_
    conv => whnf
    refine ⟨(i + 1, (m.set i y).set j x), by simp only; omega, ⟨by simp only; omega, hm', hT'⟩, Wk.sub ⟨rfl, rfl, rfl, trivial⟩ ⟨?_, trivial⟩⟩
    show some (Obj.arr 2 (.dd (((m.map Span.cells).set (0 + (i : Int).toNat) y.cells).set (0 + ((p.length : Int) - 1 - (i : Int)).toNat) x.cells))) = _
    rw [hj1]
    simp [List.map_set]
  · have hb : ¬ (i : Int) < (p.length : Int) - 1 - i := by simpa using hb
    conv => whnf
    rw [turned_end ⟨hm, hT⟩ (by omega)]
    exact RetA_hand [] [] [(1000000, .arr 2 (.dd (p.reverse.map Span.cells)))] rfl ⟨rfl, trivial⟩ rfl ⟨⟨rfl, rfl⟩, rfl⟩
/-- A list is copied to memory of one's own. -/
theorem fn105 (p : List Shot) (hp : p.length < 1000000) (h0 : p ≠ []) : FnU Try.prog 105 [.d (shotsD p)] [] fun v h' => v = .sl 2000000 8 0 p.length ∧ h' = [(2000000, .arr 8 (.dd (p.map Shot.cells)))] := by
  intro σ Y s
  refine fnC_of mixed tysOk Try.func105 rfl (ft := ft105) (args := [.d (shotsD p)]) (show fnB ft105 Try.f105 1 = true from by decide +kernel) ?_
  conv => whnf
  refine ⟨fun b hb => ?_⟩
  cases b with
  | true => exact absurd (hb (by cases p with
      | nil => exact absurd rfl h0
      | cons a r => simp)) (by simp)
  | false =>
    conv => whnf
    refine chk_i (by
      show (lenAllD 8 (p.map Shot.cells) && true) = true
      rw [lenAllD_map (fun x => ⟨rfl, rfl⟩)]; rfl) ?_
    conv => whnf
    refine chk_i (by simp [Els.len, Els.part]; omega) ?_
    conv => whnf
    refine RetA_hand [7] [.sl 2000000 8 0 p.length] [(2000000, .arr 8 (.dd (p.map Shot.cells)))] ?_ ?_ rfl ⟨⟨rfl, rfl⟩, rfl⟩
    · show [V.sl 7 8 0 p.length] = [V.sl 7 8 0 (0 + (p.map Shot.cells).length)]
      simp
    · exact ⟨rfl, trivial⟩

theorem fn107 (p : List Shot) (hp : p.length < 1000000) : FnU Try.prog 107 [.sl 1000000 8 0 p.length] [(1000000, .arr 8 (.dd (p.map Shot.cells)))] fun v h' => v = .d (.tup []) ∧ h' = [(1000000, .arr 8 (.dd (p.reverse.map Shot.cells)))] := by
  intro σ Y s
  refine fnC_of mixed tysOk Try.func107 rfl (ft := ft107) (args := [.sl 1000000 8 0 p.length]) (show fnB ft107 Try.f107 1 = true from by decide +kernel) ?_
  conv => whnf
  refine arith_in (wrap_i64 (by (try dsimp only); omega)) ?_
  conv => whnf
  refine LoopA_p (T := tys) tysOk (by exact drawsB_spec mixed tysOk (by decide +kernel)) (α := Nat × List Shot)
    (fun x => ⟨[(0, .sl 1000000 8 0 p.length), (2, .d (i64 x.1)), (3, .d (i64 ((p.length : Int) - 1 - x.1)))], [(1000000, .arr 8 (.dd (x.2.map Shot.cells)))], s⟩)
    (fun x => 2 * x.1 ≤ p.length + 1 ∧ Turned p x.2 x.1) (fun x => p.length - x.1) (0, p)
    (Wk.sub ⟨rfl, rfl, by simp [PX.get], trivial⟩ ⟨rfl, trivial⟩) ⟨by simp, rfl, fun k hk => by simp; omega⟩ ?_
  rintro ⟨i, m⟩ ⟨hi, hm, hT⟩
  simp only at hi hm hT
  conv => whnf
  refine brk_i (fun hb => ?_) (fun hb => ?_)
  · have hb : (i : Int) < (p.length : Int) - 1 - i := by simpa using hb
    obtain ⟨j, hj⟩ : ∃ j : Nat, i + j + 1 = p.length := ⟨p.length - 1 - i, by omega⟩
    have hj1 : ((p.length : Int) - 1 - (i : Int)).toNat = j := by omega
    have hmi : m[i]? = some m[i] := List.getElem?_eq_getElem (by omega)
    have hmj : m[j]? = some m[j] := List.getElem?_eq_getElem (by omega)
    generalize m[i] = x at *
    generalize m[j] = y at *
    obtain ⟨hm', hT'⟩ := turned_step ⟨hm, hT⟩ hj (by omega) hmi hmj
    conv => whnf
    refine chk_i (by simp; omega) ?_
    conv => whnf
    refine cellK_i y.cells (by simp [hj1, hmj]) ?_
    conv => whnf
    refine chk_i (by simp; omega) ?_
    conv => whnf
    refine cellK_i x.cells (by simp [hmi]) ?_
    conv => whnf
    refine chk_i (by simp; omega) ?_
    conv => whnf
    refine cellK_i x.cells (by simp [hmi]) ?_
    conv => whnf
    refine chk_i (by simp; omega) ?_
    conv => whnf
    refine cellK_i y.cells (by
      show ((m.map Shot.cells).set (0 + (i : Int).toNat) y.cells)[0 + ((p.length : Int) - 1 - (i : Int)).toNat]? = _
      rw [hj1, List.getElem?_set_ne (by simp; omega)]
      simp [hmj]) ?_
    conv => whnf
    refine arith_to (((i + 1 : Nat) : Int)) (by (try dsimp only); omega) (wrap_i64 (by (try dsimp only); omega)) ?_
    conv => whnf
    refine arith_to ((p.length : Int) - 1 - ((i + 1 : Nat) : Int)) (by (try dsimp only); omega) (wrap_i64 (by (try dsimp only); omega)) ?_
    conv => whnf
    refine ⟨(i + 1, (m.set i y).set j x), by simp only; omega, ⟨by simp only; omega, hm', hT'⟩, Wk.sub ⟨rfl, rfl, rfl, trivial⟩ ⟨?_, trivial⟩⟩
    show some (Obj.arr 8 (.dd (((m.map Shot.cells).set (0 + (i : Int).toNat) y.cells).set (0 + ((p.length : Int) - 1 - (i : Int)).toNat) x.cells))) = _
    rw [hj1]
    simp [List.map_set]
  · have hb : ¬ (i : Int) < (p.length : Int) - 1 - i := by simpa using hb
    conv => whnf
    rw [turned_end ⟨hm, hT⟩ (by omega)]
    exact RetA_hand [] [] [(1000000, .arr 8 (.dd (p.reverse.map Shot.cells)))] rfl ⟨rfl, trivial⟩ rfl ⟨⟨rfl, rfl⟩, rfl⟩
end Go.PX

namespace Go.PX
open Go.Proofs

/-- What region 2 of func 77 looks at; the copies are made there. -/
def ft77b : FT := ⟨[0, 1, 2, 6, 7, 9, 29, 30, 31, 32, 46], [(2, ⟨[101088, 101536], [⟨[0], []⟩, ⟨[13], []⟩, ⟨[14], []⟩, ⟨[15], []⟩, ⟨[16], []⟩, ⟨[0], [0, 1, 2, 3, 4]⟩, ⟨[18], [0, 1, 2, 3, 4]⟩, ⟨[19], [0, 1, 2, 3, 4]⟩, ⟨[20], [0, 1, 2, 3, 4]⟩, ⟨[21], [0, 1, 2, 3, 4]⟩, ⟨[22], [0, 1, 2, 3, 4]⟩, ⟨[23], []⟩, ⟨[7], []⟩, ⟨[17, 25], []⟩, ⟨[7], []⟩, ⟨[26], []⟩, ⟨[27], []⟩, ⟨[24, 28], []⟩]⟩), (6, ⟨[], [⟨[7], []⟩, ⟨[35], []⟩, ⟨[9], [0, 1]⟩, ⟨[0], [0, 1, 2]⟩, ⟨[38], [0, 1, 2]⟩, ⟨[39], [0, 1, 2]⟩, ⟨[40], [0, 1, 2]⟩, ⟨[9], [0, 1, 2, 3, 4, 5, 6]⟩, ⟨[41, 42], [0, 1, 2]⟩, ⟨[36, 37], []⟩, ⟨[43, 44], []⟩]⟩)]⟩

def newAt (c : Case) (i : Int) : Span := match c.chain.shots[i.toNat]? with
  | some s => s.new
  | none => ⟨0, 0⟩
def renewT (c : Case) (th : List Span) (w : List Int) : List Span := w.foldl (fun t i => t.set i.toNat (newAt c i)) th
def turnC (c : Case) (rev : Bool) : Case := if rev then { c with chain := { c.chain with shots := c.chain.shots.reverse } } else c
def turnT (th : List Span) (rev : Bool) : List Span := if rev then th.reverse else th

theorem DrawCall_fnU {P : Program} {e : Env} {h : Heap} {d : Option Nat} {f : FuncId} {args : List V} {args0 : List V} {v0 : V} {h1 : Heap} (hf : FnU P f args0 [] fun v h' => v = v0 ∧ h' = h1) (hargs : renL (callR [] (d.getD 0)) args0 = args)
    (hB : callB [] d v0 h1 = true) {K : List Wr → Prop} (hk : K (callWs [] d v0 h1)) : DrawCall P e h d f args K :=
  DrawCall_fn hf [] hargs rfl hB hk

theorem fn77 (c : Case) (th : List Span) (w : List Int) (rev : Bool) (h : MoorOk c th) (hw : ∀ i ∈ w, 0 ≤ i ∧ i < c.chain.shots.length) (hwl : w.length < 1000000) :
    FnV Try.prog 77 [mD c th (freshM c.chain.shots 0), intsD w, .bool rev] (mD (turnC c rev) (turnT (renewT c th w) rev) (freshM c.chain.shots 0)) := by
  refine fnV_of mixed tysOk Try.func77 rfl (ft := ft77b) 3 (by decide +kernel) (by rfl) fun {σ} Y st => ?_
  have hls := h.case.lens
  have hlt := h.len
  conv => whnf
  refine DrawCall_fnU (args0 := [.d (spansD th)]) (fn104 th (by omega) (by intro h0; subst h0; simp at hlt; omega)) rfl rfl ?_
  conv => whnf
  refine DrawCall_fnU (args0 := [.d (shotsD c.chain.shots)]) (fn105 c.chain.shots (by omega) (by intro h0; rw [h0] at hls; simp at hls)) rfl rfl ?_
  conv => whnf
  have hT0 : th.length = c.chain.shots.length := hlt
  refine LoopA_i (T := tys) tysOk (by exact drawsB_spec mixed tysOk (by decide +kernel)) w (fun i (t : List Span) => ⟨[(0, .d (mD c th (freshM c.chain.shots 0))), (2, .d (.bool rev)), (7, .ptr 7 0), (29, .d (intsD w)), (30, .d (i64 w.length)), (31, .d (i64 i))],
      [(7, .box (.vv (.sl 101536 8 0 c.chain.shots.length :: inj c.cells.tail ++ [.sl 101088 2 0 t.length, .d (.mv (freshM c.chain.shots 0))]))), (101088, .arr 2 (.dd (t.map Span.cells))), (101536, .arr 8 (.dd (c.chain.shots.map Shot.cells)))], st⟩)
    (fun i r t => (∀ n ∈ r, 0 ≤ n ∧ n < c.chain.shots.length) ∧ t.length = th.length ∧ renewT c th w = r.foldl (fun t i => t.set i.toNat (newAt c i)) t) th
    (Wk.sub ⟨(by first | rfl | (simp only [List.length_map]; rfl) | simp [PX.get]), (by first | rfl | (simp only [List.length_map]; rfl) | simp [PX.get]), (by first | rfl | (simp only [List.length_map]; rfl) | simp [PX.get]), (by first | rfl | (simp only [List.length_map]; rfl) | simp [PX.get]), (by first | rfl | (simp only [List.length_map]; rfl) | simp [PX.get]), (by first | rfl | (simp only [List.length_map]; rfl) | simp [PX.get]), trivial⟩ ⟨(by first | rfl | (simp only [List.length_map]; rfl) | simp [PX.get]), (by first | rfl | (simp only [List.length_map]; rfl) | simp [PX.get]), (by first | rfl | (simp only [List.length_map]; rfl) | simp [PX.get]), trivial⟩) ⟨hw, rfl, rfl⟩ ?_ ?_
  · intro i x r t hx hi hr ⟨hm, htl, he⟩
    obtain ⟨x0, x1⟩ := hm x (by simp)
    have hxl : x.toNat < c.chain.shots.length := by omega
    have hsx : c.chain.shots[x.toNat]? = some c.chain.shots[x.toNat] := List.getElem?_eq_getElem hxl
    have htx : t[x.toNat]? = some t[x.toNat] := List.getElem?_eq_getElem (by omega)
    have hfr := freshM_some c.chain.shots 0 x.toNat 0 _ hsx
    have hnew : newAt c x = c.chain.shots[x.toNat].new := by simp [newAt, hsx]
    rw [List.foldl_cons, hnew] at he
    rw [show (0 : Int) + (x.toNat : Int) = x by omega] at hfr
    generalize c.chain.shots[x.toNat] = s at *
    generalize t[x.toNat] = u at *
    conv => whnf
    refine brk_i (fun _ => ?_) (fun h => absurd hi (by simpa using h))
    conv => whnf
    refine elemK_nat hx ?_
    conv => whnf
    refine ⟨_, hfr, ?_⟩
    conv => whnf
    refine chk_i (by simp; omega) ?_
    conv => whnf
    refine cellK_i u.cells (by simp [htx]) ?_
    conv => whnf
    refine arith_in (wrap_i64 (by (try dsimp only); omega)) ?_
    conv => whnf
    refine ⟨t.set x.toNat s.new, ⟨fun n hn => hm n (by simp [hn]), by simp [htl], he⟩, Wk.sub ⟨rfl, rfl, rfl, rfl, rfl, rfl, trivial⟩ ⟨?_, ?_, rfl, trivial⟩⟩
    · simp only [List.length_set]; rfl
    · show some (Obj.arr 2 (.dd ((t.map Span.cells).set (0 + x.toNat) s.new.cells))) = _
      rw [List.map_set, Nat.zero_add]
  · intro t ⟨_, htl, he⟩
    have he : renewT c th w = t := he
    rw [he]
    conv => whnf
    refine brk_i (fun h => absurd h (by simp)) (fun _ => ?_)
    conv => whnf
    cases rev with
    | false =>
      conv => whnf
      refine RetA_view 2 (ds := [mD (turnC c false) (turnT t false) (freshM c.chain.shots 0)]) (viewL_cons (viewV_ptr rfl (viewL_cons (viewV_sl' (es' := c.chain.shots.map Shot.cells) rfl rfl (by simp)) (viewL_app (a := c.cells.tail) (viewL_cons (viewV_sl' (es' := t.map Span.cells) rfl rfl (by simp)) rfl)))) rfl) ⟨⟨rfl, rfl⟩, rfl⟩
    | true =>
      conv => whnf
      refine CallA_fn (fn106 t (by omega)) [101088] rfl ⟨_, _, rfl, rfl, rfl⟩ rfl ?_
      conv => whnf
      refine CallA_fn (fn107 c.chain.shots (by omega)) [101536] rfl ⟨_, _, rfl, rfl, rfl⟩ rfl ?_
      conv => whnf
      refine RetA_view 2 (ds := [mD (turnC c true) (turnT t true) (freshM c.chain.shots 0)]) (viewL_cons (viewV_ptr rfl (viewL_cons (viewV_sl' (es' := c.chain.shots.reverse.map Shot.cells) rfl rfl (by simp)) (viewL_app (a := c.cells.tail) (viewL_cons (viewV_sl' (es' := t.reverse.map Span.cells) rfl rfl (by simp)) rfl)))) rfl) ⟨⟨rfl, rfl⟩, rfl⟩
end Go.PX

namespace Go.PX
open Go.Proofs

theorem CaseR.turn {c : Case} (h : CaseR c) (rev : Bool) : CaseR (turnC c rev) := by
  cases rev with
  | false => exact h
  | true => exact ⟨by simpa [turnC] using h.lens, h.rlen, h.long, h.heavy, h.err, h.hold, fun s hs => h.shots s (by simpa [turnC] using hs), h.rows, h.ship, h.day, h.wlen, h.weathers⟩

theorem renewT_ok {c : Case} {th : List Span} (h : MoorOk c th) : ∀ (w : List Int) (t : List Span), t.length = th.length → (∀ s ∈ t, (0 ≤ s.lo ∧ s.lo ≤ 1000000) ∧ (0 ≤ s.hi ∧ s.hi ≤ 1000000)) →
    (w.foldl (fun t i => t.set i.toNat (newAt c i)) t).length = th.length ∧ ∀ s ∈ w.foldl (fun t i => t.set i.toNat (newAt c i)) t, (0 ≤ s.lo ∧ s.lo ≤ 1000000) ∧ (0 ≤ s.hi ∧ s.hi ≤ 1000000)
  | [], t, hl, ht => ⟨hl, ht⟩
  | i :: r, t, hl, ht => by
    rw [List.foldl_cons]
    refine renewT_ok h r _ (by simp [hl]) fun s hs => ?_
    rcases List.mem_or_eq_of_mem_set hs with hs | rfl
    · exact ht s hs
    · unfold newAt
      split
      · rename_i x hx
        have := (h.case.shots x (List.mem_of_getElem? hx)).1.new
        omega
      · exact ⟨by simp, by simp⟩

theorem MoorOk.turn {c : Case} {th : List Span} (h : MoorOk c th) (w : List Int) (rev : Bool) : MoorOk (turnC c rev) (turnT (renewT c th w) rev) := by
  obtain ⟨h1, h2⟩ := renewT_ok h w th rfl h.th
  refine ⟨h.case.turn rev, ?_, fun s hs => h2 s ?_⟩
  · cases rev <;> simp [turnC, turnT, renewT, h1, h.len]
  · cases rev with
    | false => exact hs
    | true => exact List.mem_reverse.1 hs

/-- With these shots renewed: does the chain hold, and must it be turned? -/
def renewW (c : Case) (th : List Span) (q : List Int) : Bool × Bool :=
  if (scopesF (turnC c false) (turnT (renewT c th q) false) 1).length > 0 then (false, true)
  else if (scopesF (turnC c true) (turnT (renewT c th q) true) 1).length > 0 then (true, true) else (false, false)

theorem fn76 (c : Case) (th : List Span) (q : List Int) (h : MoorOk c th) (hw : ∀ i ∈ q, 0 ≤ i ∧ i < c.chain.shots.length) (hwl : q.length < 1000000) :
    FnV Try.prog 76 [intsD q, .ref [mD c th (freshM c.chain.shots 0)]] (.tup [.bool (renewW c th q).1, .bool (renewW c th q).2]) := by
  refine fnV_of mixed tysOk Try.func76 rfl (ft := ft76) 2 (by decide +kernel) (by rfl) fun {σ} Y st => ?_
  conv => whnf
  refine LoopA_p (T := tys) tysOk (by exact drawsB_spec mixed tysOk (by decide +kernel)) (α := Nat)
    (fun x => ⟨[(0, .d (intsD q)), (1, .d (.ref [mD c th (freshM c.chain.shots 0)])), (7, .sl 7 1 0 2), (8, .d (i64 2)), (9, .d (i64 x))], [(7, .arr 1 (.dd [[.bool false], [.bool true]]))], st⟩)
    (fun x => x = 0 ∨ (x = 1 ∧ ¬ (scopesF (turnC c false) (turnT (renewT c th q) false) 1).length > 0) ∨ (x = 2 ∧ renewW c th q = (false, false))) (fun x => 2 - x) 0
    (Wk.sub ⟨(by first | rfl | (simp only [List.length_map]; rfl) | simp [PX.get]), (by first | rfl | (simp only [List.length_map]; rfl) | simp [PX.get]), (by first | rfl | (simp only [List.length_map]; rfl) | simp [PX.get]), (by first | rfl | (simp only [List.length_map]; rfl) | simp [PX.get]), (by first | rfl | (simp only [List.length_map]; rfl) | simp [PX.get]), trivial⟩ ⟨(by first | rfl | (simp only [List.length_map]; rfl) | simp [PX.get]), trivial⟩) (.inl rfl) ?_
  intro n hn
  rcases hn with rfl | ⟨rfl, h1⟩ | ⟨rfl, h1⟩
  · conv => whnf
    refine CallA_v (ds := [mD c th (freshM c.chain.shots 0), intsD q, .bool false]) (fn77 c th q false h hw hwl) rfl rfl ?_
    conv => whnf
    refine CallA_v (ds := [mD (turnC c false) (turnT (renewT c th q) false) (freshM c.chain.shots 0), i64 1]) (fn78 (turnC c false) (turnT (renewT c th q) false) (freshM c.chain.shots 0) 1 (h.turn q false)) rfl rfl ?_
    obtain ⟨l, hl⟩ : ∃ x, x = scopesF (turnC c false) (turnT (renewT c th q) false) 1 := ⟨_, rfl⟩
    rw [← hl]
    conv => whnf
    refine brk_i (fun h2 => ?_) (fun h2 => ?_)
    · have h2 : l.length > 0 := by have := of_decide_eq_true h2; simpa using this
      have hE : renewW c th q = (false, true) := by rw [renewW, ← hl, if_pos h2]
      rw [hE]
      conv => whnf
      exact RetA_view 0 rfl ⟨⟨rfl, rfl⟩, rfl⟩
    · have h2 : ¬ l.length > 0 := by have := of_decide_eq_false h2; simpa using this
      conv => whnf
      refine arith_in (wrap_i64 (by (try dsimp only); omega)) ?_
      conv => whnf
      exact ⟨1, by simp, .inr (.inl ⟨rfl, hl ▸ h2⟩), (Wk.sub ⟨(by first | rfl | (simp only [List.length_map]; rfl) | simp [PX.get]), (by first | rfl | (simp only [List.length_map]; rfl) | simp [PX.get]), (by first | rfl | (simp only [List.length_map]; rfl) | simp [PX.get]), (by first | rfl | (simp only [List.length_map]; rfl) | simp [PX.get]), (by first | rfl | (simp only [List.length_map]; rfl) | simp [PX.get]), trivial⟩ ⟨(by first | rfl | (simp only [List.length_map]; rfl) | simp [PX.get]), trivial⟩)⟩
  · conv => whnf
    refine CallA_v (ds := [mD c th (freshM c.chain.shots 0), intsD q, .bool true]) (fn77 c th q true h hw hwl) rfl rfl ?_
    conv => whnf
    refine CallA_v (ds := [mD (turnC c true) (turnT (renewT c th q) true) (freshM c.chain.shots 0), i64 1]) (fn78 (turnC c true) (turnT (renewT c th q) true) (freshM c.chain.shots 0) 1 (h.turn q true)) rfl rfl ?_
    obtain ⟨l, hl⟩ : ∃ x, x = scopesF (turnC c true) (turnT (renewT c th q) true) 1 := ⟨_, rfl⟩
    rw [← hl]
    conv => whnf
    refine brk_i (fun h2 => ?_) (fun h2 => ?_)
    · have h2 : l.length > 0 := by have := of_decide_eq_true h2; simpa using this
      have hE : renewW c th q = (true, true) := by rw [renewW, ← hl, if_neg h1, if_pos h2]
      rw [hE]
      conv => whnf
      exact RetA_view 0 rfl ⟨⟨rfl, rfl⟩, rfl⟩
    · have h2 : ¬ l.length > 0 := by have := of_decide_eq_false h2; simpa using this
      conv => whnf
      refine arith_in (wrap_i64 (by (try dsimp only); omega)) ?_
      conv => whnf
      exact ⟨2, by simp, .inr (.inr ⟨rfl, by rw [renewW, ← hl, if_neg h1, if_neg h2]⟩), (Wk.sub ⟨(by first | rfl | (simp only [List.length_map]; rfl) | simp [PX.get]), (by first | rfl | (simp only [List.length_map]; rfl) | simp [PX.get]), (by first | rfl | (simp only [List.length_map]; rfl) | simp [PX.get]), (by first | rfl | (simp only [List.length_map]; rfl) | simp [PX.get]), (by first | rfl | (simp only [List.length_map]; rfl) | simp [PX.get]), trivial⟩ ⟨(by first | rfl | (simp only [List.length_map]; rfl) | simp [PX.get]), trivial⟩)⟩
  · conv => whnf
    rw [h1]
    exact RetA_view 0 rfl ⟨⟨rfl, rfl⟩, rfl⟩

def renewE (c : Case) : (List Int × Bool) × Int :=
  if lookE c (checkC c).2.2 = 0 then (match chooseF (renewW c (thickL c)) c.chain.shots.length with
    | some (q, y) => ((q, y), 0)
    | none => (([], false), 9)) else (([], false), lookE c (checkC c).2.2)

theorem fn27 (c : Case) : FnV Try.prog 27 [c.d] (.tup [intsD (renewE c).1.1, .bool (renewE c).1.2, i64 (renewE c).2]) := by
  refine fnV_of mixed tysOk Try.func27 rfl (ft := ft27) 1 (by decide +kernel) (by rfl) fun {σ} Y st => ?_
  conv => whnf
  refine CallA_v (fn13 c) rfl rfl ?_
  conv => whnf
  refine CallA_v (fn66' c (checkC c).2.2 (fun h => case_ok h)) rfl rfl ?_
  conv => whnf
  unfold lookD
  by_cases h1 : lookE c (checkC c).2.2 = 0
  · obtain ⟨h0, hs⟩ := lookE_zero h1
    have hR := case_ok h0
    have hM := moor_ok hR
    have hlen := hR.lens
    rw [if_pos h1, h1]
    conv => whnf
    have hwant : Want103 76 [.ref [mD c (thickL c) (freshM c.chain.shots 0)]] (renewW c (thickL c)) c.chain.shots.length := fun q hq hql => fn76 c (thickL c) q hM hq (by omega)
    refine CallA_frz 1 [5] ?_
    refine CallA_sub (e' := [(2, .d .nils), (3, .d (.bool false)), (4, .d (i64 0))]) (h' := []) (args' := [.d (i64 c.chain.shots.length), .d (.clo 76 [.ref [mD c (thickL c) (freshM c.chain.shots 0)]])]) ⟨rfl, rfl, rfl, trivial⟩ trivial (by simp only [List.length_map]; rfl) ?_
    refine CallA_y (fn75 76 [.ref [mD c (thickL c) (freshM c.chain.shots 0)]] (renewW c (thickL c)) c.chain.shots.length (by omega) hwant Y st) [] rfl rfl rfl rfl ?_
    rintro v h1' s' ⟨rfl, rfl, hv⟩
    cases hF : chooseF (renewW c (thickL c)) c.chain.shots.length with
    | some r =>
      obtain ⟨q, y⟩ := r
      rw [hF] at hv
      simp only at hv
      subst hv
      have hE : renewE c = ((q, y), 0) := by simp [renewE, h1, hF]
      rw [hE]
      refine ⟨rfl, ?_⟩
      conv => whnf
      exact RetA_view 0 rfl ⟨⟨rfl, rfl⟩, rfl⟩
    | none =>
      rw [hF] at hv
      obtain ⟨y, rfl⟩ := hv
      have hE : renewE c = (([], false), 9) := by simp [renewE, h1, hF]
      rw [hE]
      refine ⟨rfl, ?_⟩
      conv => whnf
      refine RetA_nil0 ?_
      exact RetA_view 0 rfl ⟨⟨rfl, rfl⟩, rfl⟩
  · have hE : renewE c = (([], false), lookE c (checkC c).2.2) := by simp [renewE, h1]
    rw [hE, if_neg h1]
    conv => whnf
    refine brk_i (fun _ => ?_) (fun h => absurd h (by simpa using h1))
    conv => whnf
    refine RetA_nil0 ?_
    exact RetA_view 0 rfl ⟨⟨rfl, rfl⟩, rfl⟩
end Go.PX
